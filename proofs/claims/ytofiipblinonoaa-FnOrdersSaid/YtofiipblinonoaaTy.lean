/- Printed by dec.py: plain functions and the proofs that the code computes them. No statement of the seat is proved here. -/
import Derived.Test.YtofiipblinonoaaProg
import Derived.Test.YtofiipblinonoaaDu
namespace Go.Proofs.Ytofiipblinonoaa
open Go.RowKit
set_option linter.unusedVariables false
abbrev T_impl_TokenCount := (List UInt8) × Int
abbrev E_impl_TokenCount : Enc T_impl_TokenCount := ePr eStr (eInt .i64)
theorem fl_impl_TokenCount_0 : Fld E_impl_TokenCount 0 eStr (fun x : T_impl_TokenCount => x.1) := Fld.fst
theorem fs_impl_TokenCount_0 : FldS E_impl_TokenCount 0 eStr (fun (x : T_impl_TokenCount) y => (y, x.2)) := FldS.fst
theorem ff_51_0 : FldF Try.prog 51 0 9 0 := ⟨_, _, Try.underlying51, rfl, rfl, rfl⟩
theorem ff_52_0 : FldF Try.prog 52 0 9 0 := ⟨_, _, Try.underlying52, rfl, rfl, rfl⟩
theorem fl_impl_TokenCount_1 : Fld E_impl_TokenCount 1 (eInt .i64) (fun x : T_impl_TokenCount => x.2) := (Fld.snd (Fld.id _))
theorem fs_impl_TokenCount_1 : FldS E_impl_TokenCount 1 (eInt .i64) (fun (x : T_impl_TokenCount) y => (x.1, y)) := (FldS.snd (FldS.id _))
theorem ff_51_1 : FldF Try.prog 51 1 3 1 := ⟨_, _, Try.underlying51, rfl, rfl, rfl⟩
theorem ff_52_1 : FldF Try.prog 52 1 3 1 := ⟨_, _, Try.underlying52, rfl, rfl, rfl⟩
theorem val_impl_TokenCount {A : Av} {w : World} {v : Value} {x : T_impl_TokenCount} (h : Rep E_impl_TokenCount A w v x) : v = .agg #[.string ⟨⟨x.1⟩⟩, .int .i64 x.2] := by
  obtain ⟨cs, rfl, h⟩ := h
  obtain ⟨_, _, rfl, ⟨s0, rfl, e0, _⟩, rfl⟩ := h
  rw [← e0]
  rfl
set_option maxHeartbeats 1000000 in
theorem eql_51 (x y : T_impl_TokenCount) (w : World) : (binOp .eql 51 (.agg #[.string ⟨⟨x.1⟩⟩, .int .i64 x.2]) (.agg #[.string ⟨⟨y.1⟩⟩, .int .i64 y.2])).run Try.prog w = .ok (.bool ((x == y))) w := by
  obtain ⟨p0, p1⟩ := x
  obtain ⟨q0, q1⟩ := y
  rw [show (((p0, p1) : T_impl_TokenCount) == (q0, q1)) = ((p0 == q0) && (p1 == q1)) from rfl]
  cases h0 : (p0 == q0) <;> cases h1 : (p1 == q1) <;> simp [go_sem, ByteArray.toList_eq, h0, h1]
set_option maxHeartbeats 1000000 in
theorem neq_51 (x y : T_impl_TokenCount) (w : World) : (binOp .neq 51 (.agg #[.string ⟨⟨x.1⟩⟩, .int .i64 x.2]) (.agg #[.string ⟨⟨y.1⟩⟩, .int .i64 y.2])).run Try.prog w = .ok (.bool (!(x == y))) w := by
  obtain ⟨p0, p1⟩ := x
  obtain ⟨q0, q1⟩ := y
  rw [show (((p0, p1) : T_impl_TokenCount) == (q0, q1)) = ((p0 == q0) && (p1 == q1)) from rfl]
  cases h0 : (p0 == q0) <;> cases h1 : (p1 == q1) <;> simp [go_sem, ByteArray.toList_eq, h0, h1]
set_option maxHeartbeats 1000000 in
theorem eql_52 (x y : T_impl_TokenCount) (w : World) : (binOp .eql 52 (.agg #[.string ⟨⟨x.1⟩⟩, .int .i64 x.2]) (.agg #[.string ⟨⟨y.1⟩⟩, .int .i64 y.2])).run Try.prog w = .ok (.bool ((x == y))) w := by
  obtain ⟨p0, p1⟩ := x
  obtain ⟨q0, q1⟩ := y
  rw [show (((p0, p1) : T_impl_TokenCount) == (q0, q1)) = ((p0 == q0) && (p1 == q1)) from rfl]
  cases h0 : (p0 == q0) <;> cases h1 : (p1 == q1) <;> simp [go_sem, ByteArray.toList_eq, h0, h1]
set_option maxHeartbeats 1000000 in
theorem neq_52 (x y : T_impl_TokenCount) (w : World) : (binOp .neq 52 (.agg #[.string ⟨⟨x.1⟩⟩, .int .i64 x.2]) (.agg #[.string ⟨⟨y.1⟩⟩, .int .i64 y.2])).run Try.prog w = .ok (.bool (!(x == y))) w := by
  obtain ⟨p0, p1⟩ := x
  obtain ⟨q0, q1⟩ := y
  rw [show (((p0, p1) : T_impl_TokenCount) == (q0, q1)) = ((p0 == q0) && (p1 == q1)) from rfl]
  cases h0 : (p0 == q0) <;> cases h1 : (p1 == q1) <;> simp [go_sem, ByteArray.toList_eq, h0, h1]
abbrev T_impl_Test := Int × Int × Bool
abbrev E_impl_Test : Enc T_impl_Test := ePr (eInt .i64) (ePr (eInt .i64) eBool)
theorem fl_impl_Test_0 : Fld E_impl_Test 0 (eInt .i64) (fun x : T_impl_Test => x.1) := Fld.fst
theorem fs_impl_Test_0 : FldS E_impl_Test 0 (eInt .i64) (fun (x : T_impl_Test) y => (y, x.2.1, x.2.2)) := FldS.fst
theorem ff_101_0 : FldF Try.prog 101 0 3 0 := ⟨_, _, Try.underlying101, rfl, rfl, rfl⟩
theorem ff_102_0 : FldF Try.prog 102 0 3 0 := ⟨_, _, Try.underlying102, rfl, rfl, rfl⟩
theorem fl_impl_Test_1 : Fld E_impl_Test 1 (eInt .i64) (fun x : T_impl_Test => x.2.1) := (Fld.snd Fld.fst)
theorem fs_impl_Test_1 : FldS E_impl_Test 1 (eInt .i64) (fun (x : T_impl_Test) y => (x.1, y, x.2.2)) := (FldS.snd FldS.fst)
theorem ff_101_1 : FldF Try.prog 101 1 3 1 := ⟨_, _, Try.underlying101, rfl, rfl, rfl⟩
theorem ff_102_1 : FldF Try.prog 102 1 3 1 := ⟨_, _, Try.underlying102, rfl, rfl, rfl⟩
theorem fl_impl_Test_2 : Fld E_impl_Test 2 eBool (fun x : T_impl_Test => x.2.2) := (Fld.snd (Fld.snd (Fld.id _)))
theorem fs_impl_Test_2 : FldS E_impl_Test 2 eBool (fun (x : T_impl_Test) y => (x.1, x.2.1, y)) := (FldS.snd (FldS.snd (FldS.id _)))
theorem ff_101_2 : FldF Try.prog 101 2 4 2 := ⟨_, _, Try.underlying101, rfl, rfl, rfl⟩
theorem ff_102_2 : FldF Try.prog 102 2 4 2 := ⟨_, _, Try.underlying102, rfl, rfl, rfl⟩
theorem val_impl_Test {A : Av} {w : World} {v : Value} {x : T_impl_Test} (h : Rep E_impl_Test A w v x) : v = .agg #[.int .i64 x.1, .int .i64 x.2.1, .bool x.2.2] := by
  obtain ⟨cs, rfl, h⟩ := h
  obtain ⟨_, _, rfl, rfl, ⟨_, _, rfl, rfl, rfl⟩⟩ := h
  rfl
set_option maxHeartbeats 1000000 in
theorem eql_101 (x y : T_impl_Test) (w : World) : (binOp .eql 101 (.agg #[.int .i64 x.1, .int .i64 x.2.1, .bool x.2.2]) (.agg #[.int .i64 y.1, .int .i64 y.2.1, .bool y.2.2])).run Try.prog w = .ok (.bool ((x == y))) w := by
  obtain ⟨p0, p1, p2⟩ := x
  obtain ⟨q0, q1, q2⟩ := y
  rw [show (((p0, p1, p2) : T_impl_Test) == (q0, q1, q2)) = ((p0 == q0) && ((p1 == q1) && (p2 == q2))) from rfl]
  cases h0 : (p0 == q0) <;> cases h1 : (p1 == q1) <;> cases h2 : (p2 == q2) <;> simp [go_sem, h0, h1, h2]
set_option maxHeartbeats 1000000 in
theorem neq_101 (x y : T_impl_Test) (w : World) : (binOp .neq 101 (.agg #[.int .i64 x.1, .int .i64 x.2.1, .bool x.2.2]) (.agg #[.int .i64 y.1, .int .i64 y.2.1, .bool y.2.2])).run Try.prog w = .ok (.bool (!(x == y))) w := by
  obtain ⟨p0, p1, p2⟩ := x
  obtain ⟨q0, q1, q2⟩ := y
  rw [show (((p0, p1, p2) : T_impl_Test) == (q0, q1, q2)) = ((p0 == q0) && ((p1 == q1) && (p2 == q2))) from rfl]
  cases h0 : (p0 == q0) <;> cases h1 : (p1 == q1) <;> cases h2 : (p2 == q2) <;> simp [go_sem, h0, h1, h2]
set_option maxHeartbeats 1000000 in
theorem eql_102 (x y : T_impl_Test) (w : World) : (binOp .eql 102 (.agg #[.int .i64 x.1, .int .i64 x.2.1, .bool x.2.2]) (.agg #[.int .i64 y.1, .int .i64 y.2.1, .bool y.2.2])).run Try.prog w = .ok (.bool ((x == y))) w := by
  obtain ⟨p0, p1, p2⟩ := x
  obtain ⟨q0, q1, q2⟩ := y
  rw [show (((p0, p1, p2) : T_impl_Test) == (q0, q1, q2)) = ((p0 == q0) && ((p1 == q1) && (p2 == q2))) from rfl]
  cases h0 : (p0 == q0) <;> cases h1 : (p1 == q1) <;> cases h2 : (p2 == q2) <;> simp [go_sem, h0, h1, h2]
set_option maxHeartbeats 1000000 in
theorem neq_102 (x y : T_impl_Test) (w : World) : (binOp .neq 102 (.agg #[.int .i64 x.1, .int .i64 x.2.1, .bool x.2.2]) (.agg #[.int .i64 y.1, .int .i64 y.2.1, .bool y.2.2])).run Try.prog w = .ok (.bool (!(x == y))) w := by
  obtain ⟨p0, p1, p2⟩ := x
  obtain ⟨q0, q1, q2⟩ := y
  rw [show (((p0, p1, p2) : T_impl_Test) == (q0, q1, q2)) = ((p0 == q0) && ((p1 == q1) && (p2 == q2))) from rfl]
  cases h0 : (p0 == q0) <;> cases h1 : (p1 == q1) <;> cases h2 : (p2 == q2) <;> simp [go_sem, h0, h1, h2]
abbrev T_impl_Rule := (List T_impl_Test)
abbrev E_impl_Rule : Enc T_impl_Rule := eBx (eSl E_impl_Test)
theorem fl_impl_Rule_0 : Fld E_impl_Rule 0 (eSl E_impl_Test) (fun x : T_impl_Rule => x) := Fld.bx
theorem fs_impl_Rule_0 : FldS E_impl_Rule 0 (eSl E_impl_Test) (fun (x : T_impl_Rule) y => y) := FldS.bx
theorem ff_99_0 : FldF Try.prog 99 0 98 0 := ⟨_, _, Try.underlying99, rfl, rfl, rfl⟩
theorem ff_100_0 : FldF Try.prog 100 0 98 0 := ⟨_, _, Try.underlying100, rfl, rfl, rfl⟩
abbrev T_impl_RuleSet := (List T_impl_Rule)
abbrev E_impl_RuleSet : Enc T_impl_RuleSet := eBx (eSl E_impl_Rule)
theorem fl_impl_RuleSet_0 : Fld E_impl_RuleSet 0 (eSl E_impl_Rule) (fun x : T_impl_RuleSet => x) := Fld.bx
theorem fs_impl_RuleSet_0 : FldS E_impl_RuleSet 0 (eSl E_impl_Rule) (fun (x : T_impl_RuleSet) y => y) := FldS.bx
theorem ff_54_0 : FldF Try.prog 54 0 53 0 := ⟨_, _, Try.underlying54, rfl, rfl, rfl⟩
theorem ff_55_0 : FldF Try.prog 55 0 53 0 := ⟨_, _, Try.underlying55, rfl, rfl, rfl⟩
abbrev T_spec_l1Cur := (List Int) × Int × Int
abbrev E_spec_l1Cur : Enc T_spec_l1Cur := ePr (eSl (eInt .u8)) (ePr (eInt .i64) (eInt .i64))
theorem fl_spec_l1Cur_0 : Fld E_spec_l1Cur 0 (eSl (eInt .u8)) (fun x : T_spec_l1Cur => x.1) := Fld.fst
theorem fs_spec_l1Cur_0 : FldS E_spec_l1Cur 0 (eSl (eInt .u8)) (fun (x : T_spec_l1Cur) y => (y, x.2.1, x.2.2)) := FldS.fst
theorem ff_107_0 : FldF Try.prog 107 0 33 0 := ⟨_, _, Try.underlying107, rfl, rfl, rfl⟩
theorem ff_108_0 : FldF Try.prog 108 0 33 0 := ⟨_, _, Try.underlying108, rfl, rfl, rfl⟩
theorem fl_spec_l1Cur_1 : Fld E_spec_l1Cur 1 (eInt .i64) (fun x : T_spec_l1Cur => x.2.1) := (Fld.snd Fld.fst)
theorem fs_spec_l1Cur_1 : FldS E_spec_l1Cur 1 (eInt .i64) (fun (x : T_spec_l1Cur) y => (x.1, y, x.2.2)) := (FldS.snd FldS.fst)
theorem ff_107_1 : FldF Try.prog 107 1 3 1 := ⟨_, _, Try.underlying107, rfl, rfl, rfl⟩
theorem ff_108_1 : FldF Try.prog 108 1 3 1 := ⟨_, _, Try.underlying108, rfl, rfl, rfl⟩
theorem fl_spec_l1Cur_2 : Fld E_spec_l1Cur 2 (eInt .i64) (fun x : T_spec_l1Cur => x.2.2) := (Fld.snd (Fld.snd (Fld.id _)))
theorem fs_spec_l1Cur_2 : FldS E_spec_l1Cur 2 (eInt .i64) (fun (x : T_spec_l1Cur) y => (x.1, x.2.1, y)) := (FldS.snd (FldS.snd (FldS.id _)))
theorem ff_107_2 : FldF Try.prog 107 2 3 2 := ⟨_, _, Try.underlying107, rfl, rfl, rfl⟩
theorem ff_108_2 : FldF Try.prog 108 2 3 2 := ⟨_, _, Try.underlying108, rfl, rfl, rfl⟩
theorem el_9 : ElF Try.prog 9 1 := el_of Try.zeroValue9 Try.sizeOf9 (by kernel_rfl : (Try.prog.info? 9).map (·.bytes) = some 16) rfl (by decide) (by decide)
theorem el_3 : ElF Try.prog 3 1 := el_of Try.zeroValue3 Try.sizeOf3 (by kernel_rfl : (Try.prog.info? 3).map (·.bytes) = some 8) rfl (by decide) (by decide)
theorem el_5 : ElF Try.prog 5 1 := el_of Try.zeroValue5 Try.sizeOf5 (by kernel_rfl : (Try.prog.info? 5).map (·.bytes) = some 1) rfl (by decide) (by decide)
theorem el_52 : ElF Try.prog 52 2 := el_of Try.zeroValue52 Try.sizeOf52 (by kernel_rfl : (Try.prog.info? 52).map (·.bytes) = some 24) rfl (by decide) (by decide)
theorem el_22 : ElF Try.prog 22 1 := el_of Try.zeroValue22 Try.sizeOf22 (by kernel_rfl : (Try.prog.info? 22).map (·.bytes) = some 24) rfl (by decide) (by decide)
theorem el_100 : ElF Try.prog 100 1 := el_of Try.zeroValue100 Try.sizeOf100 (by kernel_rfl : (Try.prog.info? 100).map (·.bytes) = some 24) rfl (by decide) (by decide)
theorem el_24 : ElF Try.prog 24 1 := el_of Try.zeroValue24 Try.sizeOf24 (by kernel_rfl : (Try.prog.info? 24).map (·.bytes) = some 24) rfl (by decide) (by decide)
theorem el_102 : ElF Try.prog 102 3 := el_of Try.zeroValue102 Try.sizeOf102 (by kernel_rfl : (Try.prog.info? 102).map (·.bytes) = some 24) rfl (by decide) (by decide)
end Go.Proofs.Ytofiipblinonoaa
