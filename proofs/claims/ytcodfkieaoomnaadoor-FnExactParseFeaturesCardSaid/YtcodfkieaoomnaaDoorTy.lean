/- Printed by dec.py: plain functions and the proofs that the code computes them. No statement of the seat is proved here. -/
import Derived.Test.YtcodfkieaoomnaaDoorProg
import Derived.Test.YtcodfkieaoomnaaDoorDu
namespace Go.Proofs.YtcodfkieaoomnaaDoor
open Go.RowKit
set_option linter.unusedVariables false
abbrev T_impl_Test := Int × Int × Bool
abbrev E_impl_Test : Enc T_impl_Test := ePr (eInt .i64) (ePr (eInt .i64) eBool)
theorem fl_impl_Test_0 : Fld E_impl_Test 0 (eInt .i64) (fun x : T_impl_Test => x.1) := Fld.fst
theorem fs_impl_Test_0 : FldS E_impl_Test 0 (eInt .i64) (fun (x : T_impl_Test) y => (y, x.2.1, x.2.2)) := FldS.fst
theorem ff_46_0 : FldF Tryd.prog 46 0 3 0 := ⟨_, _, Tryd.underlying46, rfl, rfl, rfl⟩
theorem ff_47_0 : FldF Tryd.prog 47 0 3 0 := ⟨_, _, Tryd.underlying47, rfl, rfl, rfl⟩
theorem fl_impl_Test_1 : Fld E_impl_Test 1 (eInt .i64) (fun x : T_impl_Test => x.2.1) := (Fld.snd Fld.fst)
theorem fs_impl_Test_1 : FldS E_impl_Test 1 (eInt .i64) (fun (x : T_impl_Test) y => (x.1, y, x.2.2)) := (FldS.snd FldS.fst)
theorem ff_46_1 : FldF Tryd.prog 46 1 3 1 := ⟨_, _, Tryd.underlying46, rfl, rfl, rfl⟩
theorem ff_47_1 : FldF Tryd.prog 47 1 3 1 := ⟨_, _, Tryd.underlying47, rfl, rfl, rfl⟩
theorem fl_impl_Test_2 : Fld E_impl_Test 2 eBool (fun x : T_impl_Test => x.2.2) := (Fld.snd (Fld.snd (Fld.id _)))
theorem fs_impl_Test_2 : FldS E_impl_Test 2 eBool (fun (x : T_impl_Test) y => (x.1, x.2.1, y)) := (FldS.snd (FldS.snd (FldS.id _)))
theorem ff_46_2 : FldF Tryd.prog 46 2 4 2 := ⟨_, _, Tryd.underlying46, rfl, rfl, rfl⟩
theorem ff_47_2 : FldF Tryd.prog 47 2 4 2 := ⟨_, _, Tryd.underlying47, rfl, rfl, rfl⟩
theorem val_impl_Test {A : Av} {w : World} {v : Value} {x : T_impl_Test} (h : Rep E_impl_Test A w v x) : v = .agg #[.int .i64 x.1, .int .i64 x.2.1, .bool x.2.2] := by
  obtain ⟨cs, rfl, h⟩ := h
  obtain ⟨_, _, rfl, rfl, ⟨_, _, rfl, rfl, rfl⟩⟩ := h
  rfl
set_option maxHeartbeats 1000000 in
theorem eql_46 (x y : T_impl_Test) (w : World) : (binOp .eql 46 (.agg #[.int .i64 x.1, .int .i64 x.2.1, .bool x.2.2]) (.agg #[.int .i64 y.1, .int .i64 y.2.1, .bool y.2.2])).run Tryd.prog w = .ok (.bool ((x == y))) w := by
  obtain ⟨p0, p1, p2⟩ := x
  obtain ⟨q0, q1, q2⟩ := y
  rw [show (((p0, p1, p2) : T_impl_Test) == (q0, q1, q2)) = ((p0 == q0) && ((p1 == q1) && (p2 == q2))) from rfl]
  cases h0 : (p0 == q0) <;> cases h1 : (p1 == q1) <;> cases h2 : (p2 == q2) <;> simp [go_sem, h0, h1, h2]
set_option maxHeartbeats 1000000 in
theorem neq_46 (x y : T_impl_Test) (w : World) : (binOp .neq 46 (.agg #[.int .i64 x.1, .int .i64 x.2.1, .bool x.2.2]) (.agg #[.int .i64 y.1, .int .i64 y.2.1, .bool y.2.2])).run Tryd.prog w = .ok (.bool (!(x == y))) w := by
  obtain ⟨p0, p1, p2⟩ := x
  obtain ⟨q0, q1, q2⟩ := y
  rw [show (((p0, p1, p2) : T_impl_Test) == (q0, q1, q2)) = ((p0 == q0) && ((p1 == q1) && (p2 == q2))) from rfl]
  cases h0 : (p0 == q0) <;> cases h1 : (p1 == q1) <;> cases h2 : (p2 == q2) <;> simp [go_sem, h0, h1, h2]
set_option maxHeartbeats 1000000 in
theorem eql_47 (x y : T_impl_Test) (w : World) : (binOp .eql 47 (.agg #[.int .i64 x.1, .int .i64 x.2.1, .bool x.2.2]) (.agg #[.int .i64 y.1, .int .i64 y.2.1, .bool y.2.2])).run Tryd.prog w = .ok (.bool ((x == y))) w := by
  obtain ⟨p0, p1, p2⟩ := x
  obtain ⟨q0, q1, q2⟩ := y
  rw [show (((p0, p1, p2) : T_impl_Test) == (q0, q1, q2)) = ((p0 == q0) && ((p1 == q1) && (p2 == q2))) from rfl]
  cases h0 : (p0 == q0) <;> cases h1 : (p1 == q1) <;> cases h2 : (p2 == q2) <;> simp [go_sem, h0, h1, h2]
set_option maxHeartbeats 1000000 in
theorem neq_47 (x y : T_impl_Test) (w : World) : (binOp .neq 47 (.agg #[.int .i64 x.1, .int .i64 x.2.1, .bool x.2.2]) (.agg #[.int .i64 y.1, .int .i64 y.2.1, .bool y.2.2])).run Tryd.prog w = .ok (.bool (!(x == y))) w := by
  obtain ⟨p0, p1, p2⟩ := x
  obtain ⟨q0, q1, q2⟩ := y
  rw [show (((p0, p1, p2) : T_impl_Test) == (q0, q1, q2)) = ((p0 == q0) && ((p1 == q1) && (p2 == q2))) from rfl]
  cases h0 : (p0 == q0) <;> cases h1 : (p1 == q1) <;> cases h2 : (p2 == q2) <;> simp [go_sem, h0, h1, h2]
abbrev T_impl_Rule := (List T_impl_Test)
abbrev E_impl_Rule : Enc T_impl_Rule := eBx (eSl E_impl_Test)
theorem fl_impl_Rule_0 : Fld E_impl_Rule 0 (eSl E_impl_Test) (fun x : T_impl_Rule => x) := Fld.bx
theorem fs_impl_Rule_0 : FldS E_impl_Rule 0 (eSl E_impl_Test) (fun (x : T_impl_Rule) y => y) := FldS.bx
theorem ff_44_0 : FldF Tryd.prog 44 0 43 0 := ⟨_, _, Tryd.underlying44, rfl, rfl, rfl⟩
theorem ff_45_0 : FldF Tryd.prog 45 0 43 0 := ⟨_, _, Tryd.underlying45, rfl, rfl, rfl⟩
abbrev T_impl_RuleSet := (List T_impl_Rule)
abbrev E_impl_RuleSet : Enc T_impl_RuleSet := eBx (eSl E_impl_Rule)
theorem fl_impl_RuleSet_0 : Fld E_impl_RuleSet 0 (eSl E_impl_Rule) (fun x : T_impl_RuleSet => x) := Fld.bx
theorem fs_impl_RuleSet_0 : FldS E_impl_RuleSet 0 (eSl E_impl_Rule) (fun (x : T_impl_RuleSet) y => y) := FldS.bx
theorem ff_29_0 : FldF Tryd.prog 29 0 28 0 := ⟨_, _, Tryd.underlying29, rfl, rfl, rfl⟩
theorem ff_30_0 : FldF Tryd.prog 30 0 28 0 := ⟨_, _, Tryd.underlying30, rfl, rfl, rfl⟩
theorem el_3 : ElF Tryd.prog 3 1 := el_of Tryd.zeroValue3 Tryd.sizeOf3 (by kernel_rfl : (Tryd.prog.info? 3).map (·.bytes) = some 8) rfl (by decide) (by decide)
theorem el_45 : ElF Tryd.prog 45 1 := el_of Tryd.zeroValue45 Tryd.sizeOf45 (by kernel_rfl : (Tryd.prog.info? 45).map (·.bytes) = some 24) rfl (by decide) (by decide)
theorem el_9 : ElF Tryd.prog 9 1 := el_of Tryd.zeroValue9 Tryd.sizeOf9 (by kernel_rfl : (Tryd.prog.info? 9).map (·.bytes) = some 16) rfl (by decide) (by decide)
theorem el_47 : ElF Tryd.prog 47 3 := el_of Tryd.zeroValue47 Tryd.sizeOf47 (by kernel_rfl : (Tryd.prog.info? 47).map (·.bytes) = some 24) rfl (by decide) (by decide)
theorem el_5 : ElF Tryd.prog 5 1 := el_of Tryd.zeroValue5 Tryd.sizeOf5 (by kernel_rfl : (Tryd.prog.info? 5).map (·.bytes) = some 1) rfl (by decide) (by decide)
end Go.Proofs.YtcodfkieaoomnaaDoor
