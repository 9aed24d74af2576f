/- Printed by dec.py: plain functions and the proofs that the code computes them. No statement of the seat is proved here. -/
import Derived.Test.YtkebpojbbfnehaaGreatProg
import Derived.Test.YtkebpojbbfnehaaGreatDu
namespace Go.Proofs.YtkebpojbbfnehaaGreat
open Go.RowKit
set_option linter.unusedVariables false
abbrev T_impl_TokenCount := (List UInt8) × Int
abbrev E_impl_TokenCount : Enc T_impl_TokenCount := ePr eStr (eInt .i64)
theorem fl_impl_TokenCount_0 : Fld E_impl_TokenCount 0 eStr (fun x : T_impl_TokenCount => x.1) := Fld.fst
theorem fs_impl_TokenCount_0 : FldS E_impl_TokenCount 0 eStr (fun (x : T_impl_TokenCount) y => (y, x.2)) := FldS.fst
theorem ff_90_0 : FldF Tryz.prog 90 0 9 0 := ⟨_, _, Tryz.underlying90, rfl, rfl, rfl⟩
theorem ff_91_0 : FldF Tryz.prog 91 0 9 0 := ⟨_, _, Tryz.underlying91, rfl, rfl, rfl⟩
theorem fl_impl_TokenCount_1 : Fld E_impl_TokenCount 1 (eInt .i64) (fun x : T_impl_TokenCount => x.2) := (Fld.snd (Fld.id _))
theorem fs_impl_TokenCount_1 : FldS E_impl_TokenCount 1 (eInt .i64) (fun (x : T_impl_TokenCount) y => (x.1, y)) := (FldS.snd (FldS.id _))
theorem ff_90_1 : FldF Tryz.prog 90 1 3 1 := ⟨_, _, Tryz.underlying90, rfl, rfl, rfl⟩
theorem ff_91_1 : FldF Tryz.prog 91 1 3 1 := ⟨_, _, Tryz.underlying91, rfl, rfl, rfl⟩
theorem val_impl_TokenCount {A : Av} {w : World} {v : Value} {x : T_impl_TokenCount} (h : Rep E_impl_TokenCount A w v x) : v = .agg #[.string ⟨⟨x.1⟩⟩, .int .i64 x.2] := by
  obtain ⟨cs, rfl, h⟩ := h
  obtain ⟨_, _, rfl, ⟨s0, rfl, e0, _⟩, rfl⟩ := h
  rw [← e0]
  rfl
set_option maxHeartbeats 1000000 in
theorem eql_90 (x y : T_impl_TokenCount) (w : World) : (binOp .eql 90 (.agg #[.string ⟨⟨x.1⟩⟩, .int .i64 x.2]) (.agg #[.string ⟨⟨y.1⟩⟩, .int .i64 y.2])).run Tryz.prog w = .ok (.bool ((x == y))) w := by
  obtain ⟨p0, p1⟩ := x
  obtain ⟨q0, q1⟩ := y
  rw [show (((p0, p1) : T_impl_TokenCount) == (q0, q1)) = ((p0 == q0) && (p1 == q1)) from rfl]
  cases h0 : (p0 == q0) <;> cases h1 : (p1 == q1) <;> simp [go_sem, ByteArray.toList_eq, h0, h1]
set_option maxHeartbeats 1000000 in
theorem neq_90 (x y : T_impl_TokenCount) (w : World) : (binOp .neq 90 (.agg #[.string ⟨⟨x.1⟩⟩, .int .i64 x.2]) (.agg #[.string ⟨⟨y.1⟩⟩, .int .i64 y.2])).run Tryz.prog w = .ok (.bool (!(x == y))) w := by
  obtain ⟨p0, p1⟩ := x
  obtain ⟨q0, q1⟩ := y
  rw [show (((p0, p1) : T_impl_TokenCount) == (q0, q1)) = ((p0 == q0) && (p1 == q1)) from rfl]
  cases h0 : (p0 == q0) <;> cases h1 : (p1 == q1) <;> simp [go_sem, ByteArray.toList_eq, h0, h1]
set_option maxHeartbeats 1000000 in
theorem eql_91 (x y : T_impl_TokenCount) (w : World) : (binOp .eql 91 (.agg #[.string ⟨⟨x.1⟩⟩, .int .i64 x.2]) (.agg #[.string ⟨⟨y.1⟩⟩, .int .i64 y.2])).run Tryz.prog w = .ok (.bool ((x == y))) w := by
  obtain ⟨p0, p1⟩ := x
  obtain ⟨q0, q1⟩ := y
  rw [show (((p0, p1) : T_impl_TokenCount) == (q0, q1)) = ((p0 == q0) && (p1 == q1)) from rfl]
  cases h0 : (p0 == q0) <;> cases h1 : (p1 == q1) <;> simp [go_sem, ByteArray.toList_eq, h0, h1]
set_option maxHeartbeats 1000000 in
theorem neq_91 (x y : T_impl_TokenCount) (w : World) : (binOp .neq 91 (.agg #[.string ⟨⟨x.1⟩⟩, .int .i64 x.2]) (.agg #[.string ⟨⟨y.1⟩⟩, .int .i64 y.2])).run Tryz.prog w = .ok (.bool (!(x == y))) w := by
  obtain ⟨p0, p1⟩ := x
  obtain ⟨q0, q1⟩ := y
  rw [show (((p0, p1) : T_impl_TokenCount) == (q0, q1)) = ((p0 == q0) && (p1 == q1)) from rfl]
  cases h0 : (p0 == q0) <;> cases h1 : (p1 == q1) <;> simp [go_sem, ByteArray.toList_eq, h0, h1]
abbrev T_impl_IndexedSet := Int × (List (List UInt8))
abbrev E_impl_IndexedSet : Enc T_impl_IndexedSet := ePr (eInt .i64) (eSl eStr)
theorem fl_impl_IndexedSet_0 : Fld E_impl_IndexedSet 0 (eInt .i64) (fun x : T_impl_IndexedSet => x.1) := Fld.fst
theorem fs_impl_IndexedSet_0 : FldS E_impl_IndexedSet 0 (eInt .i64) (fun (x : T_impl_IndexedSet) y => (y, x.2)) := FldS.fst
theorem ff_72_0 : FldF Tryz.prog 72 0 3 0 := ⟨_, _, Tryz.underlying72, rfl, rfl, rfl⟩
theorem ff_73_0 : FldF Tryz.prog 73 0 3 0 := ⟨_, _, Tryz.underlying73, rfl, rfl, rfl⟩
theorem fl_impl_IndexedSet_1 : Fld E_impl_IndexedSet 1 (eSl eStr) (fun x : T_impl_IndexedSet => x.2) := (Fld.snd (Fld.id _))
theorem fs_impl_IndexedSet_1 : FldS E_impl_IndexedSet 1 (eSl eStr) (fun (x : T_impl_IndexedSet) y => (x.1, y)) := (FldS.snd (FldS.id _))
theorem ff_72_1 : FldF Tryz.prog 72 1 25 1 := ⟨_, _, Tryz.underlying72, rfl, rfl, rfl⟩
theorem ff_73_1 : FldF Tryz.prog 73 1 25 1 := ⟨_, _, Tryz.underlying73, rfl, rfl, rfl⟩
abbrev T_impl_SetIndex := Int × (List T_impl_TokenCount) × (List T_impl_IndexedSet)
abbrev E_impl_SetIndex : Enc T_impl_SetIndex := ePr (eInt .i64) (ePr (eSl E_impl_TokenCount) (eSl E_impl_IndexedSet))
theorem fl_impl_SetIndex_0 : Fld E_impl_SetIndex 0 (eInt .i64) (fun x : T_impl_SetIndex => x.1) := Fld.fst
theorem fs_impl_SetIndex_0 : FldS E_impl_SetIndex 0 (eInt .i64) (fun (x : T_impl_SetIndex) y => (y, x.2.1, x.2.2)) := FldS.fst
theorem ff_39_0 : FldF Tryz.prog 39 0 3 0 := ⟨_, _, Tryz.underlying39, rfl, rfl, rfl⟩
theorem ff_40_0 : FldF Tryz.prog 40 0 3 0 := ⟨_, _, Tryz.underlying40, rfl, rfl, rfl⟩
theorem fl_impl_SetIndex_1 : Fld E_impl_SetIndex 1 (eSl E_impl_TokenCount) (fun x : T_impl_SetIndex => x.2.1) := (Fld.snd Fld.fst)
theorem fs_impl_SetIndex_1 : FldS E_impl_SetIndex 1 (eSl E_impl_TokenCount) (fun (x : T_impl_SetIndex) y => (x.1, y, x.2.2)) := (FldS.snd FldS.fst)
theorem ff_39_1 : FldF Tryz.prog 39 1 24 1 := ⟨_, _, Tryz.underlying39, rfl, rfl, rfl⟩
theorem ff_40_1 : FldF Tryz.prog 40 1 24 1 := ⟨_, _, Tryz.underlying40, rfl, rfl, rfl⟩
theorem fl_impl_SetIndex_2 : Fld E_impl_SetIndex 2 (eSl E_impl_IndexedSet) (fun x : T_impl_SetIndex => x.2.2) := (Fld.snd (Fld.snd (Fld.id _)))
theorem fs_impl_SetIndex_2 : FldS E_impl_SetIndex 2 (eSl E_impl_IndexedSet) (fun (x : T_impl_SetIndex) y => (x.1, x.2.1, y)) := (FldS.snd (FldS.snd (FldS.id _)))
theorem ff_39_2 : FldF Tryz.prog 39 2 38 2 := ⟨_, _, Tryz.underlying39, rfl, rfl, rfl⟩
theorem ff_40_2 : FldF Tryz.prog 40 2 38 2 := ⟨_, _, Tryz.underlying40, rfl, rfl, rfl⟩
abbrev T_impl_IDPair := Int × Int
abbrev E_impl_IDPair : Enc T_impl_IDPair := ePr (eInt .i64) (eInt .i64)
theorem fl_impl_IDPair_0 : Fld E_impl_IDPair 0 (eInt .i64) (fun x : T_impl_IDPair => x.1) := Fld.fst
theorem fs_impl_IDPair_0 : FldS E_impl_IDPair 0 (eInt .i64) (fun (x : T_impl_IDPair) y => (y, x.2)) := FldS.fst
theorem ff_49_0 : FldF Tryz.prog 49 0 3 0 := ⟨_, _, Tryz.underlying49, rfl, rfl, rfl⟩
theorem ff_50_0 : FldF Tryz.prog 50 0 3 0 := ⟨_, _, Tryz.underlying50, rfl, rfl, rfl⟩
theorem fl_impl_IDPair_1 : Fld E_impl_IDPair 1 (eInt .i64) (fun x : T_impl_IDPair => x.2) := (Fld.snd (Fld.id _))
theorem fs_impl_IDPair_1 : FldS E_impl_IDPair 1 (eInt .i64) (fun (x : T_impl_IDPair) y => (x.1, y)) := (FldS.snd (FldS.id _))
theorem ff_49_1 : FldF Tryz.prog 49 1 3 1 := ⟨_, _, Tryz.underlying49, rfl, rfl, rfl⟩
theorem ff_50_1 : FldF Tryz.prog 50 1 3 1 := ⟨_, _, Tryz.underlying50, rfl, rfl, rfl⟩
theorem val_impl_IDPair {A : Av} {w : World} {v : Value} {x : T_impl_IDPair} (h : Rep E_impl_IDPair A w v x) : v = .agg #[.int .i64 x.1, .int .i64 x.2] := by
  obtain ⟨cs, rfl, h⟩ := h
  obtain ⟨_, _, rfl, rfl, rfl⟩ := h
  rfl
set_option maxHeartbeats 1000000 in
theorem eql_49 (x y : T_impl_IDPair) (w : World) : (binOp .eql 49 (.agg #[.int .i64 x.1, .int .i64 x.2]) (.agg #[.int .i64 y.1, .int .i64 y.2])).run Tryz.prog w = .ok (.bool ((x == y))) w := by
  obtain ⟨p0, p1⟩ := x
  obtain ⟨q0, q1⟩ := y
  rw [show (((p0, p1) : T_impl_IDPair) == (q0, q1)) = ((p0 == q0) && (p1 == q1)) from rfl]
  cases h0 : (p0 == q0) <;> cases h1 : (p1 == q1) <;> simp [go_sem, h0, h1]
set_option maxHeartbeats 1000000 in
theorem neq_49 (x y : T_impl_IDPair) (w : World) : (binOp .neq 49 (.agg #[.int .i64 x.1, .int .i64 x.2]) (.agg #[.int .i64 y.1, .int .i64 y.2])).run Tryz.prog w = .ok (.bool (!(x == y))) w := by
  obtain ⟨p0, p1⟩ := x
  obtain ⟨q0, q1⟩ := y
  rw [show (((p0, p1) : T_impl_IDPair) == (q0, q1)) = ((p0 == q0) && (p1 == q1)) from rfl]
  cases h0 : (p0 == q0) <;> cases h1 : (p1 == q1) <;> simp [go_sem, h0, h1]
set_option maxHeartbeats 1000000 in
theorem eql_50 (x y : T_impl_IDPair) (w : World) : (binOp .eql 50 (.agg #[.int .i64 x.1, .int .i64 x.2]) (.agg #[.int .i64 y.1, .int .i64 y.2])).run Tryz.prog w = .ok (.bool ((x == y))) w := by
  obtain ⟨p0, p1⟩ := x
  obtain ⟨q0, q1⟩ := y
  rw [show (((p0, p1) : T_impl_IDPair) == (q0, q1)) = ((p0 == q0) && (p1 == q1)) from rfl]
  cases h0 : (p0 == q0) <;> cases h1 : (p1 == q1) <;> simp [go_sem, h0, h1]
set_option maxHeartbeats 1000000 in
theorem neq_50 (x y : T_impl_IDPair) (w : World) : (binOp .neq 50 (.agg #[.int .i64 x.1, .int .i64 x.2]) (.agg #[.int .i64 y.1, .int .i64 y.2])).run Tryz.prog w = .ok (.bool (!(x == y))) w := by
  obtain ⟨p0, p1⟩ := x
  obtain ⟨q0, q1⟩ := y
  rw [show (((p0, p1) : T_impl_IDPair) == (q0, q1)) = ((p0 == q0) && (p1 == q1)) from rfl]
  cases h0 : (p0 == q0) <;> cases h1 : (p1 == q1) <;> simp [go_sem, h0, h1]
abbrev T_spec_l1Cur := (List Int) × Int × Int
abbrev E_spec_l1Cur : Enc T_spec_l1Cur := ePr (eSl (eInt .u8)) (ePr (eInt .i64) (eInt .i64))
theorem fl_spec_l1Cur_0 : Fld E_spec_l1Cur 0 (eSl (eInt .u8)) (fun x : T_spec_l1Cur => x.1) := Fld.fst
theorem fs_spec_l1Cur_0 : FldS E_spec_l1Cur 0 (eSl (eInt .u8)) (fun (x : T_spec_l1Cur) y => (y, x.2.1, x.2.2)) := FldS.fst
theorem ff_83_0 : FldF Tryz.prog 83 0 22 0 := ⟨_, _, Tryz.underlying83, rfl, rfl, rfl⟩
theorem ff_84_0 : FldF Tryz.prog 84 0 22 0 := ⟨_, _, Tryz.underlying84, rfl, rfl, rfl⟩
theorem fl_spec_l1Cur_1 : Fld E_spec_l1Cur 1 (eInt .i64) (fun x : T_spec_l1Cur => x.2.1) := (Fld.snd Fld.fst)
theorem fs_spec_l1Cur_1 : FldS E_spec_l1Cur 1 (eInt .i64) (fun (x : T_spec_l1Cur) y => (x.1, y, x.2.2)) := (FldS.snd FldS.fst)
theorem ff_83_1 : FldF Tryz.prog 83 1 3 1 := ⟨_, _, Tryz.underlying83, rfl, rfl, rfl⟩
theorem ff_84_1 : FldF Tryz.prog 84 1 3 1 := ⟨_, _, Tryz.underlying84, rfl, rfl, rfl⟩
theorem fl_spec_l1Cur_2 : Fld E_spec_l1Cur 2 (eInt .i64) (fun x : T_spec_l1Cur => x.2.2) := (Fld.snd (Fld.snd (Fld.id _)))
theorem fs_spec_l1Cur_2 : FldS E_spec_l1Cur 2 (eInt .i64) (fun (x : T_spec_l1Cur) y => (x.1, x.2.1, y)) := (FldS.snd (FldS.snd (FldS.id _)))
theorem ff_83_2 : FldF Tryz.prog 83 2 3 2 := ⟨_, _, Tryz.underlying83, rfl, rfl, rfl⟩
theorem ff_84_2 : FldF Tryz.prog 84 2 3 2 := ⟨_, _, Tryz.underlying84, rfl, rfl, rfl⟩
theorem el_5 : ElF Tryz.prog 5 1 := el_of Tryz.zeroValue5 Tryz.sizeOf5 (by kernel_rfl : (Tryz.prog.info? 5).map (·.bytes) = some 1) rfl (by decide) (by decide)
theorem el_91 : ElF Tryz.prog 91 2 := el_of Tryz.zeroValue91 Tryz.sizeOf91 (by kernel_rfl : (Tryz.prog.info? 91).map (·.bytes) = some 24) rfl (by decide) (by decide)
theorem el_9 : ElF Tryz.prog 9 1 := el_of Tryz.zeroValue9 Tryz.sizeOf9 (by kernel_rfl : (Tryz.prog.info? 9).map (·.bytes) = some 16) rfl (by decide) (by decide)
theorem el_73 : ElF Tryz.prog 73 2 := el_of Tryz.zeroValue73 Tryz.sizeOf73 (by kernel_rfl : (Tryz.prog.info? 73).map (·.bytes) = some 32) rfl (by decide) (by decide)
theorem el_3 : ElF Tryz.prog 3 1 := el_of Tryz.zeroValue3 Tryz.sizeOf3 (by kernel_rfl : (Tryz.prog.info? 3).map (·.bytes) = some 8) rfl (by decide) (by decide)
theorem el_50 : ElF Tryz.prog 50 2 := el_of Tryz.zeroValue50 Tryz.sizeOf50 (by kernel_rfl : (Tryz.prog.info? 50).map (·.bytes) = some 16) rfl (by decide) (by decide)
theorem el_25 : ElF Tryz.prog 25 1 := el_of Tryz.zeroValue25 Tryz.sizeOf25 (by kernel_rfl : (Tryz.prog.info? 25).map (·.bytes) = some 24) rfl (by decide) (by decide)
end Go.Proofs.YtkebpojbbfnehaaGreat
