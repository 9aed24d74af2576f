/- Printed by dec.py: plain functions and the proofs that the code computes them. No statement of the seat is proved here. -/
import Derived.Test.YtfcocbokgfmjfaaProg
import Derived.Test.YtfcocbokgfmjfaaDu
namespace Go.Proofs.Ytfcocbokgfmjfaa
open Go.RowKit
set_option linter.unusedVariables false
abbrev T_impl_TokenCount := (List UInt8) × Int
abbrev E_impl_TokenCount : Enc T_impl_TokenCount := ePr eStr (eInt .i64)
theorem fl_impl_TokenCount_0 : Fld E_impl_TokenCount 0 eStr (fun x : T_impl_TokenCount => x.1) := Fld.fst
theorem fs_impl_TokenCount_0 : FldS E_impl_TokenCount 0 eStr (fun (x : T_impl_TokenCount) y => (y, x.2)) := FldS.fst
theorem ff_73_0 : FldF Try.prog 73 0 9 0 := ⟨_, _, Try.underlying73, rfl, rfl, rfl⟩
theorem ff_74_0 : FldF Try.prog 74 0 9 0 := ⟨_, _, Try.underlying74, rfl, rfl, rfl⟩
theorem ff_76_0 : FldF Try.prog 76 0 9 0 := ⟨_, _, Try.underlying76, rfl, rfl, rfl⟩
theorem fl_impl_TokenCount_1 : Fld E_impl_TokenCount 1 (eInt .i64) (fun x : T_impl_TokenCount => x.2) := (Fld.snd (Fld.id _))
theorem fs_impl_TokenCount_1 : FldS E_impl_TokenCount 1 (eInt .i64) (fun (x : T_impl_TokenCount) y => (x.1, y)) := (FldS.snd (FldS.id _))
theorem ff_73_1 : FldF Try.prog 73 1 3 1 := ⟨_, _, Try.underlying73, rfl, rfl, rfl⟩
theorem ff_74_1 : FldF Try.prog 74 1 3 1 := ⟨_, _, Try.underlying74, rfl, rfl, rfl⟩
theorem ff_76_1 : FldF Try.prog 76 1 3 1 := ⟨_, _, Try.underlying76, rfl, rfl, rfl⟩
abbrev T_impl_IndexedSet := Int × (List (List UInt8))
abbrev E_impl_IndexedSet : Enc T_impl_IndexedSet := ePr (eInt .i64) (eSl eStr)
theorem fl_impl_IndexedSet_0 : Fld E_impl_IndexedSet 0 (eInt .i64) (fun x : T_impl_IndexedSet => x.1) := Fld.fst
theorem fs_impl_IndexedSet_0 : FldS E_impl_IndexedSet 0 (eInt .i64) (fun (x : T_impl_IndexedSet) y => (y, x.2)) := FldS.fst
theorem ff_90_0 : FldF Try.prog 90 0 3 0 := ⟨_, _, Try.underlying90, rfl, rfl, rfl⟩
theorem ff_91_0 : FldF Try.prog 91 0 3 0 := ⟨_, _, Try.underlying91, rfl, rfl, rfl⟩
theorem ff_120_0 : FldF Try.prog 120 0 3 0 := ⟨_, _, Try.underlying120, rfl, rfl, rfl⟩
theorem fl_impl_IndexedSet_1 : Fld E_impl_IndexedSet 1 (eSl eStr) (fun x : T_impl_IndexedSet => x.2) := (Fld.snd (Fld.id _))
theorem fs_impl_IndexedSet_1 : FldS E_impl_IndexedSet 1 (eSl eStr) (fun (x : T_impl_IndexedSet) y => (x.1, y)) := (FldS.snd (FldS.id _))
theorem ff_90_1 : FldF Try.prog 90 1 23 1 := ⟨_, _, Try.underlying90, rfl, rfl, rfl⟩
theorem ff_91_1 : FldF Try.prog 91 1 23 1 := ⟨_, _, Try.underlying91, rfl, rfl, rfl⟩
theorem ff_120_1 : FldF Try.prog 120 1 23 1 := ⟨_, _, Try.underlying120, rfl, rfl, rfl⟩
abbrev T_laws_SetIndex := Int × (List T_impl_TokenCount) × (List T_impl_IndexedSet)
abbrev E_laws_SetIndex : Enc T_laws_SetIndex := ePr (eInt .i64) (ePr (eSl E_impl_TokenCount) (eSl E_impl_IndexedSet))
theorem fl_laws_SetIndex_0 : Fld E_laws_SetIndex 0 (eInt .i64) (fun x : T_laws_SetIndex => x.1) := Fld.fst
theorem fs_laws_SetIndex_0 : FldS E_laws_SetIndex 0 (eInt .i64) (fun (x : T_laws_SetIndex) y => (y, x.2.1, x.2.2)) := FldS.fst
theorem ff_43_0 : FldF Try.prog 43 0 3 0 := ⟨_, _, Try.underlying43, rfl, rfl, rfl⟩
theorem ff_44_0 : FldF Try.prog 44 0 3 0 := ⟨_, _, Try.underlying44, rfl, rfl, rfl⟩
theorem fl_laws_SetIndex_1 : Fld E_laws_SetIndex 1 (eSl E_impl_TokenCount) (fun x : T_laws_SetIndex => x.2.1) := (Fld.snd Fld.fst)
theorem fs_laws_SetIndex_1 : FldS E_laws_SetIndex 1 (eSl E_impl_TokenCount) (fun (x : T_laws_SetIndex) y => (x.1, y, x.2.2)) := (FldS.snd FldS.fst)
theorem ff_43_1 : FldF Try.prog 43 1 22 1 := ⟨_, _, Try.underlying43, rfl, rfl, rfl⟩
theorem ff_44_1 : FldF Try.prog 44 1 22 1 := ⟨_, _, Try.underlying44, rfl, rfl, rfl⟩
theorem fl_laws_SetIndex_2 : Fld E_laws_SetIndex 2 (eSl E_impl_IndexedSet) (fun x : T_laws_SetIndex => x.2.2) := (Fld.snd (Fld.snd (Fld.id _)))
theorem fs_laws_SetIndex_2 : FldS E_laws_SetIndex 2 (eSl E_impl_IndexedSet) (fun (x : T_laws_SetIndex) y => (x.1, x.2.1, y)) := (FldS.snd (FldS.snd (FldS.id _)))
theorem ff_43_2 : FldF Try.prog 43 2 42 2 := ⟨_, _, Try.underlying43, rfl, rfl, rfl⟩
theorem ff_44_2 : FldF Try.prog 44 2 42 2 := ⟨_, _, Try.underlying44, rfl, rfl, rfl⟩
abbrev T_impl_SetIndex := Int × (List T_impl_TokenCount) × (List T_impl_IndexedSet)
abbrev E_impl_SetIndex : Enc T_impl_SetIndex := ePr (eInt .i64) (ePr (eSl E_impl_TokenCount) (eSl E_impl_IndexedSet))
theorem fl_impl_SetIndex_0 : Fld E_impl_SetIndex 0 (eInt .i64) (fun x : T_impl_SetIndex => x.1) := Fld.fst
theorem fs_impl_SetIndex_0 : FldS E_impl_SetIndex 0 (eInt .i64) (fun (x : T_impl_SetIndex) y => (y, x.2.1, x.2.2)) := FldS.fst
theorem ff_48_0 : FldF Try.prog 48 0 3 0 := ⟨_, _, Try.underlying48, rfl, rfl, rfl⟩
theorem ff_49_0 : FldF Try.prog 49 0 3 0 := ⟨_, _, Try.underlying49, rfl, rfl, rfl⟩
theorem fl_impl_SetIndex_1 : Fld E_impl_SetIndex 1 (eSl E_impl_TokenCount) (fun x : T_impl_SetIndex => x.2.1) := (Fld.snd Fld.fst)
theorem fs_impl_SetIndex_1 : FldS E_impl_SetIndex 1 (eSl E_impl_TokenCount) (fun (x : T_impl_SetIndex) y => (x.1, y, x.2.2)) := (FldS.snd FldS.fst)
theorem ff_48_1 : FldF Try.prog 48 1 27 1 := ⟨_, _, Try.underlying48, rfl, rfl, rfl⟩
theorem ff_49_1 : FldF Try.prog 49 1 27 1 := ⟨_, _, Try.underlying49, rfl, rfl, rfl⟩
theorem fl_impl_SetIndex_2 : Fld E_impl_SetIndex 2 (eSl E_impl_IndexedSet) (fun x : T_impl_SetIndex => x.2.2) := (Fld.snd (Fld.snd (Fld.id _)))
theorem fs_impl_SetIndex_2 : FldS E_impl_SetIndex 2 (eSl E_impl_IndexedSet) (fun (x : T_impl_SetIndex) y => (x.1, x.2.1, y)) := (FldS.snd (FldS.snd (FldS.id _)))
theorem ff_48_2 : FldF Try.prog 48 2 47 2 := ⟨_, _, Try.underlying48, rfl, rfl, rfl⟩
theorem ff_49_2 : FldF Try.prog 49 2 47 2 := ⟨_, _, Try.underlying49, rfl, rfl, rfl⟩
abbrev T_impl_IDPair := Int × Int
abbrev E_impl_IDPair : Enc T_impl_IDPair := ePr (eInt .i64) (eInt .i64)
theorem fl_impl_IDPair_0 : Fld E_impl_IDPair 0 (eInt .i64) (fun x : T_impl_IDPair => x.1) := Fld.fst
theorem fs_impl_IDPair_0 : FldS E_impl_IDPair 0 (eInt .i64) (fun (x : T_impl_IDPair) y => (y, x.2)) := FldS.fst
theorem ff_105_0 : FldF Try.prog 105 0 3 0 := ⟨_, _, Try.underlying105, rfl, rfl, rfl⟩
theorem ff_106_0 : FldF Try.prog 106 0 3 0 := ⟨_, _, Try.underlying106, rfl, rfl, rfl⟩
theorem fl_impl_IDPair_1 : Fld E_impl_IDPair 1 (eInt .i64) (fun x : T_impl_IDPair => x.2) := (Fld.snd (Fld.id _))
theorem fs_impl_IDPair_1 : FldS E_impl_IDPair 1 (eInt .i64) (fun (x : T_impl_IDPair) y => (x.1, y)) := (FldS.snd (FldS.id _))
theorem ff_105_1 : FldF Try.prog 105 1 3 1 := ⟨_, _, Try.underlying105, rfl, rfl, rfl⟩
theorem ff_106_1 : FldF Try.prog 106 1 3 1 := ⟨_, _, Try.underlying106, rfl, rfl, rfl⟩
theorem val_impl_IDPair {A : Av} {w : World} {v : Value} {x : T_impl_IDPair} (h : Rep E_impl_IDPair A w v x) : v = .agg #[.int .i64 x.1, .int .i64 x.2] := by
  obtain ⟨cs, rfl, h⟩ := h
  obtain ⟨_, _, rfl, rfl, rfl⟩ := h
  rfl
set_option maxHeartbeats 1000000 in
theorem eql_105 (x y : T_impl_IDPair) (w : World) : (binOp .eql 105 (.agg #[.int .i64 x.1, .int .i64 x.2]) (.agg #[.int .i64 y.1, .int .i64 y.2])).run Try.prog w = .ok (.bool ((x == y))) w := by
  obtain ⟨p0, p1⟩ := x
  obtain ⟨q0, q1⟩ := y
  rw [show (((p0, p1) : T_impl_IDPair) == (q0, q1)) = ((p0 == q0) && (p1 == q1)) from rfl]
  cases h0 : (p0 == q0) <;> cases h1 : (p1 == q1) <;> simp [go_sem, h0, h1]
set_option maxHeartbeats 1000000 in
theorem neq_105 (x y : T_impl_IDPair) (w : World) : (binOp .neq 105 (.agg #[.int .i64 x.1, .int .i64 x.2]) (.agg #[.int .i64 y.1, .int .i64 y.2])).run Try.prog w = .ok (.bool (!(x == y))) w := by
  obtain ⟨p0, p1⟩ := x
  obtain ⟨q0, q1⟩ := y
  rw [show (((p0, p1) : T_impl_IDPair) == (q0, q1)) = ((p0 == q0) && (p1 == q1)) from rfl]
  cases h0 : (p0 == q0) <;> cases h1 : (p1 == q1) <;> simp [go_sem, h0, h1]
set_option maxHeartbeats 1000000 in
theorem eql_106 (x y : T_impl_IDPair) (w : World) : (binOp .eql 106 (.agg #[.int .i64 x.1, .int .i64 x.2]) (.agg #[.int .i64 y.1, .int .i64 y.2])).run Try.prog w = .ok (.bool ((x == y))) w := by
  obtain ⟨p0, p1⟩ := x
  obtain ⟨q0, q1⟩ := y
  rw [show (((p0, p1) : T_impl_IDPair) == (q0, q1)) = ((p0 == q0) && (p1 == q1)) from rfl]
  cases h0 : (p0 == q0) <;> cases h1 : (p1 == q1) <;> simp [go_sem, h0, h1]
set_option maxHeartbeats 1000000 in
theorem neq_106 (x y : T_impl_IDPair) (w : World) : (binOp .neq 106 (.agg #[.int .i64 x.1, .int .i64 x.2]) (.agg #[.int .i64 y.1, .int .i64 y.2])).run Try.prog w = .ok (.bool (!(x == y))) w := by
  obtain ⟨p0, p1⟩ := x
  obtain ⟨q0, q1⟩ := y
  rw [show (((p0, p1) : T_impl_IDPair) == (q0, q1)) = ((p0 == q0) && (p1 == q1)) from rfl]
  cases h0 : (p0 == q0) <;> cases h1 : (p1 == q1) <;> simp [go_sem, h0, h1]
theorem el_74 : ElF Try.prog 74 2 := el_of Try.zeroValue74 Try.sizeOf74 (by kernel_rfl : (Try.prog.info? 74).map (·.bytes) = some 24) rfl (by decide) (by decide)
theorem el_9 : ElF Try.prog 9 1 := el_of Try.zeroValue9 Try.sizeOf9 (by kernel_rfl : (Try.prog.info? 9).map (·.bytes) = some 16) rfl (by decide) (by decide)
theorem el_76 : ElF Try.prog 76 2 := el_of Try.zeroValue76 Try.sizeOf76 (by kernel_rfl : (Try.prog.info? 76).map (·.bytes) = some 24) rfl (by decide) (by decide)
theorem el_23 : ElF Try.prog 23 1 := el_of Try.zeroValue23 Try.sizeOf23 (by kernel_rfl : (Try.prog.info? 23).map (·.bytes) = some 24) rfl (by decide) (by decide)
theorem el_120 : ElF Try.prog 120 2 := el_of Try.zeroValue120 Try.sizeOf120 (by kernel_rfl : (Try.prog.info? 120).map (·.bytes) = some 32) rfl (by decide) (by decide)
theorem el_91 : ElF Try.prog 91 2 := el_of Try.zeroValue91 Try.sizeOf91 (by kernel_rfl : (Try.prog.info? 91).map (·.bytes) = some 32) rfl (by decide) (by decide)
theorem el_3 : ElF Try.prog 3 1 := el_of Try.zeroValue3 Try.sizeOf3 (by kernel_rfl : (Try.prog.info? 3).map (·.bytes) = some 8) rfl (by decide) (by decide)
theorem el_106 : ElF Try.prog 106 2 := el_of Try.zeroValue106 Try.sizeOf106 (by kernel_rfl : (Try.prog.info? 106).map (·.bytes) = some 16) rfl (by decide) (by decide)
theorem el_5 : ElF Try.prog 5 1 := el_of Try.zeroValue5 Try.sizeOf5 (by kernel_rfl : (Try.prog.info? 5).map (·.bytes) = some 1) rfl (by decide) (by decide)
end Go.Proofs.Ytfcocbokgfmjfaa
