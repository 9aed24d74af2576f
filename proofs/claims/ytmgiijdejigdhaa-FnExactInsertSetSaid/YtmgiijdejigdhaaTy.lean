/- Printed by dec.py: plain functions and the proofs that the code computes them. No statement of the seat is proved here. -/
import Derived.Test.YtmgiijdejigdhaaProg
import Derived.Test.YtmgiijdejigdhaaDu
namespace Go.Proofs.Ytmgiijdejigdhaa
open Go.RowKit
set_option linter.unusedVariables false
abbrev T_impl_TokenCount := (List UInt8) × Int
abbrev E_impl_TokenCount : Enc T_impl_TokenCount := ePr eStr (eInt .i64)
theorem fl_impl_TokenCount_0 : Fld E_impl_TokenCount 0 eStr (fun x : T_impl_TokenCount => x.1) := Fld.fst
theorem fs_impl_TokenCount_0 : FldS E_impl_TokenCount 0 eStr (fun (x : T_impl_TokenCount) y => (y, x.2)) := FldS.fst
theorem ff_66_0 : FldF Try.prog 66 0 9 0 := ⟨_, _, Try.underlying66, rfl, rfl, rfl⟩
theorem ff_70_0 : FldF Try.prog 70 0 9 0 := ⟨_, _, Try.underlying70, rfl, rfl, rfl⟩
theorem fl_impl_TokenCount_1 : Fld E_impl_TokenCount 1 (eInt .i64) (fun x : T_impl_TokenCount => x.2) := (Fld.snd (Fld.id _))
theorem fs_impl_TokenCount_1 : FldS E_impl_TokenCount 1 (eInt .i64) (fun (x : T_impl_TokenCount) y => (x.1, y)) := (FldS.snd (FldS.id _))
theorem ff_66_1 : FldF Try.prog 66 1 3 1 := ⟨_, _, Try.underlying66, rfl, rfl, rfl⟩
theorem ff_70_1 : FldF Try.prog 70 1 3 1 := ⟨_, _, Try.underlying70, rfl, rfl, rfl⟩
abbrev T_impl_IndexedSet := Int × (List (List UInt8))
abbrev E_impl_IndexedSet : Enc T_impl_IndexedSet := ePr (eInt .i64) (eSl eStr)
theorem fl_impl_IndexedSet_0 : Fld E_impl_IndexedSet 0 (eInt .i64) (fun x : T_impl_IndexedSet => x.1) := Fld.fst
theorem ff_55_0 : FldF Try.prog 55 0 3 0 := ⟨_, _, Try.underlying55, rfl, rfl, rfl⟩
theorem ff_68_0 : FldF Try.prog 68 0 3 0 := ⟨_, _, Try.underlying68, rfl, rfl, rfl⟩
theorem fl_impl_IndexedSet_1 : Fld E_impl_IndexedSet 1 (eSl eStr) (fun x : T_impl_IndexedSet => x.2) := (Fld.snd (Fld.id _))
theorem ff_55_1 : FldF Try.prog 55 1 37 1 := ⟨_, _, Try.underlying55, rfl, rfl, rfl⟩
theorem ff_68_1 : FldF Try.prog 68 1 37 1 := ⟨_, _, Try.underlying68, rfl, rfl, rfl⟩
abbrev T_laws_SetIndex := Int × (List T_impl_TokenCount) × (List T_impl_IndexedSet)
abbrev E_laws_SetIndex : Enc T_laws_SetIndex := ePr (eInt .i64) (ePr (eSl E_impl_TokenCount) (eSl E_impl_IndexedSet))
theorem fl_laws_SetIndex_0 : Fld E_laws_SetIndex 0 (eInt .i64) (fun x : T_laws_SetIndex => x.1) := Fld.fst
theorem ff_25_0 : FldF Try.prog 25 0 3 0 := ⟨_, _, Try.underlying25, rfl, rfl, rfl⟩
theorem fl_laws_SetIndex_1 : Fld E_laws_SetIndex 1 (eSl E_impl_TokenCount) (fun x : T_laws_SetIndex => x.2.1) := (Fld.snd Fld.fst)
theorem ff_25_1 : FldF Try.prog 25 1 22 1 := ⟨_, _, Try.underlying25, rfl, rfl, rfl⟩
theorem fl_laws_SetIndex_2 : Fld E_laws_SetIndex 2 (eSl E_impl_IndexedSet) (fun x : T_laws_SetIndex => x.2.2) := (Fld.snd (Fld.snd (Fld.id _)))
theorem ff_25_2 : FldF Try.prog 25 2 23 2 := ⟨_, _, Try.underlying25, rfl, rfl, rfl⟩
abbrev T_impl_SetIndex := Int × (List T_impl_TokenCount) × (List T_impl_IndexedSet)
abbrev E_impl_SetIndex : Enc T_impl_SetIndex := ePr (eInt .i64) (ePr (eSl E_impl_TokenCount) (eSl E_impl_IndexedSet))
theorem fl_impl_SetIndex_0 : Fld E_impl_SetIndex 0 (eInt .i64) (fun x : T_impl_SetIndex => x.1) := Fld.fst
theorem ff_30_0 : FldF Try.prog 30 0 3 0 := ⟨_, _, Try.underlying30, rfl, rfl, rfl⟩
theorem fl_impl_SetIndex_1 : Fld E_impl_SetIndex 1 (eSl E_impl_TokenCount) (fun x : T_impl_SetIndex => x.2.1) := (Fld.snd Fld.fst)
theorem ff_30_1 : FldF Try.prog 30 1 27 1 := ⟨_, _, Try.underlying30, rfl, rfl, rfl⟩
theorem fl_impl_SetIndex_2 : Fld E_impl_SetIndex 2 (eSl E_impl_IndexedSet) (fun x : T_impl_SetIndex => x.2.2) := (Fld.snd (Fld.snd (Fld.id _)))
theorem fs_impl_SetIndex_2 : FldS E_impl_SetIndex 2 (eSl E_impl_IndexedSet) (fun (x : T_impl_SetIndex) y => (x.1, x.2.1, y)) := (FldS.snd (FldS.snd (FldS.id _)))
theorem ff_30_2 : FldF Try.prog 30 2 28 2 := ⟨_, _, Try.underlying30, rfl, rfl, rfl⟩
theorem el_70 : ElF Try.prog 70 2 := el_of Try.zeroValue70 Try.sizeOf70 (by kernel_rfl : (Try.prog.info? 70).map (·.bytes) = some 24) rfl (by decide) (by decide)
theorem el_55 : ElF Try.prog 55 2 := el_of Try.zeroValue55 Try.sizeOf55 (by kernel_rfl : (Try.prog.info? 55).map (·.bytes) = some 32) rfl (by decide) (by decide)
theorem el_9 : ElF Try.prog 9 1 := el_of Try.zeroValue9 Try.sizeOf9 (by kernel_rfl : (Try.prog.info? 9).map (·.bytes) = some 16) rfl (by decide) (by decide)
theorem el_5 : ElF Try.prog 5 1 := el_of Try.zeroValue5 Try.sizeOf5 (by kernel_rfl : (Try.prog.info? 5).map (·.bytes) = some 1) rfl (by decide) (by decide)
end Go.Proofs.Ytmgiijdejigdhaa
