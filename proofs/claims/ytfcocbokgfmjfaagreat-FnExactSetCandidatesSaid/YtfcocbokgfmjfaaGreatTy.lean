/- Printed by dec.py: plain functions and the proofs that the code computes them. No statement of the seat is proved here. -/
import Derived.Test.YtfcocbokgfmjfaaGreatProg
import Derived.Test.YtfcocbokgfmjfaaGreatDu
namespace Go.Proofs.YtfcocbokgfmjfaaGreat
open Go.RowKit
set_option linter.unusedVariables false
abbrev T_impl_TokenCount := (List UInt8) × Int
abbrev E_impl_TokenCount : Enc T_impl_TokenCount := ePr eStr (eInt .i64)
theorem fl_impl_TokenCount_0 : Fld E_impl_TokenCount 0 eStr (fun x : T_impl_TokenCount => x.1) := Fld.fst
theorem fs_impl_TokenCount_0 : FldS E_impl_TokenCount 0 eStr (fun (x : T_impl_TokenCount) y => (y, x.2)) := FldS.fst
theorem ff_83_0 : FldF Tryz.prog 83 0 9 0 := ⟨_, _, Tryz.underlying83, rfl, rfl, rfl⟩
theorem ff_87_0 : FldF Tryz.prog 87 0 9 0 := ⟨_, _, Tryz.underlying87, rfl, rfl, rfl⟩
theorem fl_impl_TokenCount_1 : Fld E_impl_TokenCount 1 (eInt .i64) (fun x : T_impl_TokenCount => x.2) := (Fld.snd (Fld.id _))
theorem fs_impl_TokenCount_1 : FldS E_impl_TokenCount 1 (eInt .i64) (fun (x : T_impl_TokenCount) y => (x.1, y)) := (FldS.snd (FldS.id _))
theorem ff_83_1 : FldF Tryz.prog 83 1 3 1 := ⟨_, _, Tryz.underlying83, rfl, rfl, rfl⟩
theorem ff_87_1 : FldF Tryz.prog 87 1 3 1 := ⟨_, _, Tryz.underlying87, rfl, rfl, rfl⟩
abbrev T_impl_IndexedSet := Int × (List (List UInt8))
abbrev E_impl_IndexedSet : Enc T_impl_IndexedSet := ePr (eInt .i64) (eSl eStr)
theorem fl_impl_IndexedSet_0 : Fld E_impl_IndexedSet 0 (eInt .i64) (fun x : T_impl_IndexedSet => x.1) := Fld.fst
theorem ff_60_0 : FldF Tryz.prog 60 0 3 0 := ⟨_, _, Tryz.underlying60, rfl, rfl, rfl⟩
theorem ff_85_0 : FldF Tryz.prog 85 0 3 0 := ⟨_, _, Tryz.underlying85, rfl, rfl, rfl⟩
theorem fl_impl_IndexedSet_1 : Fld E_impl_IndexedSet 1 (eSl eStr) (fun x : T_impl_IndexedSet => x.2) := (Fld.snd (Fld.id _))
theorem ff_60_1 : FldF Tryz.prog 60 1 26 1 := ⟨_, _, Tryz.underlying60, rfl, rfl, rfl⟩
theorem ff_85_1 : FldF Tryz.prog 85 1 26 1 := ⟨_, _, Tryz.underlying85, rfl, rfl, rfl⟩
abbrev T_laws_SetIndex := Int × (List T_impl_TokenCount) × (List T_impl_IndexedSet)
abbrev E_laws_SetIndex : Enc T_laws_SetIndex := ePr (eInt .i64) (ePr (eSl E_impl_TokenCount) (eSl E_impl_IndexedSet))
theorem fl_laws_SetIndex_0 : Fld E_laws_SetIndex 0 (eInt .i64) (fun x : T_laws_SetIndex => x.1) := Fld.fst
theorem ff_25_0 : FldF Tryz.prog 25 0 3 0 := ⟨_, _, Tryz.underlying25, rfl, rfl, rfl⟩
theorem fl_laws_SetIndex_1 : Fld E_laws_SetIndex 1 (eSl E_impl_TokenCount) (fun x : T_laws_SetIndex => x.2.1) := (Fld.snd Fld.fst)
theorem ff_25_1 : FldF Tryz.prog 25 1 22 1 := ⟨_, _, Tryz.underlying25, rfl, rfl, rfl⟩
theorem fl_laws_SetIndex_2 : Fld E_laws_SetIndex 2 (eSl E_impl_IndexedSet) (fun x : T_laws_SetIndex => x.2.2) := (Fld.snd (Fld.snd (Fld.id _)))
theorem ff_25_2 : FldF Tryz.prog 25 2 23 2 := ⟨_, _, Tryz.underlying25, rfl, rfl, rfl⟩
abbrev T_impl_SetIndex := Int × (List T_impl_TokenCount) × (List T_impl_IndexedSet)
abbrev E_impl_SetIndex : Enc T_impl_SetIndex := ePr (eInt .i64) (ePr (eSl E_impl_TokenCount) (eSl E_impl_IndexedSet))
theorem fl_impl_SetIndex_0 : Fld E_impl_SetIndex 0 (eInt .i64) (fun x : T_impl_SetIndex => x.1) := Fld.fst
theorem ff_34_0 : FldF Tryz.prog 34 0 3 0 := ⟨_, _, Tryz.underlying34, rfl, rfl, rfl⟩
theorem fl_impl_SetIndex_1 : Fld E_impl_SetIndex 1 (eSl E_impl_TokenCount) (fun x : T_impl_SetIndex => x.2.1) := (Fld.snd Fld.fst)
theorem ff_34_1 : FldF Tryz.prog 34 1 31 1 := ⟨_, _, Tryz.underlying34, rfl, rfl, rfl⟩
theorem fl_impl_SetIndex_2 : Fld E_impl_SetIndex 2 (eSl E_impl_IndexedSet) (fun x : T_impl_SetIndex => x.2.2) := (Fld.snd (Fld.snd (Fld.id _)))
theorem ff_34_2 : FldF Tryz.prog 34 2 32 2 := ⟨_, _, Tryz.underlying34, rfl, rfl, rfl⟩
theorem el_9 : ElF Tryz.prog 9 1 := el_of Tryz.zeroValue9 Tryz.sizeOf9 (by kernel_rfl : (Tryz.prog.info? 9).map (·.bytes) = some 16) rfl (by decide) (by decide)
theorem el_3 : ElF Tryz.prog 3 1 := el_of Tryz.zeroValue3 Tryz.sizeOf3 (by kernel_rfl : (Tryz.prog.info? 3).map (·.bytes) = some 8) rfl (by decide) (by decide)
theorem el_87 : ElF Tryz.prog 87 2 := el_of Tryz.zeroValue87 Tryz.sizeOf87 (by kernel_rfl : (Tryz.prog.info? 87).map (·.bytes) = some 24) rfl (by decide) (by decide)
theorem el_60 : ElF Tryz.prog 60 2 := el_of Tryz.zeroValue60 Tryz.sizeOf60 (by kernel_rfl : (Tryz.prog.info? 60).map (·.bytes) = some 32) rfl (by decide) (by decide)
theorem el_5 : ElF Tryz.prog 5 1 := el_of Tryz.zeroValue5 Tryz.sizeOf5 (by kernel_rfl : (Tryz.prog.info? 5).map (·.bytes) = some 1) rfl (by decide) (by decide)
end Go.Proofs.YtfcocbokgfmjfaaGreat
