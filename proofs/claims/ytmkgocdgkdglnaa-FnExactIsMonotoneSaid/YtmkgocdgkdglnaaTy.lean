/- Printed by dec.py: plain functions and the proofs that the code computes them. No statement of the seat is proved here. -/
import Derived.Test.YtmkgocdgkdglnaaProg
import Derived.Test.YtmkgocdgkdglnaaDu
namespace Go.Proofs.Ytmkgocdgkdglnaa
open Go.RowKit
set_option linter.unusedVariables false
abbrev T_impl_Test := Int × Int × Bool
abbrev E_impl_Test : Enc T_impl_Test := ePr (eInt .i64) (ePr (eInt .i64) eBool)
theorem fl_impl_Test_0 : Fld E_impl_Test 0 (eInt .i64) (fun x : T_impl_Test => x.1) := Fld.fst
theorem fs_impl_Test_0 : FldS E_impl_Test 0 (eInt .i64) (fun (x : T_impl_Test) y => (y, x.2.1, x.2.2)) := FldS.fst
theorem ff_82_0 : FldF Try.prog 82 0 3 0 := ⟨_, _, Try.underlying82, rfl, rfl, rfl⟩
theorem ff_130_0 : FldF Try.prog 130 0 3 0 := ⟨_, _, Try.underlying130, rfl, rfl, rfl⟩
theorem fl_impl_Test_1 : Fld E_impl_Test 1 (eInt .i64) (fun x : T_impl_Test => x.2.1) := (Fld.snd Fld.fst)
theorem fs_impl_Test_1 : FldS E_impl_Test 1 (eInt .i64) (fun (x : T_impl_Test) y => (x.1, y, x.2.2)) := (FldS.snd FldS.fst)
theorem ff_82_1 : FldF Try.prog 82 1 3 1 := ⟨_, _, Try.underlying82, rfl, rfl, rfl⟩
theorem ff_130_1 : FldF Try.prog 130 1 3 1 := ⟨_, _, Try.underlying130, rfl, rfl, rfl⟩
theorem fl_impl_Test_2 : Fld E_impl_Test 2 eBool (fun x : T_impl_Test => x.2.2) := (Fld.snd (Fld.snd (Fld.id _)))
theorem fs_impl_Test_2 : FldS E_impl_Test 2 eBool (fun (x : T_impl_Test) y => (x.1, x.2.1, y)) := (FldS.snd (FldS.snd (FldS.id _)))
theorem ff_82_2 : FldF Try.prog 82 2 4 2 := ⟨_, _, Try.underlying82, rfl, rfl, rfl⟩
theorem ff_130_2 : FldF Try.prog 130 2 4 2 := ⟨_, _, Try.underlying130, rfl, rfl, rfl⟩
abbrev T_laws_Rule := (List T_impl_Test)
abbrev E_laws_Rule : Enc T_laws_Rule := eBx (eSl E_impl_Test)
theorem fl_laws_Rule_0 : Fld E_laws_Rule 0 (eSl E_impl_Test) (fun x : T_laws_Rule => x) := Fld.bx
theorem ff_90_0 : FldF Try.prog 90 0 88 0 := ⟨_, _, Try.underlying90, rfl, rfl, rfl⟩
abbrev T_laws_RuleSet := (List T_laws_Rule)
abbrev E_laws_RuleSet : Enc T_laws_RuleSet := eBx (eSl E_laws_Rule)
theorem fl_laws_RuleSet_0 : Fld E_laws_RuleSet 0 (eSl E_laws_Rule) (fun x : T_laws_RuleSet => x) := Fld.bx
theorem ff_24_0 : FldF Try.prog 24 0 22 0 := ⟨_, _, Try.underlying24, rfl, rfl, rfl⟩
abbrev T_impl_Rule := (List T_impl_Test)
abbrev E_impl_Rule : Enc T_impl_Rule := eBx (eSl E_impl_Test)
theorem fl_impl_Rule_0 : Fld E_impl_Rule 0 (eSl E_impl_Test) (fun x : T_impl_Rule => x) := Fld.bx
theorem ff_79_0 : FldF Try.prog 79 0 65 0 := ⟨_, _, Try.underlying79, rfl, rfl, rfl⟩
abbrev T_impl_RuleSet := (List T_impl_Rule)
abbrev E_impl_RuleSet : Enc T_impl_RuleSet := eBx (eSl E_impl_Rule)
theorem fl_impl_RuleSet_0 : Fld E_impl_RuleSet 0 (eSl E_impl_Rule) (fun x : T_impl_RuleSet => x) := Fld.bx
theorem ff_29_0 : FldF Try.prog 29 0 27 0 := ⟨_, _, Try.underlying29, rfl, rfl, rfl⟩
theorem el_79 : ElF Try.prog 79 1 := el_of Try.zeroValue79 Try.sizeOf79 (by kernel_rfl : (Try.prog.info? 79).map (·.bytes) = some 24) rfl (by decide) (by decide)
theorem el_3 : ElF Try.prog 3 1 := el_of Try.zeroValue3 Try.sizeOf3 (by kernel_rfl : (Try.prog.info? 3).map (·.bytes) = some 8) rfl (by decide) (by decide)
theorem el_33 : ElF Try.prog 33 1 := el_of Try.zeroValue33 Try.sizeOf33 (by kernel_rfl : (Try.prog.info? 33).map (·.bytes) = some 24) rfl (by decide) (by decide)
theorem el_82 : ElF Try.prog 82 3 := el_of Try.zeroValue82 Try.sizeOf82 (by kernel_rfl : (Try.prog.info? 82).map (·.bytes) = some 24) rfl (by decide) (by decide)
end Go.Proofs.Ytmkgocdgkdglnaa
