/- Printed by dec.py: plain functions and the proofs that the code computes them. No statement of the seat is proved here. -/
import Derived.Test.YtofiipblinonoaaProg
import Derived.Test.YtofiipblinonoaaDu
namespace Go.Proofs.Ytofiipblinonoaa
open Go.RowKit
set_option linter.unusedVariables false
abbrev T_spec_l1Cur := (List Int) × Int × Int
abbrev E_spec_l1Cur : Enc T_spec_l1Cur := ePr (eSl (eInt .u8)) (ePr (eInt .i64) (eInt .i64))
theorem fl_spec_l1Cur_0 : Fld E_spec_l1Cur 0 (eSl (eInt .u8)) (fun x : T_spec_l1Cur => x.1) := Fld.fst
theorem ff_108_0 : FldF Try.prog 108 0 33 0 := ⟨_, _, Try.underlying108, rfl, rfl, rfl⟩
theorem fl_spec_l1Cur_1 : Fld E_spec_l1Cur 1 (eInt .i64) (fun x : T_spec_l1Cur => x.2.1) := (Fld.snd Fld.fst)
theorem fs_spec_l1Cur_1 : FldS E_spec_l1Cur 1 (eInt .i64) (fun (x : T_spec_l1Cur) y => (x.1, y, x.2.2)) := (FldS.snd FldS.fst)
theorem ff_108_1 : FldF Try.prog 108 1 3 1 := ⟨_, _, Try.underlying108, rfl, rfl, rfl⟩
theorem fl_spec_l1Cur_2 : Fld E_spec_l1Cur 2 (eInt .i64) (fun x : T_spec_l1Cur => x.2.2) := (Fld.snd (Fld.snd (Fld.id _)))
theorem fs_spec_l1Cur_2 : FldS E_spec_l1Cur 2 (eInt .i64) (fun (x : T_spec_l1Cur) y => (x.1, x.2.1, y)) := (FldS.snd (FldS.snd (FldS.id _)))
theorem ff_108_2 : FldF Try.prog 108 2 3 2 := ⟨_, _, Try.underlying108, rfl, rfl, rfl⟩
theorem el_9 : ElF Try.prog 9 1 := el_of Try.zeroValue9 Try.sizeOf9 (by kernel_rfl : (Try.prog.info? 9).map (·.bytes) = some 16) rfl (by decide) (by decide)
theorem el_3 : ElF Try.prog 3 1 := el_of Try.zeroValue3 Try.sizeOf3 (by kernel_rfl : (Try.prog.info? 3).map (·.bytes) = some 8) rfl (by decide) (by decide)
theorem el_5 : ElF Try.prog 5 1 := el_of Try.zeroValue5 Try.sizeOf5 (by kernel_rfl : (Try.prog.info? 5).map (·.bytes) = some 1) rfl (by decide) (by decide)
theorem el_24 : ElF Try.prog 24 1 := el_of Try.zeroValue24 Try.sizeOf24 (by kernel_rfl : (Try.prog.info? 24).map (·.bytes) = some 24) rfl (by decide) (by decide)
end Go.Proofs.Ytofiipblinonoaa
