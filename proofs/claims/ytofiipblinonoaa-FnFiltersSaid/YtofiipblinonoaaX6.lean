/- Printed by dec.py: plain functions and the proofs that the code computes them. No statement of the seat is proved here. -/
import Derived.Test.YtofiipblinonoaaX5
namespace Go.Proofs.Ytofiipblinonoaa
open Go.RowKit
set_option linter.unusedVariables false
set_option maxRecDepth 100000
set_option maxHeartbeats 4000000
def M_laws_sameInts_L0 (fu : Nat) (p0 : List Int) (p1 : List Int) : Nat → Int → Option (Ex Bool Unit)
 | 0, _ => none
 | k + 1, y5 =>
  bif (decide (y5 < (p0.length : Int))) then (
   ck (inR y5 p0.length) <|
   ck (inR y5 p1.length) <|
   bif ((gtD p0 y5) != (gtD p1 y5)) then (
    some (Ex.ret false)
   ) else (
    ck (i64B (y5 + (1 : Int))) <|
    M_laws_sameInts_L0 fu p0 p1 k (y5 + (1 : Int))
   )
  ) else (
   some (Ex.go ())
  )
def M_laws_sameInts (fu : Nat) (p0 : List Int) (p1 : List Int) : Option Bool :=
 bif ((p0.length : Int) != (p1.length : Int)) then (
  some false
 ) else (
  cl true (M_laws_sameInts_L0 fu p0 p1 fu (0 : Int)) fun rl2 =>
  exM rl2 (fun r => some r) fun s4 =>
  some true
 )
theorem M_laws_sameInts_ok {fu : Nat} {A : Av} {p0 : List Int} {p1 : List Int} {r : Bool} (hr : M_laws_sameInts fu p0 p1 = some r) {w : World} {v0 : Value} {v1 : Value} (hA : AvOK A w) (h0 : Rep (eSl (eInt .i64)) A w v0 p0) (h1 : Rep (eSl (eInt .i64)) A w v1 p1) :
  Calls Try.prog 28 #[v0, v1] w fun e w' => ∃ v, e = .returned v ∧ (v = .bool r ∧ Fr w w') := by
 unfold M_laws_sameInts at hr
 obtain ⟨w0, hw0⟩ : ∃ w0, w0 = w := ⟨_, rfl⟩
 have hF : Fr w0 w := hw0 ▸ Fr.refl _
 rw [show Fr w = Fr w0 from hw0 ▸ rfl]
 clear hw0
 refine calls_of_HT2 [.tmp 4] Try.func28 Try.ntmps28 (by decide) rfl rfl (Nat.le_of_ble_eq_true rfl) ?_
 intro R hR
 have f_v0 := h0
 replace h0 : R 0 = v0 := hR 0 _ rfl
 have f_v1 := h1
 replace h1 : R 1 = v1 := hR 1 _ rfl
 clear hR
 refine HT.seq ?_
 refine HT.text (l := ⟨_, true, .raw (.bool false)⟩ :: []) (tl := []) (by kernel_rfl) (by kernel_rfl) (by kernel_rfl) ?_ ?_
 ·exact
   Obls.p (fun R' w' hw hs hd => of_assign rfl) <|
   Obls.nil
 intro R w hw hs hF'
 replace h0 := (hs 0 rfl).trans h0
 replace h1 := (hs 1 rfl).trans h1
 replace f_v0 := f_v0.fr hw
 replace f_v1 := f_v1.fr hw
 replace hA := hA.fr hw.size
 replace hF := hF.trans hw
 clear hs hF' hw
 refine seqR_nil ?_
 refine HT.seq ?_
 refine HT.seq ?_
 refine HT.text (l := ⟨_, true, .raw v0⟩ :: ⟨_, true, .raw (.int .i64 (p0.length : Int))⟩ :: ⟨_, true, .raw v1⟩ :: ⟨_, true, .raw (.int .i64 (p1.length : Int))⟩ :: ⟨_, true, .raw (.bool ((p0.length : Int) != (p1.length : Int)))⟩ :: []) (tl := []) (by kernel_rfl) (by kernel_rfl) (by kernel_rfl) ?_ ?_
 ·exact
   Obls.p (fun R' w' hw hs hd => of_move ((hs 0 rfl).trans h0)) <|
   Obls.p (fun R' w' hw hs hd => by have a0 : R' 6 = v0 := hd.g 0 rfl; have ra0 := (f_v0.fr hw).eq a0; exact of_len_sl (aT := #[]) ra0 Try.underlying24) <|
   Obls.p (fun R' w' hw hs hd => of_move ((hs 1 rfl).trans h1)) <|
   Obls.p (fun R' w' hw hs hd => by have a0 : R' 8 = v1 := hd.g 0 rfl; have ra0 := (f_v1.fr hw).eq a0; exact of_len_sl (aT := #[]) ra0 Try.underlying24) <|
   Obls.p (fun R' w' hw hs hd => by have a0 : R' 7 = .int .i64 (p0.length : Int) := hd.g 0 rfl; have a1 : R' 9 = .int .i64 (p1.length : Int) := hd.g 1 rfl; exact of_neq a0 a1) <|
   Obls.nil
 intro R w hw hs hF'
 replace h0 := (hs 0 rfl).trans h0
 replace h1 := (hs 1 rfl).trans h1
 have h10 : R 10 = .bool ((p0.length : Int) != (p1.length : Int)) := hF' 4 _ _ rfl rfl rfl
 replace f_v0 := f_v0.fr hw
 replace f_v1 := f_v1.fr hw
 replace hA := hA.fr hw.size
 replace hF := hF.trans hw
 clear hs hF' hw
 refine seqR_nil ?_
 refine HT.cond ((p0.length : Int) != (p1.length : Int)) h10 (fun c1 => ?_) (fun c1 => ?_)
 ·have hr := cnd_t c1 hr
  refine HT.seq ?_
  refine HT.text (l := ⟨_, true, .raw (.bool false)⟩ :: []) (tl := []) (by kernel_rfl) (by kernel_rfl) (by kernel_rfl) ?_ ?_
  ·exact
    Obls.p (fun R' w' hw hs hd => of_assign rfl) <|
    Obls.nil
  intro R w hw hs hF'
  have h4 : R 4 = .bool false := hF' 0 _ _ rfl rfl rfl
  replace hA := hA.fr hw.size
  replace hF := hF.trans hw
  clear hs hF' hw
  refine seqR_nil ?_
  refine HT.ret ?_
  obtain rfl := Option.some.inj hr
  exact ⟨.inr rfl, [R 4], ⟨rfl, trivial⟩, h4, hF⟩
 ·have hr := cnd_f c1 hr
  refine HT.skip ?_
  refine HT.seq ?_
  refine HT.seq ?_
  refine HT.text (l := ⟨_, true, .raw (.int .i64 (0 : Int))⟩ :: []) (tl := []) (by kernel_rfl) (by kernel_rfl) (by kernel_rfl) ?_ ?_
  ·exact
    Obls.p (fun R' w' hw hs hd => of_assign rfl) <|
    Obls.nil
  intro R w hw hs hF'
  replace h0 := (hs 0 rfl).trans h0
  replace h1 := (hs 1 rfl).trans h1
  have h5 : R 5 = .int .i64 (0 : Int) := hF' 0 _ _ rfl rfl rfl
  replace f_v0 := f_v0.fr hw
  replace f_v1 := f_v1.fr hw
  replace hA := hA.fr hw.size
  replace hF := hF.trans hw
  clear hs hF' hw
  refine seqR_nil ?_
  obtain ⟨rl2, q3, hr⟩ := cl_some hr
  replace q3 := q3 rfl
  refine HT.cut0 (fun R w => ∃ (s4 : Unit), rl2 = Ex.go s4 ∧ AvOK A w ∧ Fr w0 w) ?_ ?_
  ·refine HT.block ?_
   refine HT.loop (fun k R w => ∃ (y5 : Int), M_laws_sameInts_L0 fu p0 p1 k y5 = some rl2 ∧ AvOK A w ∧ Fr w0 w ∧ R 0 = v0 ∧ R 1 = v1 ∧ R 5 = .int .i64 y5 ∧ Rep (eSl (eInt .i64)) A w v0 p0 ∧ Rep (eSl (eInt .i64)) A w v1 p1) fu ⟨_, q3, hA, hF, h0, h1, h5, f_v0, f_v1⟩ ?_
   have hr0 := hr; clear hr q3
   rintro k R w ⟨y5, hr, hA, hF, h0, h1, h5, f_v0, f_v1⟩
   rcases k with _ | k
   ·cases (show none = some _ from hr)
   rw [M_laws_sameInts_L0] at hr
   refine HT.seq ?_
   refine HT.seq ?_
   refine HT.text (l := ⟨_, true, .raw (.int .i64 y5)⟩ :: ⟨_, true, .raw v0⟩ :: ⟨_, true, .raw (.int .i64 (p0.length : Int))⟩ :: ⟨_, true, .raw (.bool (decide (y5 < (p0.length : Int))))⟩ :: []) (tl := []) (by kernel_rfl) (by kernel_rfl) (by kernel_rfl) ?_ ?_
   ·exact
     Obls.p (fun R' w' hw hs hd => of_move ((hs 5 rfl).trans h5)) <|
     Obls.p (fun R' w' hw hs hd => of_move ((hs 0 rfl).trans h0)) <|
     Obls.p (fun R' w' hw hs hd => by have a0 : R' 12 = v0 := hd.g 0 rfl; have ra0 := (f_v0.fr hw).eq a0; exact of_len_sl (aT := #[]) ra0 Try.underlying24) <|
     Obls.p (fun R' w' hw hs hd => by have a0 : R' 11 = .int .i64 y5 := hd.g 0 rfl; have a1 : R' 13 = .int .i64 (p0.length : Int) := hd.g 1 rfl; exact of_lss a0 a1) <|
     Obls.nil
   intro R w hw hs hF'
   replace h0 := (hs 0 rfl).trans h0
   replace h1 := (hs 1 rfl).trans h1
   replace h5 := (hs 5 rfl).trans h5
   have h14 : R 14 = .bool (decide (y5 < (p0.length : Int))) := hF' 3 _ _ rfl rfl rfl
   replace f_v0 := f_v0.fr hw
   replace f_v1 := f_v1.fr hw
   replace hA := hA.fr hw.size
   replace hF := hF.trans hw
   clear hs hF' hw
   refine seqR_nil ?_
   refine HT.cond (decide (y5 < (p0.length : Int))) h14 (fun c6 => ?_) (fun c6 => ?_)
   ·have hr := cnd_t c6 hr
    refine HT.skip ?_
    refine HT.seq ?_
    refine HT.block ?_
    refine HT.seq ?_
    obtain ⟨e7, hr⟩ := ck_some hr
    obtain ⟨e8, hr⟩ := ck_some hr
    refine HT.draw (by kernel_rfl) (l := ⟨_, true, .raw v0⟩ :: ⟨_, true, .raw (.int .i64 y5)⟩ :: ⟨_, true, .qtr (eInt .i64) A (gtD p0 y5)⟩ :: ⟨_, true, .raw (.int .i64 (gtD p0 y5))⟩ :: ⟨_, true, .raw v1⟩ :: ⟨_, true, .raw (.int .i64 y5)⟩ :: ⟨_, true, .qtr (eInt .i64) A (gtD p1 y5)⟩ :: ⟨_, true, .raw (.int .i64 (gtD p1 y5))⟩ :: ⟨_, true, .raw (.bool ((gtD p0 y5) != (gtD p1 y5)))⟩ :: []) (tl := []) (by kernel_rfl) (by kernel_rfl) (by kernel_rfl) (by kernel_rfl) ?_ ?_
    ·exact
      Obls.p (fun R' w' hw hs hd => of_move ((hs 0 rfl).trans h0)) <|
      Obls.p (fun R' w' hw hs hd => of_move ((hs 5 rfl).trans h5)) <|
      Obls.p (fun R' w' hw hs hd => by have a0 : R' 17 = v0 := hd.g 0 rfl; have a1 : R' 18 = .int .i64 y5 := hd.g 1 rfl; have ra0 := (f_v0.fr hw).eq a0; exact of_indexAddr ra0 a1 Try.underlying24 Try.sizeOf3 e7) <|
      Obls.p (fun R' w' hw hs hd => by have a0 : QRep (eInt .i64) A w' (R' 19) (gtD p0 y5) := hd.g 0 rfl; exact OpF.int (of_load a0.ptr Try.isAgg3 Try.sizeOf3)) <|
      Obls.p (fun R' w' hw hs hd => of_move ((hs 1 rfl).trans h1)) <|
      Obls.p (fun R' w' hw hs hd => of_move ((hs 5 rfl).trans h5)) <|
      Obls.p (fun R' w' hw hs hd => by have a0 : R' 21 = v1 := hd.g 0 rfl; have a1 : R' 22 = .int .i64 y5 := hd.g 1 rfl; have ra0 := (f_v1.fr hw).eq a0; exact of_indexAddr ra0 a1 Try.underlying24 Try.sizeOf3 e8) <|
      Obls.p (fun R' w' hw hs hd => by have a0 : QRep (eInt .i64) A w' (R' 23) (gtD p1 y5) := hd.g 0 rfl; exact OpF.int (of_load a0.ptr Try.isAgg3 Try.sizeOf3)) <|
      Obls.p (fun R' w' hw hs hd => by have a0 : R' 20 = .int .i64 (gtD p0 y5) := hd.g 0 rfl; have a1 : R' 24 = .int .i64 (gtD p1 y5) := hd.g 1 rfl; exact of_neq a0 a1) <|
      Obls.nil
    intro R w hw hs hF'
    replace h0 := (hs 0 rfl).trans h0
    replace h1 := (hs 1 rfl).trans h1
    replace h5 := (hs 5 rfl).trans h5
    have h25 : R 25 = .bool ((gtD p0 y5) != (gtD p1 y5)) := hF' 8 _ _ rfl rfl rfl
    replace f_v0 := f_v0.fr hw
    replace f_v1 := f_v1.fr hw
    replace hA := hA.fr hw.size
    replace hF := hF.trans hw
    clear hs hF' hw
    refine seqR_nil ?_
    refine HT.cond ((gtD p0 y5) != (gtD p1 y5)) h25 (fun c9 => ?_) (fun c9 => ?_)
    ·have hr := cnd_t c9 hr
     refine HT.seq ?_
     refine HT.text (l := ⟨_, true, .raw (.bool false)⟩ :: []) (tl := []) (by kernel_rfl) (by kernel_rfl) (by kernel_rfl) ?_ ?_
     ·exact
       Obls.p (fun R' w' hw hs hd => of_assign rfl) <|
       Obls.nil
     intro R w hw hs hF'
     have h4 : R 4 = .bool false := hF' 0 _ _ rfl rfl rfl
     replace hA := hA.fr hw.size
     replace hF := hF.trans hw
     clear hs hF' hw
     refine seqR_nil ?_
     refine HT.ret ?_
     obtain rfl := Option.some.inj hr
     have hr := hr0
     replace hr : some _ = some _ := hr
     obtain rfl := Option.some.inj hr
     exact ⟨.inr rfl, [R 4], ⟨rfl, trivial⟩, h4, hF⟩
    ·have hr := cnd_f c9 hr
     refine HT.skip ?_
     obtain ⟨e10, hr⟩ := ck_some hr
     refine HT.text (l := ⟨_, true, .raw (.int .i64 y5)⟩ :: ⟨_, true, .raw (.int .i64 (y5 + (1 : Int)))⟩ :: ⟨_, true, .raw (.int .i64 (y5 + (1 : Int)))⟩ :: []) (tl := []) (by kernel_rfl) (by kernel_rfl) (by kernel_rfl) ?_ ?_
     ·exact
       Obls.p (fun R' w' hw hs hd => of_move ((hs 5 rfl).trans h5)) <|
       Obls.p (fun R' w' hw hs hd => by have a0 : R' 15 = .int .i64 y5 := hd.g 0 rfl; exact of_add a0 rfl e10) <|
       Obls.p (fun R' w' hw hs hd => by have a0 : R' 16 = .int .i64 (y5 + (1 : Int)) := hd.g 0 rfl; exact of_assign a0) <|
       Obls.nil
     intro R w hw hs hF'
     replace h0 := (hs 0 rfl).trans h0
     replace h1 := (hs 1 rfl).trans h1
     have h5 : R 5 = .int .i64 (y5 + (1 : Int)) := hF' 2 _ _ rfl rfl rfl
     replace f_v0 := f_v0.fr hw
     replace f_v1 := f_v1.fr hw
     replace hA := hA.fr hw.size
     replace hF := hF.trans hw
     clear hs hF' hw
     refine seqR_nil ?_
     exact Exists.intro k (And.intro (Nat.lt_succ_self k) ⟨_, hr, hA, hF, h0, h1, h5, f_v0, f_v1⟩)
   ·have hr := cnd_f c6 hr
    refine HT.exit ?_
    obtain rfl := Option.some.inj hr
    exact Exists.intro _ ⟨rfl, hA, hF⟩
  rintro R w ⟨s4, rfl, hA, hF⟩
  have hr := exM_go hr
  refine HT.seq ?_
  refine HT.text (l := ⟨_, true, .raw (.bool true)⟩ :: []) (tl := []) (by kernel_rfl) (by kernel_rfl) (by kernel_rfl) ?_ ?_
  ·exact
    Obls.p (fun R' w' hw hs hd => of_assign rfl) <|
    Obls.nil
  intro R w hw hs hF'
  have h4 : R 4 = .bool true := hF' 0 _ _ rfl rfl rfl
  replace hA := hA.fr hw.size
  replace hF := hF.trans hw
  clear hs hF' hw
  refine seqR_nil ?_
  refine HT.ret ?_
  obtain rfl := Option.some.inj hr
  exact ⟨.inr rfl, [R 4], ⟨rfl, trivial⟩, h4, hF⟩
def M_laws_at (fu : Nat) (p0 : List Int) (p1 : Int) : Option Int :=
 bif (decide (p1 < (p0.length : Int))) then (
  ck (inR p1 p0.length) <|
  some (IntKind.i64.wrap (gtD p0 p1))
 ) else (
  ck (i64B (p1 * (37 : Int))) <|
  ck (i64B ((p0.length : Int) * (11 : Int))) <|
  ck (i64B ((p1 * (37 : Int)) + ((p0.length : Int) * (11 : Int)))) <|
  ck ((256 : Int) != 0) <|
  some (((p1 * (37 : Int)) + ((p0.length : Int) * (11 : Int))).tmod (256 : Int))
 )
theorem M_laws_at_ok {fu : Nat} {A : Av} {p0 : List Int} {p1 : Int} {r : Int} (hr : M_laws_at fu p0 p1 = some r) {w : World} {v0 : Value} {v1 : Value} (hA : AvOK A w) (h0 : Rep (eSl (eInt .u8)) A w v0 p0) (h1 : v1 = .int .i64 p1) :
  Calls Try.prog 29 #[v0, v1] w fun e w' => ∃ v, e = .returned v ∧ (v = .int .i64 r ∧ Fr w w') := by
 unfold M_laws_at at hr
 obtain ⟨w0, hw0⟩ : ∃ w0, w0 = w := ⟨_, rfl⟩
 have hF : Fr w0 w := hw0 ▸ Fr.refl _
 rw [show Fr w = Fr w0 from hw0 ▸ rfl]
 clear hw0
 refine calls_of_HT2 [.tmp 4] Try.func29 Try.ntmps29 (by decide) rfl rfl (Nat.le_of_ble_eq_true rfl) ?_
 intro R hR
 have f_v0 := h0
 replace h0 : R 0 = v0 := hR 0 _ rfl
 replace h1 : R 1 = .int .i64 p1 := (hR 1 _ rfl).trans h1
 clear hR
 refine HT.seq ?_
 refine HT.text (l := ⟨_, true, .raw (.int .i64 (0 : Int))⟩ :: []) (tl := []) (by kernel_rfl) (by kernel_rfl) (by kernel_rfl) ?_ ?_
 ·exact
   Obls.p (fun R' w' hw hs hd => of_assign rfl) <|
   Obls.nil
 intro R w hw hs hF'
 replace h0 := (hs 0 rfl).trans h0
 replace h1 := (hs 1 rfl).trans h1
 replace f_v0 := f_v0.fr hw
 replace hA := hA.fr hw.size
 replace hF := hF.trans hw
 clear hs hF' hw
 refine seqR_nil ?_
 refine HT.seq ?_
 refine HT.seq ?_
 refine HT.text (l := ⟨_, true, .raw (.int .i64 p1)⟩ :: ⟨_, true, .raw v0⟩ :: ⟨_, true, .raw (.int .i64 (p0.length : Int))⟩ :: ⟨_, true, .raw (.bool (decide (p1 < (p0.length : Int))))⟩ :: []) (tl := []) (by kernel_rfl) (by kernel_rfl) (by kernel_rfl) ?_ ?_
 ·exact
   Obls.p (fun R' w' hw hs hd => of_move ((hs 1 rfl).trans h1)) <|
   Obls.p (fun R' w' hw hs hd => of_move ((hs 0 rfl).trans h0)) <|
   Obls.p (fun R' w' hw hs hd => by have a0 : R' 6 = v0 := hd.g 0 rfl; have ra0 := (f_v0.fr hw).eq a0; exact of_len_sl (aT := #[]) ra0 Try.underlying33) <|
   Obls.p (fun R' w' hw hs hd => by have a0 : R' 5 = .int .i64 p1 := hd.g 0 rfl; have a1 : R' 7 = .int .i64 (p0.length : Int) := hd.g 1 rfl; exact of_lss a0 a1) <|
   Obls.nil
 intro R w hw hs hF'
 replace h0 := (hs 0 rfl).trans h0
 replace h1 := (hs 1 rfl).trans h1
 have h8 : R 8 = .bool (decide (p1 < (p0.length : Int))) := hF' 3 _ _ rfl rfl rfl
 replace f_v0 := f_v0.fr hw
 replace hA := hA.fr hw.size
 replace hF := hF.trans hw
 clear hs hF' hw
 refine seqR_nil ?_
 refine HT.cond (decide (p1 < (p0.length : Int))) h8 (fun c1 => ?_) (fun c1 => ?_)
 ·have hr := cnd_t c1 hr
  refine HT.seq ?_
  obtain ⟨e2, hr⟩ := ck_some hr
  refine HT.text (l := ⟨_, true, .raw v0⟩ :: ⟨_, true, .raw (.int .i64 p1)⟩ :: ⟨_, true, .qtr (eInt .u8) A (gtD p0 p1)⟩ :: ⟨_, true, .raw (.int .u8 (gtD p0 p1))⟩ :: ⟨_, true, .raw (.int .i64 (IntKind.i64.wrap (gtD p0 p1)))⟩ :: ⟨_, true, .raw (.int .i64 (IntKind.i64.wrap (gtD p0 p1)))⟩ :: []) (tl := []) (by kernel_rfl) (by kernel_rfl) (by kernel_rfl) ?_ ?_
  ·exact
    Obls.p (fun R' w' hw hs hd => of_move ((hs 0 rfl).trans h0)) <|
    Obls.p (fun R' w' hw hs hd => of_move ((hs 1 rfl).trans h1)) <|
    Obls.p (fun R' w' hw hs hd => by have a0 : R' 9 = v0 := hd.g 0 rfl; have a1 : R' 10 = .int .i64 p1 := hd.g 1 rfl; have ra0 := (f_v0.fr hw).eq a0; exact of_indexAddr ra0 a1 Try.underlying33 Try.sizeOf5 e2) <|
    Obls.p (fun R' w' hw hs hd => by have a0 : QRep (eInt .u8) A w' (R' 11) (gtD p0 p1) := hd.g 0 rfl; exact OpF.int (of_load a0.ptr Try.isAgg5 Try.sizeOf5)) <|
    Obls.p (fun R' w' hw hs hd => by have a0 : R' 12 = .int .u8 (gtD p0 p1) := hd.g 0 rfl; exact of_conv_int a0 Try.underlying5 Try.underlying3) <|
    Obls.p (fun R' w' hw hs hd => by have a0 : R' 13 = .int .i64 (IntKind.i64.wrap (gtD p0 p1)) := hd.g 0 rfl; exact of_assign a0) <|
    Obls.nil
  intro R w hw hs hF'
  have h4 : R 4 = .int .i64 (IntKind.i64.wrap (gtD p0 p1)) := hF' 5 _ _ rfl rfl rfl
  replace hA := hA.fr hw.size
  replace hF := hF.trans hw
  clear hs hF' hw
  refine seqR_nil ?_
  refine HT.ret ?_
  obtain rfl := Option.some.inj hr
  exact ⟨.inr rfl, [R 4], ⟨rfl, trivial⟩, h4, hF⟩
 ·have hr := cnd_f c1 hr
  refine HT.skip ?_
  refine HT.seq ?_
  obtain ⟨e3, hr⟩ := ck_some hr
  obtain ⟨e4, hr⟩ := ck_some hr
  obtain ⟨e5, hr⟩ := ck_some hr
  obtain ⟨e6, hr⟩ := ck_some hr
  refine HT.text (l := ⟨_, true, .raw (.int .i64 p1)⟩ :: ⟨_, true, .raw (.int .i64 (p1 * (37 : Int)))⟩ :: ⟨_, true, .raw v0⟩ :: ⟨_, true, .raw (.int .i64 (p0.length : Int))⟩ :: ⟨_, true, .raw (.int .i64 ((p0.length : Int) * (11 : Int)))⟩ :: ⟨_, true, .raw (.int .i64 ((p1 * (37 : Int)) + ((p0.length : Int) * (11 : Int))))⟩ :: ⟨_, true, .raw (.int .i64 (((p1 * (37 : Int)) + ((p0.length : Int) * (11 : Int))).tmod (256 : Int)))⟩ :: ⟨_, true, .raw (.int .i64 (((p1 * (37 : Int)) + ((p0.length : Int) * (11 : Int))).tmod (256 : Int)))⟩ :: []) (tl := []) (by kernel_rfl) (by kernel_rfl) (by kernel_rfl) ?_ ?_
  ·exact
    Obls.p (fun R' w' hw hs hd => of_move ((hs 1 rfl).trans h1)) <|
    Obls.p (fun R' w' hw hs hd => by have a0 : R' 14 = .int .i64 p1 := hd.g 0 rfl; exact of_mul a0 rfl e3) <|
    Obls.p (fun R' w' hw hs hd => of_move ((hs 0 rfl).trans h0)) <|
    Obls.p (fun R' w' hw hs hd => by have a0 : R' 16 = v0 := hd.g 0 rfl; have ra0 := (f_v0.fr hw).eq a0; exact of_len_sl (aT := #[]) ra0 Try.underlying33) <|
    Obls.p (fun R' w' hw hs hd => by have a0 : R' 17 = .int .i64 (p0.length : Int) := hd.g 0 rfl; exact of_mul a0 rfl e4) <|
    Obls.p (fun R' w' hw hs hd => by have a0 : R' 15 = .int .i64 (p1 * (37 : Int)) := hd.g 0 rfl; have a1 : R' 18 = .int .i64 ((p0.length : Int) * (11 : Int)) := hd.g 1 rfl; exact of_add a0 a1 e5) <|
    Obls.p (fun R' w' hw hs hd => by have a0 : R' 19 = .int .i64 ((p1 * (37 : Int)) + ((p0.length : Int) * (11 : Int))) := hd.g 0 rfl; exact of_rem a0 rfl e6) <|
    Obls.p (fun R' w' hw hs hd => by have a0 : R' 20 = .int .i64 (((p1 * (37 : Int)) + ((p0.length : Int) * (11 : Int))).tmod (256 : Int)) := hd.g 0 rfl; exact of_assign a0) <|
    Obls.nil
  intro R w hw hs hF'
  have h4 : R 4 = .int .i64 (((p1 * (37 : Int)) + ((p0.length : Int) * (11 : Int))).tmod (256 : Int)) := hF' 7 _ _ rfl rfl rfl
  replace hA := hA.fr hw.size
  replace hF := hF.trans hw
  clear hs hF' hw
  refine seqR_nil ?_
  refine HT.ret ?_
  obtain rfl := Option.some.inj hr
  exact ⟨.inr rfl, [R 4], ⟨rfl, trivial⟩, h4, hF⟩
def M_impl_EditLimit (fu : Nat) (p0 : Int) (p1 : Int) (p2 : Int) : Option Int :=
 cl true (M_impl_within fu p0 (0 : Int) (40 : Int)) fun x1 =>
 cl (true && ((!x1) == false)) (M_impl_within fu p1 (0 : Int) (40 : Int)) fun x3 =>
 bd ((!x1) || (!x3)) fun x5 =>
 cl (true && (x5 == false)) (M_impl_within fu p2 (0 : Int) (1000 : Int)) fun x7 =>
 bd (x5 || (!x7)) fun x9 =>
 bif x9 then (
  some (-1 : Int)
 ) else (
  ck (i64B ((1000 : Int) - p2)) <|
  ck (i64B ((max p0 p1) * ((1000 : Int) - p2))) <|
  ck ((1000 : Int) != 0) <|
  ck (i64B (((max p0 p1) * ((1000 : Int) - p2)).tdiv (1000 : Int))) <|
  some (((max p0 p1) * ((1000 : Int) - p2)).tdiv (1000 : Int))
 )
theorem M_impl_EditLimit_ok {fu : Nat} {A : Av} {p0 : Int} {p1 : Int} {p2 : Int} {r : Int} (hr : M_impl_EditLimit fu p0 p1 p2 = some r) {w : World} {v0 : Value} {v1 : Value} {v2 : Value} (hA : AvOK A w) (h0 : v0 = .int .i64 p0) (h1 : v1 = .int .i64 p1) (h2 : v2 = .int .i64 p2) :
  Calls Try.prog 30 #[v0, v1, v2] w fun e w' => ∃ v, e = .returned v ∧ (v = .int .i64 r ∧ Fr w w') := by
 unfold M_impl_EditLimit at hr
 obtain ⟨w0, hw0⟩ : ∃ w0, w0 = w := ⟨_, rfl⟩
 have hF : Fr w0 w := hw0 ▸ Fr.refl _
 rw [show Fr w = Fr w0 from hw0 ▸ rfl]
 clear hw0
 refine calls_of_HT2 [.tmp 6] Try.func30 Try.ntmps30 (by decide) rfl rfl (Nat.le_of_ble_eq_true rfl) ?_
 intro R hR
 replace h0 : R 0 = .int .i64 p0 := (hR 0 _ rfl).trans h0
 replace h1 : R 1 = .int .i64 p1 := (hR 1 _ rfl).trans h1
 replace h2 : R 2 = .int .i64 p2 := (hR 2 _ rfl).trans h2
 clear hR
 refine HT.seq ?_
 refine HT.text (l := ⟨_, true, .raw (.int .i64 (0 : Int))⟩ :: []) (tl := []) (by kernel_rfl) (by kernel_rfl) (by kernel_rfl) ?_ ?_
 ·exact
   Obls.p (fun R' w' hw hs hd => of_assign rfl) <|
   Obls.nil
 intro R w hw hs hF'
 replace h0 := (hs 0 rfl).trans h0
 replace h1 := (hs 1 rfl).trans h1
 replace h2 := (hs 2 rfl).trans h2
 replace hA := hA.fr hw.size
 replace hF := hF.trans hw
 clear hs hF' hw
 refine seqR_nil ?_
 refine HT.seq ?_
 refine HT.seq ?_
 obtain ⟨x1, q2, hr⟩ := cl_some hr
 obtain ⟨x3, q4, hr⟩ := cl_some hr
 obtain ⟨x5, q6, hr⟩ := bd_some hr
 obtain ⟨x7, q8, hr⟩ := cl_some hr
 obtain ⟨x9, q10, hr⟩ := bd_some hr
 refine HT.text (l := ⟨_, true, .raw (.int .i64 p0)⟩ :: ⟨_, true, .raw (.bool x1)⟩ :: ⟨_, true, .raw (.bool (!x1))⟩ :: ⟨_, true, .raw (.bool (!x1))⟩ :: ⟨_, (true && ((!x1) == false)), .raw (.int .i64 p1)⟩ :: ⟨_, (true && ((!x1) == false)), .raw (.bool x3)⟩ :: ⟨_, (true && ((!x1) == false)), .raw (.bool (!x3))⟩ :: ⟨_, true, .raw (.bool x5)⟩ :: ⟨_, true, .raw (.bool x5)⟩ :: ⟨_, (true && (x5 == false)), .raw (.int .i64 p2)⟩ :: ⟨_, (true && (x5 == false)), .raw (.bool x7)⟩ :: ⟨_, (true && (x5 == false)), .raw (.bool (!x7))⟩ :: ⟨_, true, .raw (.bool x9)⟩ :: []) (tl := []) (by kernel_rfl) (by kernel_rfl) (by kernel_rfl) ?_ ?_
 ·exact
   Obls.p (fun R' w' hw hs hd => of_move ((hs 0 rfl).trans h0)) <|
   Obls.p (fun R' w' hw hs hd => by have a0 : R' 7 = .int .i64 p0 := hd.g 0 rfl; exact of_call Try.call69 (M_impl_within_ok (q2 rfl) (hA.fr hw.size) a0 rfl rfl)) <|
   Obls.p (fun R' w' hw hs hd => by have a0 : R' 8 = .bool x1 := hd.g 0 rfl; exact of_not a0) <|
   Obls.p (fun R' w' hw hs hd => by have a0 : R' 9 = .bool (!x1) := hd.g 0 rfl; exact of_move a0) <|
   Obls.cons (Obl.grd 3 false _ _ _ rfl rfl rfl rfl rfl (by kernel_rfl) fun hg R' w' hw hs hd => by have a0 : R' 1 = .int .i64 p1 := (hs 1 rfl).trans h1; exact of_move a0) <|
   Obls.cons (Obl.grd 3 false _ _ _ rfl rfl rfl rfl rfl (by kernel_rfl) fun hg R' w' hw hs hd => by have a0 : R' 11 = .int .i64 p1 := hd 0 _ _ _ rfl rfl rfl rfl hg; exact of_call Try.call69 (M_impl_within_ok (q4 hg) (hA.fr hw.size) a0 rfl rfl)) <|
   Obls.cons (Obl.grd 3 false _ _ _ rfl rfl rfl rfl rfl (by kernel_rfl) fun hg R' w' hw hs hd => by have a0 : R' 12 = .bool x3 := hd 0 _ _ _ rfl rfl rfl rfl hg; exact of_not a0) <|
   Obls.p (fun R' w' hw hs hd => by have a0 : R' 10 = .bool (!x1) := hd.g 0 rfl; exact of_pick (!x1) a0 (fun hc => by show _ = Value.bool x5; rw [q6, hc]; exact rfl) (fun hc => by have a2 : R' 13 = .bool (!x3) := hd 1 _ _ _ rfl rfl rfl rfl (g_and rfl (beq_of hc)); show _ = Value.bool x5; rw [q6, hc]; exact a2)) <|
   Obls.p (fun R' w' hw hs hd => by have a0 : R' 14 = .bool x5 := hd.g 0 rfl; exact of_move a0) <|
   Obls.cons (Obl.grd 8 false _ _ _ rfl rfl rfl rfl rfl (by kernel_rfl) fun hg R' w' hw hs hd => by have a0 : R' 2 = .int .i64 p2 := (hs 2 rfl).trans h2; exact of_move a0) <|
   Obls.cons (Obl.grd 8 false _ _ _ rfl rfl rfl rfl rfl (by kernel_rfl) fun hg R' w' hw hs hd => by have a0 : R' 16 = .int .i64 p2 := hd 0 _ _ _ rfl rfl rfl rfl hg; exact of_call Try.call69 (M_impl_within_ok (q8 hg) (hA.fr hw.size) a0 rfl rfl)) <|
   Obls.cons (Obl.grd 8 false _ _ _ rfl rfl rfl rfl rfl (by kernel_rfl) fun hg R' w' hw hs hd => by have a0 : R' 17 = .bool x7 := hd 0 _ _ _ rfl rfl rfl rfl hg; exact of_not a0) <|
   Obls.p (fun R' w' hw hs hd => by have a0 : R' 15 = .bool x5 := hd.g 0 rfl; exact of_pick x5 a0 (fun hc => by show _ = Value.bool x9; rw [q10, hc]; exact rfl) (fun hc => by have a2 : R' 18 = .bool (!x7) := hd 1 _ _ _ rfl rfl rfl rfl (g_and rfl (beq_of hc)); show _ = Value.bool x9; rw [q10, hc]; exact a2)) <|
   Obls.nil
 intro R w hw hs hF'
 replace h0 := (hs 0 rfl).trans h0
 replace h1 := (hs 1 rfl).trans h1
 replace h2 := (hs 2 rfl).trans h2
 have h19 : R 19 = .bool x9 := hF' 12 _ _ rfl rfl rfl
 replace hA := hA.fr hw.size
 replace hF := hF.trans hw
 clear hs hF' hw
 refine seqR_nil ?_
 refine HT.cond x9 h19 (fun c11 => ?_) (fun c11 => ?_)
 ·have hr := cnd_t c11 hr
  refine HT.seq ?_
  refine HT.text (l := ⟨_, true, .raw (.int .i64 (-1 : Int))⟩ :: []) (tl := []) (by kernel_rfl) (by kernel_rfl) (by kernel_rfl) ?_ ?_
  ·exact
    Obls.p (fun R' w' hw hs hd => of_assign rfl) <|
    Obls.nil
  intro R w hw hs hF'
  have h6 : R 6 = .int .i64 (-1 : Int) := hF' 0 _ _ rfl rfl rfl
  replace hA := hA.fr hw.size
  replace hF := hF.trans hw
  clear hs hF' hw
  refine seqR_nil ?_
  refine HT.ret ?_
  obtain rfl := Option.some.inj hr
  exact ⟨.inr rfl, [R 6], ⟨rfl, trivial⟩, h6, hF⟩
 ·have hr := cnd_f c11 hr
  refine HT.skip ?_
  refine HT.seq ?_
  obtain ⟨e12, hr⟩ := ck_some hr
  obtain ⟨e13, hr⟩ := ck_some hr
  obtain ⟨e14, hr⟩ := ck_some hr
  obtain ⟨e15, hr⟩ := ck_some hr
  refine HT.text (l := ⟨_, true, .raw (.int .i64 p0)⟩ :: ⟨_, true, .raw (.int .i64 p1)⟩ :: ⟨_, true, .raw (.int .i64 (max p0 p1))⟩ :: ⟨_, true, .raw (.int .i64 p2)⟩ :: ⟨_, true, .raw (.int .i64 ((1000 : Int) - p2))⟩ :: ⟨_, true, .raw (.int .i64 ((max p0 p1) * ((1000 : Int) - p2)))⟩ :: ⟨_, true, .raw (.int .i64 (((max p0 p1) * ((1000 : Int) - p2)).tdiv (1000 : Int)))⟩ :: ⟨_, true, .raw (.int .i64 (((max p0 p1) * ((1000 : Int) - p2)).tdiv (1000 : Int)))⟩ :: []) (tl := []) (by kernel_rfl) (by kernel_rfl) (by kernel_rfl) ?_ ?_
  ·exact
    Obls.p (fun R' w' hw hs hd => of_move ((hs 0 rfl).trans h0)) <|
    Obls.p (fun R' w' hw hs hd => of_move ((hs 1 rfl).trans h1)) <|
    Obls.p (fun R' w' hw hs hd => by have a0 : R' 20 = .int .i64 p0 := hd.g 0 rfl; have a1 : R' 21 = .int .i64 p1 := hd.g 1 rfl; exact of_max2 a0 a1) <|
    Obls.p (fun R' w' hw hs hd => of_move ((hs 2 rfl).trans h2)) <|
    Obls.p (fun R' w' hw hs hd => by have a1 : R' 23 = .int .i64 p2 := hd.g 0 rfl; exact of_sub rfl a1 e12) <|
    Obls.p (fun R' w' hw hs hd => by have a0 : R' 22 = .int .i64 (max p0 p1) := hd.g 0 rfl; have a1 : R' 24 = .int .i64 ((1000 : Int) - p2) := hd.g 1 rfl; exact of_mul a0 a1 e13) <|
    Obls.p (fun R' w' hw hs hd => by have a0 : R' 25 = .int .i64 ((max p0 p1) * ((1000 : Int) - p2)) := hd.g 0 rfl; exact of_quo a0 rfl e14 e15) <|
    Obls.p (fun R' w' hw hs hd => by have a0 : R' 26 = .int .i64 (((max p0 p1) * ((1000 : Int) - p2)).tdiv (1000 : Int)) := hd.g 0 rfl; exact of_assign a0) <|
    Obls.nil
  intro R w hw hs hF'
  have h6 : R 6 = .int .i64 (((max p0 p1) * ((1000 : Int) - p2)).tdiv (1000 : Int)) := hF' 7 _ _ rfl rfl rfl
  replace hA := hA.fr hw.size
  replace hF := hF.trans hw
  clear hs hF' hw
  refine seqR_nil ?_
  refine HT.ret ?_
  obtain rfl := Option.some.inj hr
  exact ⟨.inr rfl, [R 6], ⟨rfl, trivial⟩, h6, hF⟩
def M_spec_EditLimit (fu : Nat) (p0 : Int) (p1 : Int) (p2 : Int) : Option Int :=
 cl true (M_spec_l10Good fu p0 p1 (1 : Int) (0 : Int)) fun x1 =>
 cl (true && ((!x1) == false)) (M_spec_l1In fu p2 (0 : Int) (1000 : Int)) fun x3 =>
 bd ((!x1) || (!x3)) fun x5 =>
 bif x5 then (
  some (-1 : Int)
 ) else (
  ck (i64B ((1000 : Int) - p2)) <|
  ck (i64B ((max p0 p1) * ((1000 : Int) - p2))) <|
  ck ((1000 : Int) != 0) <|
  ck (i64B (((max p0 p1) * ((1000 : Int) - p2)).tdiv (1000 : Int))) <|
  some (((max p0 p1) * ((1000 : Int) - p2)).tdiv (1000 : Int))
 )
theorem M_spec_EditLimit_ok {fu : Nat} {A : Av} {p0 : Int} {p1 : Int} {p2 : Int} {r : Int} (hr : M_spec_EditLimit fu p0 p1 p2 = some r) {w : World} {v0 : Value} {v1 : Value} {v2 : Value} (hA : AvOK A w) (h0 : v0 = .int .i64 p0) (h1 : v1 = .int .i64 p1) (h2 : v2 = .int .i64 p2) :
  Calls Try.prog 31 #[v0, v1, v2] w fun e w' => ∃ v, e = .returned v ∧ (v = .int .i64 r ∧ Fr w w') := by
 unfold M_spec_EditLimit at hr
 obtain ⟨w0, hw0⟩ : ∃ w0, w0 = w := ⟨_, rfl⟩
 have hF : Fr w0 w := hw0 ▸ Fr.refl _
 rw [show Fr w = Fr w0 from hw0 ▸ rfl]
 clear hw0
 refine calls_of_HT2 [.tmp 6] Try.func31 Try.ntmps31 (by decide) rfl rfl (Nat.le_of_ble_eq_true rfl) ?_
 intro R hR
 replace h0 : R 0 = .int .i64 p0 := (hR 0 _ rfl).trans h0
 replace h1 : R 1 = .int .i64 p1 := (hR 1 _ rfl).trans h1
 replace h2 : R 2 = .int .i64 p2 := (hR 2 _ rfl).trans h2
 clear hR
 refine HT.seq ?_
 refine HT.text (l := ⟨_, true, .raw (.int .i64 (0 : Int))⟩ :: []) (tl := []) (by kernel_rfl) (by kernel_rfl) (by kernel_rfl) ?_ ?_
 ·exact
   Obls.p (fun R' w' hw hs hd => of_assign rfl) <|
   Obls.nil
 intro R w hw hs hF'
 replace h0 := (hs 0 rfl).trans h0
 replace h1 := (hs 1 rfl).trans h1
 replace h2 := (hs 2 rfl).trans h2
 replace hA := hA.fr hw.size
 replace hF := hF.trans hw
 clear hs hF' hw
 refine seqR_nil ?_
 refine HT.seq ?_
 refine HT.seq ?_
 obtain ⟨x1, q2, hr⟩ := cl_some hr
 obtain ⟨x3, q4, hr⟩ := cl_some hr
 obtain ⟨x5, q6, hr⟩ := bd_some hr
 refine HT.text (l := ⟨_, true, .raw (.int .i64 p0)⟩ :: ⟨_, true, .raw (.int .i64 p1)⟩ :: ⟨_, true, .raw (.bool x1)⟩ :: ⟨_, true, .raw (.bool (!x1))⟩ :: ⟨_, true, .raw (.bool (!x1))⟩ :: ⟨_, (true && ((!x1) == false)), .raw (.int .i64 p2)⟩ :: ⟨_, (true && ((!x1) == false)), .raw (.bool x3)⟩ :: ⟨_, (true && ((!x1) == false)), .raw (.bool (!x3))⟩ :: ⟨_, true, .raw (.bool x5)⟩ :: []) (tl := []) (by kernel_rfl) (by kernel_rfl) (by kernel_rfl) ?_ ?_
 ·exact
   Obls.p (fun R' w' hw hs hd => of_move ((hs 0 rfl).trans h0)) <|
   Obls.p (fun R' w' hw hs hd => of_move ((hs 1 rfl).trans h1)) <|
   Obls.p (fun R' w' hw hs hd => by have a0 : R' 7 = .int .i64 p0 := hd.g 0 rfl; have a1 : R' 8 = .int .i64 p1 := hd.g 1 rfl; exact of_call Try.call55 (M_spec_l10Good_ok (q2 rfl) (hA.fr hw.size) a0 a1 rfl rfl)) <|
   Obls.p (fun R' w' hw hs hd => by have a0 : R' 9 = .bool x1 := hd.g 0 rfl; exact of_not a0) <|
   Obls.p (fun R' w' hw hs hd => by have a0 : R' 10 = .bool (!x1) := hd.g 0 rfl; exact of_move a0) <|
   Obls.cons (Obl.grd 4 false _ _ _ rfl rfl rfl rfl rfl (by kernel_rfl) fun hg R' w' hw hs hd => by have a0 : R' 2 = .int .i64 p2 := (hs 2 rfl).trans h2; exact of_move a0) <|
   Obls.cons (Obl.grd 4 false _ _ _ rfl rfl rfl rfl rfl (by kernel_rfl) fun hg R' w' hw hs hd => by have a0 : R' 12 = .int .i64 p2 := hd 0 _ _ _ rfl rfl rfl rfl hg; exact of_call Try.call70 (M_spec_l1In_ok (q4 hg) (hA.fr hw.size) a0 rfl rfl)) <|
   Obls.cons (Obl.grd 4 false _ _ _ rfl rfl rfl rfl rfl (by kernel_rfl) fun hg R' w' hw hs hd => by have a0 : R' 13 = .bool x3 := hd 0 _ _ _ rfl rfl rfl rfl hg; exact of_not a0) <|
   Obls.p (fun R' w' hw hs hd => by have a0 : R' 11 = .bool (!x1) := hd.g 0 rfl; exact of_pick (!x1) a0 (fun hc => by show _ = Value.bool x5; rw [q6, hc]; exact rfl) (fun hc => by have a2 : R' 14 = .bool (!x3) := hd 1 _ _ _ rfl rfl rfl rfl (g_and rfl (beq_of hc)); show _ = Value.bool x5; rw [q6, hc]; exact a2)) <|
   Obls.nil
 intro R w hw hs hF'
 replace h0 := (hs 0 rfl).trans h0
 replace h1 := (hs 1 rfl).trans h1
 replace h2 := (hs 2 rfl).trans h2
 have h15 : R 15 = .bool x5 := hF' 8 _ _ rfl rfl rfl
 replace hA := hA.fr hw.size
 replace hF := hF.trans hw
 clear hs hF' hw
 refine seqR_nil ?_
 refine HT.cond x5 h15 (fun c7 => ?_) (fun c7 => ?_)
 ·have hr := cnd_t c7 hr
  refine HT.seq ?_
  refine HT.text (l := ⟨_, true, .raw (.int .i64 (-1 : Int))⟩ :: []) (tl := []) (by kernel_rfl) (by kernel_rfl) (by kernel_rfl) ?_ ?_
  ·exact
    Obls.p (fun R' w' hw hs hd => of_assign rfl) <|
    Obls.nil
  intro R w hw hs hF'
  have h6 : R 6 = .int .i64 (-1 : Int) := hF' 0 _ _ rfl rfl rfl
  replace hA := hA.fr hw.size
  replace hF := hF.trans hw
  clear hs hF' hw
  refine seqR_nil ?_
  refine HT.ret ?_
  obtain rfl := Option.some.inj hr
  exact ⟨.inr rfl, [R 6], ⟨rfl, trivial⟩, h6, hF⟩
 ·have hr := cnd_f c7 hr
  refine HT.skip ?_
  refine HT.seq ?_
  obtain ⟨e8, hr⟩ := ck_some hr
  obtain ⟨e9, hr⟩ := ck_some hr
  obtain ⟨e10, hr⟩ := ck_some hr
  obtain ⟨e11, hr⟩ := ck_some hr
  refine HT.text (l := ⟨_, true, .raw (.int .i64 p0)⟩ :: ⟨_, true, .raw (.int .i64 p1)⟩ :: ⟨_, true, .raw (.int .i64 (max p0 p1))⟩ :: ⟨_, true, .raw (.int .i64 p2)⟩ :: ⟨_, true, .raw (.int .i64 ((1000 : Int) - p2))⟩ :: ⟨_, true, .raw (.int .i64 ((max p0 p1) * ((1000 : Int) - p2)))⟩ :: ⟨_, true, .raw (.int .i64 (((max p0 p1) * ((1000 : Int) - p2)).tdiv (1000 : Int)))⟩ :: ⟨_, true, .raw (.int .i64 (((max p0 p1) * ((1000 : Int) - p2)).tdiv (1000 : Int)))⟩ :: []) (tl := []) (by kernel_rfl) (by kernel_rfl) (by kernel_rfl) ?_ ?_
  ·exact
    Obls.p (fun R' w' hw hs hd => of_move ((hs 0 rfl).trans h0)) <|
    Obls.p (fun R' w' hw hs hd => of_move ((hs 1 rfl).trans h1)) <|
    Obls.p (fun R' w' hw hs hd => by have a0 : R' 16 = .int .i64 p0 := hd.g 0 rfl; have a1 : R' 17 = .int .i64 p1 := hd.g 1 rfl; exact of_max2 a0 a1) <|
    Obls.p (fun R' w' hw hs hd => of_move ((hs 2 rfl).trans h2)) <|
    Obls.p (fun R' w' hw hs hd => by have a1 : R' 19 = .int .i64 p2 := hd.g 0 rfl; exact of_sub rfl a1 e8) <|
    Obls.p (fun R' w' hw hs hd => by have a0 : R' 18 = .int .i64 (max p0 p1) := hd.g 0 rfl; have a1 : R' 20 = .int .i64 ((1000 : Int) - p2) := hd.g 1 rfl; exact of_mul a0 a1 e9) <|
    Obls.p (fun R' w' hw hs hd => by have a0 : R' 21 = .int .i64 ((max p0 p1) * ((1000 : Int) - p2)) := hd.g 0 rfl; exact of_quo a0 rfl e10 e11) <|
    Obls.p (fun R' w' hw hs hd => by have a0 : R' 22 = .int .i64 (((max p0 p1) * ((1000 : Int) - p2)).tdiv (1000 : Int)) := hd.g 0 rfl; exact of_assign a0) <|
    Obls.nil
  intro R w hw hs hF'
  have h6 : R 6 = .int .i64 (((max p0 p1) * ((1000 : Int) - p2)).tdiv (1000 : Int)) := hF' 7 _ _ rfl rfl rfl
  replace hA := hA.fr hw.size
  replace hF := hF.trans hw
  clear hs hF' hw
  refine seqR_nil ?_
  refine HT.ret ?_
  obtain rfl := Option.some.inj hr
  exact ⟨.inr rfl, [R 6], ⟨rfl, trivial⟩, h6, hF⟩
def M_spec_EditScore (fu : Nat) (p0 : List UInt8) (p1 : List UInt8) : Option Int :=
 cl true (M_spec_EditDistance fu p0 p1) fun x1 =>
 bif (decide (x1 < (0 : Int))) then (
  some (0 : Int)
 ) else (
  bif ((max (p0.length : Int) (p1.length : Int)) == (0 : Int)) then (
   some (1000 : Int)
  ) else (
   ck (i64B ((max (p0.length : Int) (p1.length : Int)) - x1)) <|
   ck (i64B ((1000 : Int) * ((max (p0.length : Int) (p1.length : Int)) - x1))) <|
   ck ((max (p0.length : Int) (p1.length : Int)) != 0) <|
   ck (i64B (((1000 : Int) * ((max (p0.length : Int) (p1.length : Int)) - x1)).tdiv (max (p0.length : Int) (p1.length : Int)))) <|
   some (((1000 : Int) * ((max (p0.length : Int) (p1.length : Int)) - x1)).tdiv (max (p0.length : Int) (p1.length : Int)))
  )
 )
theorem M_spec_EditScore_ok {fu : Nat} {A : Av} {p0 : List UInt8} {p1 : List UInt8} {r : Int} (hr : M_spec_EditScore fu p0 p1 = some r) {w : World} {v0 : Value} {v1 : Value} (hA : AvOK A w) (h0 : Rep eStr A w v0 p0) (h1 : Rep eStr A w v1 p1) :
  Calls Try.prog 32 #[v0, v1] w fun e w' => ∃ v, e = .returned v ∧ (v = .int .i64 r ∧ Fr w w') := by
 unfold M_spec_EditScore at hr
 obtain ⟨w0, hw0⟩ : ∃ w0, w0 = w := ⟨_, rfl⟩
 have hF : Fr w0 w := hw0 ▸ Fr.refl _
 rw [show Fr w = Fr w0 from hw0 ▸ rfl]
 clear hw0
 refine calls_of_HT2 [.tmp 4] Try.func32 Try.ntmps32 (by decide) rfl rfl (Nat.le_of_ble_eq_true rfl) ?_
 intro R hR
 have f_v0 := h0
 replace h0 : R 0 = v0 := hR 0 _ rfl
 have f_v1 := h1
 replace h1 : R 1 = v1 := hR 1 _ rfl
 clear hR
 refine HT.seq ?_
 refine HT.text (l := ⟨_, true, .raw (.int .i64 (0 : Int))⟩ :: []) (tl := []) (by kernel_rfl) (by kernel_rfl) (by kernel_rfl) ?_ ?_
 ·exact
   Obls.p (fun R' w' hw hs hd => of_assign rfl) <|
   Obls.nil
 intro R w hw hs hF'
 replace h0 := (hs 0 rfl).trans h0
 replace h1 := (hs 1 rfl).trans h1
 replace f_v0 := f_v0.fr hw
 replace f_v1 := f_v1.fr hw
 replace hA := hA.fr hw.size
 replace hF := hF.trans hw
 clear hs hF' hw
 refine seqR_nil ?_
 refine HT.seq ?_
 obtain ⟨x1, q2, hr⟩ := cl_some hr
 refine HT.text (l := ⟨_, true, .raw v0⟩ :: ⟨_, true, .raw v1⟩ :: ⟨_, true, .raw (.int .i64 x1)⟩ :: ⟨_, true, .raw (.int .i64 x1)⟩ :: []) (tl := []) (by kernel_rfl) (by kernel_rfl) (by kernel_rfl) ?_ ?_
 ·exact
   Obls.p (fun R' w' hw hs hd => of_move ((hs 0 rfl).trans h0)) <|
   Obls.p (fun R' w' hw hs hd => of_move ((hs 1 rfl).trans h1)) <|
   Obls.p (fun R' w' hw hs hd => by have a0 : R' 7 = v0 := hd.g 0 rfl; have ra0 := (f_v0.fr hw).eq a0; have a1 : R' 8 = v1 := hd.g 1 rfl; have ra1 := (f_v1.fr hw).eq a1; exact of_call Try.call26 (M_spec_EditDistance_ok (q2 rfl) (hA.fr hw.size) ra0 ra1)) <|
   Obls.p (fun R' w' hw hs hd => by have a0 : R' 9 = .int .i64 x1 := hd.g 0 rfl; exact of_assign a0) <|
   Obls.nil
 intro R w hw hs hF'
 replace h0 := (hs 0 rfl).trans h0
 replace h1 := (hs 1 rfl).trans h1
 have h5 : R 5 = .int .i64 x1 := hF' 3 _ _ rfl rfl rfl
 replace f_v0 := f_v0.fr hw
 replace f_v1 := f_v1.fr hw
 replace hA := hA.fr hw.size
 replace hF := hF.trans hw
 clear hs hF' hw
 refine seqR_nil ?_
 refine HT.seq ?_
 refine HT.text (l := ⟨_, true, .raw v0⟩ :: ⟨_, true, .raw (.int .i64 (p0.length : Int))⟩ :: ⟨_, true, .raw v1⟩ :: ⟨_, true, .raw (.int .i64 (p1.length : Int))⟩ :: ⟨_, true, .raw (.int .i64 (max (p0.length : Int) (p1.length : Int)))⟩ :: ⟨_, true, .raw (.int .i64 (max (p0.length : Int) (p1.length : Int)))⟩ :: []) (tl := []) (by kernel_rfl) (by kernel_rfl) (by kernel_rfl) ?_ ?_
 ·exact
   Obls.p (fun R' w' hw hs hd => of_move ((hs 0 rfl).trans h0)) <|
   Obls.p (fun R' w' hw hs hd => by have a0 : R' 10 = v0 := hd.g 0 rfl; have ra0 := (f_v0.fr hw).eq a0; exact of_len_str ra0 Try.underlying9) <|
   Obls.p (fun R' w' hw hs hd => of_move ((hs 1 rfl).trans h1)) <|
   Obls.p (fun R' w' hw hs hd => by have a0 : R' 12 = v1 := hd.g 0 rfl; have ra0 := (f_v1.fr hw).eq a0; exact of_len_str ra0 Try.underlying9) <|
   Obls.p (fun R' w' hw hs hd => by have a0 : R' 11 = .int .i64 (p0.length : Int) := hd.g 0 rfl; have a1 : R' 13 = .int .i64 (p1.length : Int) := hd.g 1 rfl; exact of_max2 a0 a1) <|
   Obls.p (fun R' w' hw hs hd => by have a0 : R' 14 = .int .i64 (max (p0.length : Int) (p1.length : Int)) := hd.g 0 rfl; exact of_assign a0) <|
   Obls.nil
 intro R w hw hs hF'
 replace h5 := (hs 5 rfl).trans h5
 have h6 : R 6 = .int .i64 (max (p0.length : Int) (p1.length : Int)) := hF' 5 _ _ rfl rfl rfl
 replace hA := hA.fr hw.size
 replace hF := hF.trans hw
 clear hs hF' hw
 refine seqR_nil ?_
 refine HT.seq ?_
 refine HT.block ?_
 refine HT.seq ?_
 refine HT.text (l := ⟨_, true, .raw (.int .i64 x1)⟩ :: ⟨_, true, .raw (.bool (decide (x1 < (0 : Int))))⟩ :: ⟨_, true, .raw (.bool (decide (x1 < (0 : Int))))⟩ :: []) (tl := []) (by kernel_rfl) (by kernel_rfl) (by kernel_rfl) ?_ ?_
 ·exact
   Obls.p (fun R' w' hw hs hd => of_move ((hs 5 rfl).trans h5)) <|
   Obls.p (fun R' w' hw hs hd => by have a0 : R' 16 = .int .i64 x1 := hd.g 0 rfl; exact of_lss a0 rfl) <|
   Obls.p (fun R' w' hw hs hd => by have a0 : R' 17 = .bool (decide (x1 < (0 : Int))) := hd.g 0 rfl; exact of_assign a0) <|
   Obls.nil
 intro R w hw hs hF'
 replace h5 := (hs 5 rfl).trans h5
 replace h6 := (hs 6 rfl).trans h6
 have h15 : R 15 = .bool (decide (x1 < (0 : Int))) := hF' 2 _ _ rfl rfl rfl
 replace hA := hA.fr hw.size
 replace hF := hF.trans hw
 clear hs hF' hw
 refine seqR_nil ?_
 refine HT.cond (decide (x1 < (0 : Int))) h15 (fun c3 => ?_) (fun c3 => ?_)
 ·have hr := cnd_t c3 hr
  refine HT.seq ?_
  refine HT.text (l := ⟨_, true, .raw (.int .i64 (0 : Int))⟩ :: []) (tl := []) (by kernel_rfl) (by kernel_rfl) (by kernel_rfl) ?_ ?_
  ·exact
    Obls.p (fun R' w' hw hs hd => of_assign rfl) <|
    Obls.nil
  intro R w hw hs hF'
  have h4 : R 4 = .int .i64 (0 : Int) := hF' 0 _ _ rfl rfl rfl
  replace hA := hA.fr hw.size
  replace hF := hF.trans hw
  clear hs hF' hw
  refine seqR_nil ?_
  refine HT.ret ?_
  obtain rfl := Option.some.inj hr
  exact ⟨.inr rfl, [R 4], ⟨rfl, trivial⟩, h4, hF⟩
 ·have hr := cnd_f c3 hr
  refine HT.seq ?_
  refine HT.text (l := ⟨_, true, .raw (.int .i64 (max (p0.length : Int) (p1.length : Int)))⟩ :: ⟨_, true, .raw (.bool ((max (p0.length : Int) (p1.length : Int)) == (0 : Int)))⟩ :: ⟨_, true, .raw (.bool ((max (p0.length : Int) (p1.length : Int)) == (0 : Int)))⟩ :: []) (tl := []) (by kernel_rfl) (by kernel_rfl) (by kernel_rfl) ?_ ?_
  ·exact
    Obls.p (fun R' w' hw hs hd => of_move ((hs 6 rfl).trans h6)) <|
    Obls.p (fun R' w' hw hs hd => by have a0 : R' 19 = .int .i64 (max (p0.length : Int) (p1.length : Int)) := hd.g 0 rfl; exact of_eql a0 rfl) <|
    Obls.p (fun R' w' hw hs hd => by have a0 : R' 20 = .bool ((max (p0.length : Int) (p1.length : Int)) == (0 : Int)) := hd.g 0 rfl; exact of_assign a0) <|
    Obls.nil
  intro R w hw hs hF'
  replace h5 := (hs 5 rfl).trans h5
  replace h6 := (hs 6 rfl).trans h6
  have h18 : R 18 = .bool ((max (p0.length : Int) (p1.length : Int)) == (0 : Int)) := hF' 2 _ _ rfl rfl rfl
  replace hA := hA.fr hw.size
  replace hF := hF.trans hw
  clear hs hF' hw
  refine seqR_nil ?_
  refine HT.cond ((max (p0.length : Int) (p1.length : Int)) == (0 : Int)) h18 (fun c4 => ?_) (fun c4 => ?_)
  ·have hr := cnd_t c4 hr
   refine HT.seq ?_
   refine HT.text (l := ⟨_, true, .raw (.int .i64 (1000 : Int))⟩ :: []) (tl := []) (by kernel_rfl) (by kernel_rfl) (by kernel_rfl) ?_ ?_
   ·exact
     Obls.p (fun R' w' hw hs hd => of_assign rfl) <|
     Obls.nil
   intro R w hw hs hF'
   have h4 : R 4 = .int .i64 (1000 : Int) := hF' 0 _ _ rfl rfl rfl
   replace hA := hA.fr hw.size
   replace hF := hF.trans hw
   clear hs hF' hw
   refine seqR_nil ?_
   refine HT.ret ?_
   obtain rfl := Option.some.inj hr
   exact ⟨.inr rfl, [R 4], ⟨rfl, trivial⟩, h4, hF⟩
  ·have hr := cnd_f c4 hr
   refine HT.skip ?_
   refine HT.seq ?_
   obtain ⟨e5, hr⟩ := ck_some hr
   obtain ⟨e6, hr⟩ := ck_some hr
   obtain ⟨e7, hr⟩ := ck_some hr
   obtain ⟨e8, hr⟩ := ck_some hr
   refine HT.text (l := ⟨_, true, .raw (.int .i64 (max (p0.length : Int) (p1.length : Int)))⟩ :: ⟨_, true, .raw (.int .i64 x1)⟩ :: ⟨_, true, .raw (.int .i64 ((max (p0.length : Int) (p1.length : Int)) - x1))⟩ :: ⟨_, true, .raw (.int .i64 ((1000 : Int) * ((max (p0.length : Int) (p1.length : Int)) - x1)))⟩ :: ⟨_, true, .raw (.int .i64 (max (p0.length : Int) (p1.length : Int)))⟩ :: ⟨_, true, .raw (.int .i64 (((1000 : Int) * ((max (p0.length : Int) (p1.length : Int)) - x1)).tdiv (max (p0.length : Int) (p1.length : Int))))⟩ :: ⟨_, true, .raw (.int .i64 (((1000 : Int) * ((max (p0.length : Int) (p1.length : Int)) - x1)).tdiv (max (p0.length : Int) (p1.length : Int))))⟩ :: []) (tl := []) (by kernel_rfl) (by kernel_rfl) (by kernel_rfl) ?_ ?_
   ·exact
     Obls.p (fun R' w' hw hs hd => of_move ((hs 6 rfl).trans h6)) <|
     Obls.p (fun R' w' hw hs hd => of_move ((hs 5 rfl).trans h5)) <|
     Obls.p (fun R' w' hw hs hd => by have a0 : R' 21 = .int .i64 (max (p0.length : Int) (p1.length : Int)) := hd.g 0 rfl; have a1 : R' 22 = .int .i64 x1 := hd.g 1 rfl; exact of_sub a0 a1 e5) <|
     Obls.p (fun R' w' hw hs hd => by have a1 : R' 23 = .int .i64 ((max (p0.length : Int) (p1.length : Int)) - x1) := hd.g 0 rfl; exact of_mul rfl a1 e6) <|
     Obls.p (fun R' w' hw hs hd => of_move ((hs 6 rfl).trans h6)) <|
     Obls.p (fun R' w' hw hs hd => by have a0 : R' 24 = .int .i64 ((1000 : Int) * ((max (p0.length : Int) (p1.length : Int)) - x1)) := hd.g 0 rfl; have a1 : R' 25 = .int .i64 (max (p0.length : Int) (p1.length : Int)) := hd.g 1 rfl; exact of_quo a0 a1 e7 e8) <|
     Obls.p (fun R' w' hw hs hd => by have a0 : R' 26 = .int .i64 (((1000 : Int) * ((max (p0.length : Int) (p1.length : Int)) - x1)).tdiv (max (p0.length : Int) (p1.length : Int))) := hd.g 0 rfl; exact of_assign a0) <|
     Obls.nil
   intro R w hw hs hF'
   have h4 : R 4 = .int .i64 (((1000 : Int) * ((max (p0.length : Int) (p1.length : Int)) - x1)).tdiv (max (p0.length : Int) (p1.length : Int))) := hF' 6 _ _ rfl rfl rfl
   replace hA := hA.fr hw.size
   replace hF := hF.trans hw
   clear hs hF' hw
   refine seqR_nil ?_
   refine HT.ret ?_
   obtain rfl := Option.some.inj hr
   exact ⟨.inr rfl, [R 4], ⟨rfl, trivial⟩, h4, hF⟩
def M_laws_FnFilters (fu : Nat) (p0 : List Int) : Option Bool :=
 cl true (M_laws_big fu p0) fun x1 =>
 bif x1 then (
  some true
 ) else (
  cl true (M_spec_DrawPassesFilters fu p0) fun x4 =>
  cl true (M_impl_PassesFilters fu x4.1 x4.2.1 x4.2.2) fun x8 =>
  cl true (M_spec_PassesFilters fu x4.1 x4.2.1 x4.2.2) fun x10 =>
  cl (true && ((x8 != x10) == false)) (M_impl_LengthFilter fu x4.1 x4.2.1 x4.2.2) fun x12 =>
  cl (true && ((x8 != x10) == false)) (M_spec_LengthFilter fu x4.1 x4.2.1 x4.2.2) fun x14 =>
  bd ((x8 != x10) || (x12 != x14)) fun x16 =>
  bif x16 then (
   some false
  ) else (
   cl true (M_spec_EditDistance fu x4.1 x4.2.1) fun x19 =>
   bd ((decide ((0 : Int) ≤ x19)) && (decide (x19 ≤ x4.2.2))) fun x21 =>
   bd (x21 && (!x8)) fun x23 =>
   bif x23 then (
    some false
   ) else (
    cl true (M_spec_DrawSimilarStrings fu p0) fun x26 =>
    cl true (M_impl_SimilarStrings fu x26.1 x26.2.1 x26.2.2) fun x30 =>
    cl true (M_spec_SimilarStrings fu x26.1 x26.2.1 x26.2.2) fun x32 =>
    cl true (M_laws_sameInts fu x30 x32) fun x34 =>
    bif (!x34) then (
     some false
    ) else (
     cl true (M_laws_at fu p0 (0 : Int)) fun x37 =>
     ck (i64B (x37 * (4 : Int))) <|
     ck ((1001 : Int) != 0) <|
     cl true (M_impl_EditLimit fu (x4.1.length : Int) (x4.2.1.length : Int) ((x37 * (4 : Int)).tmod (1001 : Int))) fun x41 =>
     cl true (M_spec_EditLimit fu (x4.1.length : Int) (x4.2.1.length : Int) ((x37 * (4 : Int)).tmod (1001 : Int))) fun x43 =>
     bif (x41 != x43) then (
      some false
     ) else (
      bd ((decide (x19 < (0 : Int))) || (decide (x41 < (0 : Int)))) fun x46 =>
      cl (true && (x46 == false)) (M_spec_EditScore fu x4.1 x4.2.1) fun x48 =>
      bd (x46 || ((decide (((x37 * (4 : Int)).tmod (1001 : Int)) ≤ x48)) == (decide (x19 ≤ x41)))) fun x50 =>
      some x50
     )
    )
   )
  )
 )
theorem M_laws_FnFilters_ok {fu : Nat} {A : Av} {p0 : List Int} {r : Bool} (hr : M_laws_FnFilters fu p0 = some r) {w : World} {v0 : Value} (hA : AvOK A w) (h0 : Rep (eSl (eInt .u8)) A w v0 p0) :
  Calls Try.prog 6 #[v0] w fun e w' => ∃ v, e = .returned v ∧ (v = .bool r ∧ Fr w w') := by
 unfold M_laws_FnFilters at hr
 obtain ⟨w0, hw0⟩ : ∃ w0, w0 = w := ⟨_, rfl⟩
 have hF : Fr w0 w := hw0 ▸ Fr.refl _
 rw [show Fr w = Fr w0 from hw0 ▸ rfl]
 clear hw0
 refine calls_of_HT2 [.tmp 2] Try.func6 Try.ntmps6 (by decide) rfl rfl (Nat.le_of_ble_eq_true rfl) ?_
 intro R hR
 have f_v0 := h0
 replace h0 : R 0 = v0 := hR 0 _ rfl
 clear hR
 refine HT.seq ?_
 refine HT.text (l := ⟨_, true, .raw (.bool false)⟩ :: []) (tl := []) (by kernel_rfl) (by kernel_rfl) (by kernel_rfl) ?_ ?_
 ·exact
   Obls.p (fun R' w' hw hs hd => of_assign rfl) <|
   Obls.nil
 intro R w hw hs hF'
 replace h0 := (hs 0 rfl).trans h0
 replace f_v0 := f_v0.fr hw
 replace hA := hA.fr hw.size
 replace hF := hF.trans hw
 clear hs hF' hw
 refine seqR_nil ?_
 refine HT.seq ?_
 refine HT.seq ?_
 obtain ⟨x1, q2, hr⟩ := cl_some hr
 refine HT.text (l := ⟨_, true, .raw v0⟩ :: ⟨_, true, .raw (.bool x1)⟩ :: []) (tl := []) (by kernel_rfl) (by kernel_rfl) (by kernel_rfl) ?_ ?_
 ·exact
   Obls.p (fun R' w' hw hs hd => of_move ((hs 0 rfl).trans h0)) <|
   Obls.p (fun R' w' hw hs hd => by have a0 : R' 13 = v0 := hd.g 0 rfl; have ra0 := (f_v0.fr hw).eq a0; exact of_call Try.call22 (M_laws_big_ok (q2 rfl) (hA.fr hw.size) ra0)) <|
   Obls.nil
 intro R w hw hs hF'
 replace h0 := (hs 0 rfl).trans h0
 have h14 : R 14 = .bool x1 := hF' 1 _ _ rfl rfl rfl
 replace f_v0 := f_v0.fr hw
 replace hA := hA.fr hw.size
 replace hF := hF.trans hw
 clear hs hF' hw
 refine seqR_nil ?_
 refine HT.cond x1 h14 (fun c3 => ?_) (fun c3 => ?_)
 ·have hr := cnd_t c3 hr
  refine HT.seq ?_
  refine HT.text (l := ⟨_, true, .raw (.bool true)⟩ :: []) (tl := []) (by kernel_rfl) (by kernel_rfl) (by kernel_rfl) ?_ ?_
  ·exact
    Obls.p (fun R' w' hw hs hd => of_assign rfl) <|
    Obls.nil
  intro R w hw hs hF'
  have h2 : R 2 = .bool true := hF' 0 _ _ rfl rfl rfl
  replace hA := hA.fr hw.size
  replace hF := hF.trans hw
  clear hs hF' hw
  refine seqR_nil ?_
  refine HT.ret ?_
  obtain rfl := Option.some.inj hr
  exact ⟨.inr rfl, [R 2], ⟨rfl, trivial⟩, h2, hF⟩
 ·have hr := cnd_f c3 hr
  refine HT.skip ?_
  refine HT.seq ?_
  obtain ⟨x4, q5, hr⟩ := cl_some hr
  refine HT.text (l := ⟨_, true, .raw v0⟩ :: ⟨_, true, .tup3 (.rep eStr A x4.1) (.rep eStr A x4.2.1) (.raw (.int .i64 x4.2.2))⟩ :: ⟨_, true, .tup3 (.rep eStr A x4.1) (.rep eStr A x4.2.1) (.raw (.int .i64 x4.2.2))⟩ :: ⟨_, true, .rep eStr A x4.1⟩ :: ⟨_, true, .rep eStr A x4.2.1⟩ :: ⟨_, true, .raw (.int .i64 x4.2.2)⟩ :: ⟨_, true, .rep eStr A x4.1⟩ :: ⟨_, true, .rep eStr A x4.2.1⟩ :: ⟨_, true, .raw (.int .i64 x4.2.2)⟩ :: []) (tl := []) (by kernel_rfl) (by kernel_rfl) (by kernel_rfl) ?_ ?_
  ·exact
    Obls.p (fun R' w' hw hs hd => of_move ((hs 0 rfl).trans h0)) <|
    Obls.p (fun R' w' hw hs hd => by have a0 : R' 16 = v0 := hd.g 0 rfl; have ra0 := (f_v0.fr hw).eq a0; exact of_call Try.call23 (M_spec_DrawPassesFilters_ok (q5 rfl) (hA.fr hw.size) ra0)) <|
    Obls.p (fun R' w' hw hs hd => by have a0 : Fact.ok (.tup3 (.rep eStr A x4.1) (.rep eStr A x4.2.1) (.raw (.int .i64 x4.2.2))) (R' 17) w' := hd.g 0 rfl; exact of_move a0) <|
    Obls.p (fun R' w' hw hs hd => by have a0 : Fact.ok (.tup3 (.rep eStr A x4.1) (.rep eStr A x4.2.1) (.raw (.int .i64 x4.2.2))) (R' 15) w' := hd.g 0 rfl; exact of_extract3_0 a0) <|
    Obls.p (fun R' w' hw hs hd => by have a0 : Fact.ok (.tup3 (.rep eStr A x4.1) (.rep eStr A x4.2.1) (.raw (.int .i64 x4.2.2))) (R' 15) w' := hd.g 0 rfl; exact of_extract3_1 a0) <|
    Obls.p (fun R' w' hw hs hd => by have a0 : Fact.ok (.tup3 (.rep eStr A x4.1) (.rep eStr A x4.2.1) (.raw (.int .i64 x4.2.2))) (R' 15) w' := hd.g 0 rfl; exact of_extract3_2 a0) <|
    Obls.p (fun R' w' hw hs hd => by have a0 : Rep eStr A w' (R' 18) x4.1 := hd.g 0 rfl; exact of_assign a0) <|
    Obls.p (fun R' w' hw hs hd => by have a0 : Rep eStr A w' (R' 19) x4.2.1 := hd.g 0 rfl; exact of_assign a0) <|
    Obls.p (fun R' w' hw hs hd => by have a0 : R' 20 = .int .i64 x4.2.2 := hd.g 0 rfl; exact of_assign a0) <|
    Obls.nil
  intro R w hw hs hF'
  replace h0 := (hs 0 rfl).trans h0
  obtain ⟨u6, h3, f_u6⟩ : ∃ u, R 3 = u ∧ Rep eStr A w u x4.1 := ⟨_, rfl, hF' 6 _ _ rfl rfl rfl⟩
  obtain ⟨u7, h4, f_u7⟩ : ∃ u, R 4 = u ∧ Rep eStr A w u x4.2.1 := ⟨_, rfl, hF' 7 _ _ rfl rfl rfl⟩
  have h5 : R 5 = .int .i64 x4.2.2 := hF' 8 _ _ rfl rfl rfl
  replace f_v0 := f_v0.fr hw
  replace hA := hA.fr hw.size
  replace hF := hF.trans hw
  clear hs hF' hw
  refine seqR_nil ?_
  refine HT.seq ?_
  obtain ⟨x8, q9, hr⟩ := cl_some hr
  refine HT.text (l := ⟨_, true, .raw u6⟩ :: ⟨_, true, .raw u7⟩ :: ⟨_, true, .raw (.int .i64 x4.2.2)⟩ :: ⟨_, true, .raw (.bool x8)⟩ :: ⟨_, true, .raw (.bool x8)⟩ :: []) (tl := []) (by kernel_rfl) (by kernel_rfl) (by kernel_rfl) ?_ ?_
  ·exact
    Obls.p (fun R' w' hw hs hd => of_move ((hs 3 rfl).trans h3)) <|
    Obls.p (fun R' w' hw hs hd => of_move ((hs 4 rfl).trans h4)) <|
    Obls.p (fun R' w' hw hs hd => of_move ((hs 5 rfl).trans h5)) <|
    Obls.p (fun R' w' hw hs hd => by have a0 : R' 21 = u6 := hd.g 0 rfl; have ra0 := (f_u6.fr hw).eq a0; have a1 : R' 22 = u7 := hd.g 1 rfl; have ra1 := (f_u7.fr hw).eq a1; have a2 : R' 23 = .int .i64 x4.2.2 := hd.g 2 rfl; exact of_call Try.call21 (M_impl_PassesFilters_ok (q9 rfl) (hA.fr hw.size) ra0 ra1 a2)) <|
    Obls.p (fun R' w' hw hs hd => by have a0 : R' 24 = .bool x8 := hd.g 0 rfl; exact of_assign a0) <|
    Obls.nil
  intro R w hw hs hF'
  replace h0 := (hs 0 rfl).trans h0
  replace h3 := (hs 3 rfl).trans h3
  replace h4 := (hs 4 rfl).trans h4
  replace h5 := (hs 5 rfl).trans h5
  have h6 : R 6 = .bool x8 := hF' 4 _ _ rfl rfl rfl
  replace f_u6 := f_u6.fr hw
  replace f_u7 := f_u7.fr hw
  replace f_v0 := f_v0.fr hw
  replace hA := hA.fr hw.size
  replace hF := hF.trans hw
  clear hs hF' hw
  refine seqR_nil ?_
  refine HT.seq ?_
  refine HT.seq ?_
  obtain ⟨x10, q11, hr⟩ := cl_some hr
  obtain ⟨x12, q13, hr⟩ := cl_some hr
  obtain ⟨x14, q15, hr⟩ := cl_some hr
  obtain ⟨x16, q17, hr⟩ := bd_some hr
  refine HT.text (l := ⟨_, true, .raw (.bool x8)⟩ :: ⟨_, true, .raw u6⟩ :: ⟨_, true, .raw u7⟩ :: ⟨_, true, .raw (.int .i64 x4.2.2)⟩ :: ⟨_, true, .raw (.bool x10)⟩ :: ⟨_, true, .raw (.bool (x8 != x10))⟩ :: ⟨_, true, .raw (.bool (x8 != x10))⟩ :: ⟨_, (true && ((x8 != x10) == false)), .raw u6⟩ :: ⟨_, (true && ((x8 != x10) == false)), .raw u7⟩ :: ⟨_, (true && ((x8 != x10) == false)), .raw (.int .i64 x4.2.2)⟩ :: ⟨_, (true && ((x8 != x10) == false)), .raw (.bool x12)⟩ :: ⟨_, (true && ((x8 != x10) == false)), .raw u6⟩ :: ⟨_, (true && ((x8 != x10) == false)), .raw u7⟩ :: ⟨_, (true && ((x8 != x10) == false)), .raw (.int .i64 x4.2.2)⟩ :: ⟨_, (true && ((x8 != x10) == false)), .raw (.bool x14)⟩ :: ⟨_, (true && ((x8 != x10) == false)), .raw (.bool (x12 != x14))⟩ :: ⟨_, true, .raw (.bool x16)⟩ :: []) (tl := []) (by kernel_rfl) (by kernel_rfl) (by kernel_rfl) ?_ ?_
  ·exact
    Obls.p (fun R' w' hw hs hd => of_move ((hs 6 rfl).trans h6)) <|
    Obls.p (fun R' w' hw hs hd => of_move ((hs 3 rfl).trans h3)) <|
    Obls.p (fun R' w' hw hs hd => of_move ((hs 4 rfl).trans h4)) <|
    Obls.p (fun R' w' hw hs hd => of_move ((hs 5 rfl).trans h5)) <|
    Obls.p (fun R' w' hw hs hd => by have a0 : R' 26 = u6 := hd.g 0 rfl; have ra0 := (f_u6.fr hw).eq a0; have a1 : R' 27 = u7 := hd.g 1 rfl; have ra1 := (f_u7.fr hw).eq a1; have a2 : R' 28 = .int .i64 x4.2.2 := hd.g 2 rfl; exact of_call Try.call20 (M_spec_PassesFilters_ok (q11 rfl) (hA.fr hw.size) ra0 ra1 a2)) <|
    Obls.p (fun R' w' hw hs hd => by have a0 : R' 25 = .bool x8 := hd.g 0 rfl; have a1 : R' 29 = .bool x10 := hd.g 1 rfl; exact of_bneq Try.underlying4 a0 a1) <|
    Obls.p (fun R' w' hw hs hd => by have a0 : R' 30 = .bool (x8 != x10) := hd.g 0 rfl; exact of_move a0) <|
    Obls.cons (Obl.grd 6 false _ _ _ rfl rfl rfl rfl rfl (by kernel_rfl) fun hg R' w' hw hs hd => by have a0 : R' 3 = u6 := (hs 3 rfl).trans h3; exact of_move a0) <|
    Obls.cons (Obl.grd 6 false _ _ _ rfl rfl rfl rfl rfl (by kernel_rfl) fun hg R' w' hw hs hd => by have a0 : R' 4 = u7 := (hs 4 rfl).trans h4; exact of_move a0) <|
    Obls.cons (Obl.grd 6 false _ _ _ rfl rfl rfl rfl rfl (by kernel_rfl) fun hg R' w' hw hs hd => by have a0 : R' 5 = .int .i64 x4.2.2 := (hs 5 rfl).trans h5; exact of_move a0) <|
    Obls.cons (Obl.grd 6 false _ _ _ rfl rfl rfl rfl rfl (by kernel_rfl) fun hg R' w' hw hs hd => by have a0 : R' 32 = u6 := hd 0 _ _ _ rfl rfl rfl rfl hg; have ra0 := (f_u6.fr hw).eq a0; have a1 : R' 33 = u7 := hd 1 _ _ _ rfl rfl rfl rfl hg; have ra1 := (f_u7.fr hw).eq a1; have a2 : R' 34 = .int .i64 x4.2.2 := hd 2 _ _ _ rfl rfl rfl rfl hg; exact of_call Try.call24 (M_impl_LengthFilter_ok (q13 hg) (hA.fr hw.size) ra0 ra1 a2)) <|
    Obls.cons (Obl.grd 6 false _ _ _ rfl rfl rfl rfl rfl (by kernel_rfl) fun hg R' w' hw hs hd => by have a0 : R' 3 = u6 := (hs 3 rfl).trans h3; exact of_move a0) <|
    Obls.cons (Obl.grd 6 false _ _ _ rfl rfl rfl rfl rfl (by kernel_rfl) fun hg R' w' hw hs hd => by have a0 : R' 4 = u7 := (hs 4 rfl).trans h4; exact of_move a0) <|
    Obls.cons (Obl.grd 6 false _ _ _ rfl rfl rfl rfl rfl (by kernel_rfl) fun hg R' w' hw hs hd => by have a0 : R' 5 = .int .i64 x4.2.2 := (hs 5 rfl).trans h5; exact of_move a0) <|
    Obls.cons (Obl.grd 6 false _ _ _ rfl rfl rfl rfl rfl (by kernel_rfl) fun hg R' w' hw hs hd => by have a0 : R' 36 = u6 := hd 0 _ _ _ rfl rfl rfl rfl hg; have ra0 := (f_u6.fr hw).eq a0; have a1 : R' 37 = u7 := hd 1 _ _ _ rfl rfl rfl rfl hg; have ra1 := (f_u7.fr hw).eq a1; have a2 : R' 38 = .int .i64 x4.2.2 := hd 2 _ _ _ rfl rfl rfl rfl hg; exact of_call Try.call25 (M_spec_LengthFilter_ok (q15 hg) (hA.fr hw.size) ra0 ra1 a2)) <|
    Obls.cons (Obl.grd 6 false _ _ _ rfl rfl rfl rfl rfl (by kernel_rfl) fun hg R' w' hw hs hd => by have a0 : R' 35 = .bool x12 := hd 0 _ _ _ rfl rfl rfl rfl hg; have a1 : R' 39 = .bool x14 := hd 1 _ _ _ rfl rfl rfl rfl hg; exact of_bneq Try.underlying4 a0 a1) <|
    Obls.p (fun R' w' hw hs hd => by have a0 : R' 31 = .bool (x8 != x10) := hd.g 0 rfl; exact of_pick (x8 != x10) a0 (fun hc => by show _ = Value.bool x16; rw [q17, hc]; exact rfl) (fun hc => by have a2 : R' 40 = .bool (x12 != x14) := hd 1 _ _ _ rfl rfl rfl rfl (g_and rfl (beq_of hc)); show _ = Value.bool x16; rw [q17, hc]; exact a2)) <|
    Obls.nil
  intro R w hw hs hF'
  replace h0 := (hs 0 rfl).trans h0
  replace h3 := (hs 3 rfl).trans h3
  replace h4 := (hs 4 rfl).trans h4
  replace h5 := (hs 5 rfl).trans h5
  replace h6 := (hs 6 rfl).trans h6
  have h41 : R 41 = .bool x16 := hF' 16 _ _ rfl rfl rfl
  replace f_u6 := f_u6.fr hw
  replace f_u7 := f_u7.fr hw
  replace f_v0 := f_v0.fr hw
  replace hA := hA.fr hw.size
  replace hF := hF.trans hw
  clear hs hF' hw
  refine seqR_nil ?_
  refine HT.cond x16 h41 (fun c18 => ?_) (fun c18 => ?_)
  ·have hr := cnd_t c18 hr
   refine HT.seq ?_
   refine HT.text (l := ⟨_, true, .raw (.bool false)⟩ :: []) (tl := []) (by kernel_rfl) (by kernel_rfl) (by kernel_rfl) ?_ ?_
   ·exact
     Obls.p (fun R' w' hw hs hd => of_assign rfl) <|
     Obls.nil
   intro R w hw hs hF'
   have h2 : R 2 = .bool false := hF' 0 _ _ rfl rfl rfl
   replace hA := hA.fr hw.size
   replace hF := hF.trans hw
   clear hs hF' hw
   refine seqR_nil ?_
   refine HT.ret ?_
   obtain rfl := Option.some.inj hr
   exact ⟨.inr rfl, [R 2], ⟨rfl, trivial⟩, h2, hF⟩
  ·have hr := cnd_f c18 hr
   refine HT.skip ?_
   refine HT.seq ?_
   obtain ⟨x19, q20, hr⟩ := cl_some hr
   refine HT.text (l := ⟨_, true, .raw u6⟩ :: ⟨_, true, .raw u7⟩ :: ⟨_, true, .raw (.int .i64 x19)⟩ :: ⟨_, true, .raw (.int .i64 x19)⟩ :: []) (tl := []) (by kernel_rfl) (by kernel_rfl) (by kernel_rfl) ?_ ?_
   ·exact
     Obls.p (fun R' w' hw hs hd => of_move ((hs 3 rfl).trans h3)) <|
     Obls.p (fun R' w' hw hs hd => of_move ((hs 4 rfl).trans h4)) <|
     Obls.p (fun R' w' hw hs hd => by have a0 : R' 42 = u6 := hd.g 0 rfl; have ra0 := (f_u6.fr hw).eq a0; have a1 : R' 43 = u7 := hd.g 1 rfl; have ra1 := (f_u7.fr hw).eq a1; exact of_call Try.call26 (M_spec_EditDistance_ok (q20 rfl) (hA.fr hw.size) ra0 ra1)) <|
     Obls.p (fun R' w' hw hs hd => by have a0 : R' 44 = .int .i64 x19 := hd.g 0 rfl; exact of_assign a0) <|
     Obls.nil
   intro R w hw hs hF'
   replace h0 := (hs 0 rfl).trans h0
   replace h3 := (hs 3 rfl).trans h3
   replace h4 := (hs 4 rfl).trans h4
   replace h5 := (hs 5 rfl).trans h5
   replace h6 := (hs 6 rfl).trans h6
   have h7 : R 7 = .int .i64 x19 := hF' 3 _ _ rfl rfl rfl
   replace f_u6 := f_u6.fr hw
   replace f_u7 := f_u7.fr hw
   replace f_v0 := f_v0.fr hw
   replace hA := hA.fr hw.size
   replace hF := hF.trans hw
   clear hs hF' hw
   refine seqR_nil ?_
   refine HT.seq ?_
   refine HT.seq ?_
   obtain ⟨x21, q22, hr⟩ := bd_some hr
   obtain ⟨x23, q24, hr⟩ := bd_some hr
   refine HT.text (l := ⟨_, true, .raw (.int .i64 x19)⟩ :: ⟨_, true, .raw (.bool (decide ((0 : Int) ≤ x19)))⟩ :: ⟨_, true, .raw (.bool (decide ((0 : Int) ≤ x19)))⟩ :: ⟨_, (true && ((decide ((0 : Int) ≤ x19)) == true)), .raw (.int .i64 x19)⟩ :: ⟨_, (true && ((decide ((0 : Int) ≤ x19)) == true)), .raw (.int .i64 x4.2.2)⟩ :: ⟨_, (true && ((decide ((0 : Int) ≤ x19)) == true)), .raw (.bool (decide (x19 ≤ x4.2.2)))⟩ :: ⟨_, true, .raw (.bool x21)⟩ :: ⟨_, true, .raw (.bool x21)⟩ :: ⟨_, (true && (x21 == true)), .raw (.bool x8)⟩ :: ⟨_, (true && (x21 == true)), .raw (.bool (!x8))⟩ :: ⟨_, true, .raw (.bool x23)⟩ :: []) (tl := []) (by kernel_rfl) (by kernel_rfl) (by kernel_rfl) ?_ ?_
   ·exact
     Obls.p (fun R' w' hw hs hd => of_move ((hs 7 rfl).trans h7)) <|
     Obls.p (fun R' w' hw hs hd => by have a0 : R' 45 = .int .i64 x19 := hd.g 0 rfl; exact of_geq a0 rfl) <|
     Obls.p (fun R' w' hw hs hd => by have a0 : R' 46 = .bool (decide ((0 : Int) ≤ x19)) := hd.g 0 rfl; exact of_move a0) <|
     Obls.cons (Obl.grd 2 true _ _ _ rfl rfl rfl rfl rfl (by kernel_rfl) fun hg R' w' hw hs hd => by have a0 : R' 7 = .int .i64 x19 := (hs 7 rfl).trans h7; exact of_move a0) <|
     Obls.cons (Obl.grd 2 true _ _ _ rfl rfl rfl rfl rfl (by kernel_rfl) fun hg R' w' hw hs hd => by have a0 : R' 5 = .int .i64 x4.2.2 := (hs 5 rfl).trans h5; exact of_move a0) <|
     Obls.cons (Obl.grd 2 true _ _ _ rfl rfl rfl rfl rfl (by kernel_rfl) fun hg R' w' hw hs hd => by have a0 : R' 48 = .int .i64 x19 := hd 0 _ _ _ rfl rfl rfl rfl hg; have a1 : R' 49 = .int .i64 x4.2.2 := hd 1 _ _ _ rfl rfl rfl rfl hg; exact of_leq a0 a1) <|
     Obls.p (fun R' w' hw hs hd => by have a0 : R' 47 = .bool (decide ((0 : Int) ≤ x19)) := hd.g 0 rfl; exact of_pick (decide ((0 : Int) ≤ x19)) a0 (fun hc => by have a1 : R' 50 = .bool (decide (x19 ≤ x4.2.2)) := hd 1 _ _ _ rfl rfl rfl rfl (g_and rfl (beq_of hc)); show _ = Value.bool x21; rw [q22, hc]; exact a1) (fun hc => by show _ = Value.bool x21; rw [q22, hc]; exact rfl)) <|
     Obls.p (fun R' w' hw hs hd => by have a0 : R' 51 = .bool x21 := hd.g 0 rfl; exact of_move a0) <|
     Obls.cons (Obl.grd 7 true _ _ _ rfl rfl rfl rfl rfl (by kernel_rfl) fun hg R' w' hw hs hd => by have a0 : R' 6 = .bool x8 := (hs 6 rfl).trans h6; exact of_move a0) <|
     Obls.cons (Obl.grd 7 true _ _ _ rfl rfl rfl rfl rfl (by kernel_rfl) fun hg R' w' hw hs hd => by have a0 : R' 53 = .bool x8 := hd 0 _ _ _ rfl rfl rfl rfl hg; exact of_not a0) <|
     Obls.p (fun R' w' hw hs hd => by have a0 : R' 52 = .bool x21 := hd.g 0 rfl; exact of_pick x21 a0 (fun hc => by have a1 : R' 54 = .bool (!x8) := hd 1 _ _ _ rfl rfl rfl rfl (g_and rfl (beq_of hc)); show _ = Value.bool x23; rw [q24, hc]; exact a1) (fun hc => by show _ = Value.bool x23; rw [q24, hc]; exact rfl)) <|
     Obls.nil
   intro R w hw hs hF'
   replace h0 := (hs 0 rfl).trans h0
   replace h3 := (hs 3 rfl).trans h3
   replace h4 := (hs 4 rfl).trans h4
   replace h7 := (hs 7 rfl).trans h7
   have h55 : R 55 = .bool x23 := hF' 10 _ _ rfl rfl rfl
   replace f_u6 := f_u6.fr hw
   replace f_u7 := f_u7.fr hw
   replace f_v0 := f_v0.fr hw
   replace hA := hA.fr hw.size
   replace hF := hF.trans hw
   clear hs hF' hw
   refine seqR_nil ?_
   refine HT.cond x23 h55 (fun c25 => ?_) (fun c25 => ?_)
   ·have hr := cnd_t c25 hr
    refine HT.seq ?_
    refine HT.text (l := ⟨_, true, .raw (.bool false)⟩ :: []) (tl := []) (by kernel_rfl) (by kernel_rfl) (by kernel_rfl) ?_ ?_
    ·exact
      Obls.p (fun R' w' hw hs hd => of_assign rfl) <|
      Obls.nil
    intro R w hw hs hF'
    have h2 : R 2 = .bool false := hF' 0 _ _ rfl rfl rfl
    replace hA := hA.fr hw.size
    replace hF := hF.trans hw
    clear hs hF' hw
    refine seqR_nil ?_
    refine HT.ret ?_
    obtain rfl := Option.some.inj hr
    exact ⟨.inr rfl, [R 2], ⟨rfl, trivial⟩, h2, hF⟩
   ·have hr := cnd_f c25 hr
    refine HT.skip ?_
    refine HT.seq ?_
    obtain ⟨x26, q27, hr⟩ := cl_some hr
    refine HT.text (l := ⟨_, true, .raw v0⟩ :: ⟨_, true, .tup3 (.rep (eSl eStr) A x26.1) (.rep eStr A x26.2.1) (.raw (.int .i64 x26.2.2))⟩ :: ⟨_, true, .tup3 (.rep (eSl eStr) A x26.1) (.rep eStr A x26.2.1) (.raw (.int .i64 x26.2.2))⟩ :: ⟨_, true, .rep (eSl eStr) A x26.1⟩ :: ⟨_, true, .rep eStr A x26.2.1⟩ :: ⟨_, true, .raw (.int .i64 x26.2.2)⟩ :: ⟨_, true, .rep (eSl eStr) A x26.1⟩ :: ⟨_, true, .rep eStr A x26.2.1⟩ :: ⟨_, true, .raw (.int .i64 x26.2.2)⟩ :: []) (tl := []) (by kernel_rfl) (by kernel_rfl) (by kernel_rfl) ?_ ?_
    ·exact
      Obls.p (fun R' w' hw hs hd => of_move ((hs 0 rfl).trans h0)) <|
      Obls.p (fun R' w' hw hs hd => by have a0 : R' 57 = v0 := hd.g 0 rfl; have ra0 := (f_v0.fr hw).eq a0; exact of_call Try.call27 (M_spec_DrawSimilarStrings_ok (q27 rfl) (hA.fr hw.size) ra0)) <|
      Obls.p (fun R' w' hw hs hd => by have a0 : Fact.ok (.tup3 (.rep (eSl eStr) A x26.1) (.rep eStr A x26.2.1) (.raw (.int .i64 x26.2.2))) (R' 58) w' := hd.g 0 rfl; exact of_move a0) <|
      Obls.p (fun R' w' hw hs hd => by have a0 : Fact.ok (.tup3 (.rep (eSl eStr) A x26.1) (.rep eStr A x26.2.1) (.raw (.int .i64 x26.2.2))) (R' 56) w' := hd.g 0 rfl; exact of_extract3_0 a0) <|
      Obls.p (fun R' w' hw hs hd => by have a0 : Fact.ok (.tup3 (.rep (eSl eStr) A x26.1) (.rep eStr A x26.2.1) (.raw (.int .i64 x26.2.2))) (R' 56) w' := hd.g 0 rfl; exact of_extract3_1 a0) <|
      Obls.p (fun R' w' hw hs hd => by have a0 : Fact.ok (.tup3 (.rep (eSl eStr) A x26.1) (.rep eStr A x26.2.1) (.raw (.int .i64 x26.2.2))) (R' 56) w' := hd.g 0 rfl; exact of_extract3_2 a0) <|
      Obls.p (fun R' w' hw hs hd => by have a0 : Rep (eSl eStr) A w' (R' 59) x26.1 := hd.g 0 rfl; exact of_assign a0) <|
      Obls.p (fun R' w' hw hs hd => by have a0 : Rep eStr A w' (R' 60) x26.2.1 := hd.g 0 rfl; exact of_assign a0) <|
      Obls.p (fun R' w' hw hs hd => by have a0 : R' 61 = .int .i64 x26.2.2 := hd.g 0 rfl; exact of_assign a0) <|
      Obls.nil
    intro R w hw hs hF'
    replace h0 := (hs 0 rfl).trans h0
    replace h3 := (hs 3 rfl).trans h3
    replace h4 := (hs 4 rfl).trans h4
    replace h7 := (hs 7 rfl).trans h7
    obtain ⟨u28, h8, f_u28⟩ : ∃ u, R 8 = u ∧ Rep (eSl eStr) A w u x26.1 := ⟨_, rfl, hF' 6 _ _ rfl rfl rfl⟩
    obtain ⟨u29, h9, f_u29⟩ : ∃ u, R 9 = u ∧ Rep eStr A w u x26.2.1 := ⟨_, rfl, hF' 7 _ _ rfl rfl rfl⟩
    have h10 : R 10 = .int .i64 x26.2.2 := hF' 8 _ _ rfl rfl rfl
    replace f_u6 := f_u6.fr hw
    replace f_u7 := f_u7.fr hw
    replace f_v0 := f_v0.fr hw
    replace hA := hA.fr hw.size
    replace hF := hF.trans hw
    clear hs hF' hw
    refine seqR_nil ?_
    refine HT.seq ?_
    refine HT.seq ?_
    obtain ⟨x30, q31, hr⟩ := cl_some hr
    obtain ⟨x32, q33, hr⟩ := cl_some hr
    obtain ⟨x34, q35, hr⟩ := cl_some hr
    refine HT.text (l := ⟨_, true, .raw u28⟩ :: ⟨_, true, .raw u29⟩ :: ⟨_, true, .raw (.int .i64 x26.2.2)⟩ :: ⟨_, true, .rep (eSl (eInt .i64)) A x30⟩ :: ⟨_, true, .raw u28⟩ :: ⟨_, true, .raw u29⟩ :: ⟨_, true, .raw (.int .i64 x26.2.2)⟩ :: ⟨_, true, .rep (eSl (eInt .i64)) A x32⟩ :: ⟨_, true, .raw (.bool x34)⟩ :: ⟨_, true, .raw (.bool (!x34))⟩ :: []) (tl := []) (by kernel_rfl) (by kernel_rfl) (by kernel_rfl) ?_ ?_
    ·exact
      Obls.p (fun R' w' hw hs hd => of_move ((hs 8 rfl).trans h8)) <|
      Obls.p (fun R' w' hw hs hd => of_move ((hs 9 rfl).trans h9)) <|
      Obls.p (fun R' w' hw hs hd => of_move ((hs 10 rfl).trans h10)) <|
      Obls.p (fun R' w' hw hs hd => by have a0 : R' 62 = u28 := hd.g 0 rfl; have ra0 := (f_u28.fr hw).eq a0; have a1 : R' 63 = u29 := hd.g 1 rfl; have ra1 := (f_u29.fr hw).eq a1; have a2 : R' 64 = .int .i64 x26.2.2 := hd.g 2 rfl; exact of_call Try.call12 (M_impl_SimilarStrings_okR (q31 rfl) (hA.fr hw.size) ra0 ra1 a2)) <|
      Obls.p (fun R' w' hw hs hd => of_move ((hs 8 rfl).trans h8)) <|
      Obls.p (fun R' w' hw hs hd => of_move ((hs 9 rfl).trans h9)) <|
      Obls.p (fun R' w' hw hs hd => of_move ((hs 10 rfl).trans h10)) <|
      Obls.p (fun R' w' hw hs hd => by have a0 : R' 66 = u28 := hd.g 0 rfl; have ra0 := (f_u28.fr hw).eq a0; have a1 : R' 67 = u29 := hd.g 1 rfl; have ra1 := (f_u29.fr hw).eq a1; have a2 : R' 68 = .int .i64 x26.2.2 := hd.g 2 rfl; exact of_call Try.call10 (M_spec_SimilarStrings_okR (q33 rfl) (hA.fr hw.size) ra0 ra1 a2)) <|
      Obls.p (fun R' w' hw hs hd => by have a0 : Rep (eSl (eInt .i64)) A w' (R' 65) x30 := hd.g 0 rfl; have a1 : Rep (eSl (eInt .i64)) A w' (R' 69) x32 := hd.g 1 rfl; exact of_call Try.call28 (M_laws_sameInts_ok (q35 rfl) (hA.fr hw.size) a0 a1)) <|
      Obls.p (fun R' w' hw hs hd => by have a0 : R' 70 = .bool x34 := hd.g 0 rfl; exact of_not a0) <|
      Obls.nil
    intro R w hw hs hF'
    replace h0 := (hs 0 rfl).trans h0
    replace h3 := (hs 3 rfl).trans h3
    replace h4 := (hs 4 rfl).trans h4
    replace h7 := (hs 7 rfl).trans h7
    have h71 : R 71 = .bool (!x34) := hF' 9 _ _ rfl rfl rfl
    replace f_u6 := f_u6.fr hw
    replace f_u7 := f_u7.fr hw
    replace f_v0 := f_v0.fr hw
    replace hA := hA.fr hw.size
    replace hF := hF.trans hw
    clear hs hF' hw
    refine seqR_nil ?_
    refine HT.cond (!x34) h71 (fun c36 => ?_) (fun c36 => ?_)
    ·have hr := cnd_t c36 hr
     refine HT.seq ?_
     refine HT.text (l := ⟨_, true, .raw (.bool false)⟩ :: []) (tl := []) (by kernel_rfl) (by kernel_rfl) (by kernel_rfl) ?_ ?_
     ·exact
       Obls.p (fun R' w' hw hs hd => of_assign rfl) <|
       Obls.nil
     intro R w hw hs hF'
     have h2 : R 2 = .bool false := hF' 0 _ _ rfl rfl rfl
     replace hA := hA.fr hw.size
     replace hF := hF.trans hw
     clear hs hF' hw
     refine seqR_nil ?_
     refine HT.ret ?_
     obtain rfl := Option.some.inj hr
     exact ⟨.inr rfl, [R 2], ⟨rfl, trivial⟩, h2, hF⟩
    ·have hr := cnd_f c36 hr
     refine HT.skip ?_
     refine HT.seq ?_
     obtain ⟨x37, q38, hr⟩ := cl_some hr
     obtain ⟨e39, hr⟩ := ck_some hr
     obtain ⟨e40, hr⟩ := ck_some hr
     refine HT.text (l := ⟨_, true, .raw v0⟩ :: ⟨_, true, .raw (.int .i64 x37)⟩ :: ⟨_, true, .raw (.int .i64 (x37 * (4 : Int)))⟩ :: ⟨_, true, .raw (.int .i64 ((x37 * (4 : Int)).tmod (1001 : Int)))⟩ :: ⟨_, true, .raw (.int .i64 ((x37 * (4 : Int)).tmod (1001 : Int)))⟩ :: []) (tl := []) (by kernel_rfl) (by kernel_rfl) (by kernel_rfl) ?_ ?_
     ·exact
       Obls.p (fun R' w' hw hs hd => of_move ((hs 0 rfl).trans h0)) <|
       Obls.p (fun R' w' hw hs hd => by have a0 : R' 72 = v0 := hd.g 0 rfl; have ra0 := (f_v0.fr hw).eq a0; exact of_call Try.call29 (M_laws_at_ok (q38 rfl) (hA.fr hw.size) ra0 rfl)) <|
       Obls.p (fun R' w' hw hs hd => by have a0 : R' 73 = .int .i64 x37 := hd.g 0 rfl; exact of_mul a0 rfl e39) <|
       Obls.p (fun R' w' hw hs hd => by have a0 : R' 74 = .int .i64 (x37 * (4 : Int)) := hd.g 0 rfl; exact of_rem a0 rfl e40) <|
       Obls.p (fun R' w' hw hs hd => by have a0 : R' 75 = .int .i64 ((x37 * (4 : Int)).tmod (1001 : Int)) := hd.g 0 rfl; exact of_assign a0) <|
       Obls.nil
     intro R w hw hs hF'
     replace h3 := (hs 3 rfl).trans h3
     replace h4 := (hs 4 rfl).trans h4
     replace h7 := (hs 7 rfl).trans h7
     have h11 : R 11 = .int .i64 ((x37 * (4 : Int)).tmod (1001 : Int)) := hF' 4 _ _ rfl rfl rfl
     replace f_u6 := f_u6.fr hw
     replace f_u7 := f_u7.fr hw
     replace hA := hA.fr hw.size
     replace hF := hF.trans hw
     clear hs hF' hw
     refine seqR_nil ?_
     refine HT.seq ?_
     obtain ⟨x41, q42, hr⟩ := cl_some hr
     refine HT.text (l := ⟨_, true, .raw u6⟩ :: ⟨_, true, .raw (.int .i64 (x4.1.length : Int))⟩ :: ⟨_, true, .raw u7⟩ :: ⟨_, true, .raw (.int .i64 (x4.2.1.length : Int))⟩ :: ⟨_, true, .raw (.int .i64 ((x37 * (4 : Int)).tmod (1001 : Int)))⟩ :: ⟨_, true, .raw (.int .i64 x41)⟩ :: ⟨_, true, .raw (.int .i64 x41)⟩ :: []) (tl := []) (by kernel_rfl) (by kernel_rfl) (by kernel_rfl) ?_ ?_
     ·exact
       Obls.p (fun R' w' hw hs hd => of_move ((hs 3 rfl).trans h3)) <|
       Obls.p (fun R' w' hw hs hd => by have a0 : R' 76 = u6 := hd.g 0 rfl; have ra0 := (f_u6.fr hw).eq a0; exact of_len_str ra0 Try.underlying9) <|
       Obls.p (fun R' w' hw hs hd => of_move ((hs 4 rfl).trans h4)) <|
       Obls.p (fun R' w' hw hs hd => by have a0 : R' 78 = u7 := hd.g 0 rfl; have ra0 := (f_u7.fr hw).eq a0; exact of_len_str ra0 Try.underlying9) <|
       Obls.p (fun R' w' hw hs hd => of_move ((hs 11 rfl).trans h11)) <|
       Obls.p (fun R' w' hw hs hd => by have a0 : R' 77 = .int .i64 (x4.1.length : Int) := hd.g 0 rfl; have a1 : R' 79 = .int .i64 (x4.2.1.length : Int) := hd.g 1 rfl; have a2 : R' 80 = .int .i64 ((x37 * (4 : Int)).tmod (1001 : Int)) := hd.g 2 rfl; exact of_call Try.call30 (M_impl_EditLimit_ok (q42 rfl) (hA.fr hw.size) a0 a1 a2)) <|
       Obls.p (fun R' w' hw hs hd => by have a0 : R' 81 = .int .i64 x41 := hd.g 0 rfl; exact of_assign a0) <|
       Obls.nil
     intro R w hw hs hF'
     replace h3 := (hs 3 rfl).trans h3
     replace h4 := (hs 4 rfl).trans h4
     replace h7 := (hs 7 rfl).trans h7
     replace h11 := (hs 11 rfl).trans h11
     have h12 : R 12 = .int .i64 x41 := hF' 6 _ _ rfl rfl rfl
     replace f_u6 := f_u6.fr hw
     replace f_u7 := f_u7.fr hw
     replace hA := hA.fr hw.size
     replace hF := hF.trans hw
     clear hs hF' hw
     refine seqR_nil ?_
     refine HT.seq ?_
     refine HT.seq ?_
     obtain ⟨x43, q44, hr⟩ := cl_some hr
     refine HT.text (l := ⟨_, true, .raw (.int .i64 x41)⟩ :: ⟨_, true, .raw u6⟩ :: ⟨_, true, .raw (.int .i64 (x4.1.length : Int))⟩ :: ⟨_, true, .raw u7⟩ :: ⟨_, true, .raw (.int .i64 (x4.2.1.length : Int))⟩ :: ⟨_, true, .raw (.int .i64 ((x37 * (4 : Int)).tmod (1001 : Int)))⟩ :: ⟨_, true, .raw (.int .i64 x43)⟩ :: ⟨_, true, .raw (.bool (x41 != x43))⟩ :: []) (tl := []) (by kernel_rfl) (by kernel_rfl) (by kernel_rfl) ?_ ?_
     ·exact
       Obls.p (fun R' w' hw hs hd => of_move ((hs 12 rfl).trans h12)) <|
       Obls.p (fun R' w' hw hs hd => of_move ((hs 3 rfl).trans h3)) <|
       Obls.p (fun R' w' hw hs hd => by have a0 : R' 83 = u6 := hd.g 0 rfl; have ra0 := (f_u6.fr hw).eq a0; exact of_len_str ra0 Try.underlying9) <|
       Obls.p (fun R' w' hw hs hd => of_move ((hs 4 rfl).trans h4)) <|
       Obls.p (fun R' w' hw hs hd => by have a0 : R' 85 = u7 := hd.g 0 rfl; have ra0 := (f_u7.fr hw).eq a0; exact of_len_str ra0 Try.underlying9) <|
       Obls.p (fun R' w' hw hs hd => of_move ((hs 11 rfl).trans h11)) <|
       Obls.p (fun R' w' hw hs hd => by have a0 : R' 84 = .int .i64 (x4.1.length : Int) := hd.g 0 rfl; have a1 : R' 86 = .int .i64 (x4.2.1.length : Int) := hd.g 1 rfl; have a2 : R' 87 = .int .i64 ((x37 * (4 : Int)).tmod (1001 : Int)) := hd.g 2 rfl; exact of_call Try.call31 (M_spec_EditLimit_ok (q44 rfl) (hA.fr hw.size) a0 a1 a2)) <|
       Obls.p (fun R' w' hw hs hd => by have a0 : R' 82 = .int .i64 x41 := hd.g 0 rfl; have a1 : R' 88 = .int .i64 x43 := hd.g 1 rfl; exact of_neq a0 a1) <|
       Obls.nil
     intro R w hw hs hF'
     replace h3 := (hs 3 rfl).trans h3
     replace h4 := (hs 4 rfl).trans h4
     replace h7 := (hs 7 rfl).trans h7
     replace h11 := (hs 11 rfl).trans h11
     replace h12 := (hs 12 rfl).trans h12
     have h89 : R 89 = .bool (x41 != x43) := hF' 7 _ _ rfl rfl rfl
     replace f_u6 := f_u6.fr hw
     replace f_u7 := f_u7.fr hw
     replace hA := hA.fr hw.size
     replace hF := hF.trans hw
     clear hs hF' hw
     refine seqR_nil ?_
     refine HT.cond (x41 != x43) h89 (fun c45 => ?_) (fun c45 => ?_)
     ·have hr := cnd_t c45 hr
      refine HT.seq ?_
      refine HT.text (l := ⟨_, true, .raw (.bool false)⟩ :: []) (tl := []) (by kernel_rfl) (by kernel_rfl) (by kernel_rfl) ?_ ?_
      ·exact
        Obls.p (fun R' w' hw hs hd => of_assign rfl) <|
        Obls.nil
      intro R w hw hs hF'
      have h2 : R 2 = .bool false := hF' 0 _ _ rfl rfl rfl
      replace hA := hA.fr hw.size
      replace hF := hF.trans hw
      clear hs hF' hw
      refine seqR_nil ?_
      refine HT.ret ?_
      obtain rfl := Option.some.inj hr
      exact ⟨.inr rfl, [R 2], ⟨rfl, trivial⟩, h2, hF⟩
     ·have hr := cnd_f c45 hr
      refine HT.skip ?_
      refine HT.seq ?_
      obtain ⟨x46, q47, hr⟩ := bd_some hr
      obtain ⟨x48, q49, hr⟩ := cl_some hr
      obtain ⟨x50, q51, hr⟩ := bd_some hr
      refine HT.text (l := ⟨_, true, .raw (.int .i64 x19)⟩ :: ⟨_, true, .raw (.bool (decide (x19 < (0 : Int))))⟩ :: ⟨_, true, .raw (.bool (decide (x19 < (0 : Int))))⟩ :: ⟨_, (true && ((decide (x19 < (0 : Int))) == false)), .raw (.int .i64 x41)⟩ :: ⟨_, (true && ((decide (x19 < (0 : Int))) == false)), .raw (.bool (decide (x41 < (0 : Int))))⟩ :: ⟨_, true, .raw (.bool x46)⟩ :: ⟨_, true, .raw (.bool x46)⟩ :: ⟨_, (true && (x46 == false)), .raw u6⟩ :: ⟨_, (true && (x46 == false)), .raw u7⟩ :: ⟨_, (true && (x46 == false)), .raw (.int .i64 x48)⟩ :: ⟨_, (true && (x46 == false)), .raw (.int .i64 ((x37 * (4 : Int)).tmod (1001 : Int)))⟩ :: ⟨_, (true && (x46 == false)), .raw (.bool (decide (((x37 * (4 : Int)).tmod (1001 : Int)) ≤ x48)))⟩ :: ⟨_, (true && (x46 == false)), .raw (.int .i64 x19)⟩ :: ⟨_, (true && (x46 == false)), .raw (.int .i64 x41)⟩ :: ⟨_, (true && (x46 == false)), .raw (.bool (decide (x19 ≤ x41)))⟩ :: ⟨_, (true && (x46 == false)), .raw (.bool ((decide (((x37 * (4 : Int)).tmod (1001 : Int)) ≤ x48)) == (decide (x19 ≤ x41))))⟩ :: ⟨_, true, .raw (.bool x50)⟩ :: ⟨_, true, .raw (.bool x50)⟩ :: []) (tl := []) (by kernel_rfl) (by kernel_rfl) (by kernel_rfl) ?_ ?_
      ·exact
        Obls.p (fun R' w' hw hs hd => of_move ((hs 7 rfl).trans h7)) <|
        Obls.p (fun R' w' hw hs hd => by have a0 : R' 90 = .int .i64 x19 := hd.g 0 rfl; exact of_lss a0 rfl) <|
        Obls.p (fun R' w' hw hs hd => by have a0 : R' 91 = .bool (decide (x19 < (0 : Int))) := hd.g 0 rfl; exact of_move a0) <|
        Obls.cons (Obl.grd 2 false _ _ _ rfl rfl rfl rfl rfl (by kernel_rfl) fun hg R' w' hw hs hd => by have a0 : R' 12 = .int .i64 x41 := (hs 12 rfl).trans h12; exact of_move a0) <|
        Obls.cons (Obl.grd 2 false _ _ _ rfl rfl rfl rfl rfl (by kernel_rfl) fun hg R' w' hw hs hd => by have a0 : R' 93 = .int .i64 x41 := hd 0 _ _ _ rfl rfl rfl rfl hg; exact of_lss a0 rfl) <|
        Obls.p (fun R' w' hw hs hd => by have a0 : R' 92 = .bool (decide (x19 < (0 : Int))) := hd.g 0 rfl; exact of_pick (decide (x19 < (0 : Int))) a0 (fun hc => by show _ = Value.bool x46; rw [q47, hc]; exact rfl) (fun hc => by have a2 : R' 94 = .bool (decide (x41 < (0 : Int))) := hd 1 _ _ _ rfl rfl rfl rfl (g_and rfl (beq_of hc)); show _ = Value.bool x46; rw [q47, hc]; exact a2)) <|
        Obls.p (fun R' w' hw hs hd => by have a0 : R' 95 = .bool x46 := hd.g 0 rfl; exact of_move a0) <|
        Obls.cons (Obl.grd 6 false _ _ _ rfl rfl rfl rfl rfl (by kernel_rfl) fun hg R' w' hw hs hd => by have a0 : R' 3 = u6 := (hs 3 rfl).trans h3; exact of_move a0) <|
        Obls.cons (Obl.grd 6 false _ _ _ rfl rfl rfl rfl rfl (by kernel_rfl) fun hg R' w' hw hs hd => by have a0 : R' 4 = u7 := (hs 4 rfl).trans h4; exact of_move a0) <|
        Obls.cons (Obl.grd 6 false _ _ _ rfl rfl rfl rfl rfl (by kernel_rfl) fun hg R' w' hw hs hd => by have a0 : R' 97 = u6 := hd 0 _ _ _ rfl rfl rfl rfl hg; have ra0 := (f_u6.fr hw).eq a0; have a1 : R' 98 = u7 := hd 1 _ _ _ rfl rfl rfl rfl hg; have ra1 := (f_u7.fr hw).eq a1; exact of_call Try.call32 (M_spec_EditScore_ok (q49 hg) (hA.fr hw.size) ra0 ra1)) <|
        Obls.cons (Obl.grd 6 false _ _ _ rfl rfl rfl rfl rfl (by kernel_rfl) fun hg R' w' hw hs hd => by have a0 : R' 11 = .int .i64 ((x37 * (4 : Int)).tmod (1001 : Int)) := (hs 11 rfl).trans h11; exact of_move a0) <|
        Obls.cons (Obl.grd 6 false _ _ _ rfl rfl rfl rfl rfl (by kernel_rfl) fun hg R' w' hw hs hd => by have a0 : R' 99 = .int .i64 x48 := hd 0 _ _ _ rfl rfl rfl rfl hg; have a1 : R' 100 = .int .i64 ((x37 * (4 : Int)).tmod (1001 : Int)) := hd 1 _ _ _ rfl rfl rfl rfl hg; exact of_geq a0 a1) <|
        Obls.cons (Obl.grd 6 false _ _ _ rfl rfl rfl rfl rfl (by kernel_rfl) fun hg R' w' hw hs hd => by have a0 : R' 7 = .int .i64 x19 := (hs 7 rfl).trans h7; exact of_move a0) <|
        Obls.cons (Obl.grd 6 false _ _ _ rfl rfl rfl rfl rfl (by kernel_rfl) fun hg R' w' hw hs hd => by have a0 : R' 12 = .int .i64 x41 := (hs 12 rfl).trans h12; exact of_move a0) <|
        Obls.cons (Obl.grd 6 false _ _ _ rfl rfl rfl rfl rfl (by kernel_rfl) fun hg R' w' hw hs hd => by have a0 : R' 102 = .int .i64 x19 := hd 0 _ _ _ rfl rfl rfl rfl hg; have a1 : R' 103 = .int .i64 x41 := hd 1 _ _ _ rfl rfl rfl rfl hg; exact of_leq a0 a1) <|
        Obls.cons (Obl.grd 6 false _ _ _ rfl rfl rfl rfl rfl (by kernel_rfl) fun hg R' w' hw hs hd => by have a0 : R' 101 = .bool (decide (((x37 * (4 : Int)).tmod (1001 : Int)) ≤ x48)) := hd 0 _ _ _ rfl rfl rfl rfl hg; have a1 : R' 104 = .bool (decide (x19 ≤ x41)) := hd 1 _ _ _ rfl rfl rfl rfl hg; exact of_beql Try.underlying4 a0 a1) <|
        Obls.p (fun R' w' hw hs hd => by have a0 : R' 96 = .bool x46 := hd.g 0 rfl; exact of_pick x46 a0 (fun hc => by show _ = Value.bool x50; rw [q51, hc]; exact rfl) (fun hc => by have a2 : R' 105 = .bool ((decide (((x37 * (4 : Int)).tmod (1001 : Int)) ≤ x48)) == (decide (x19 ≤ x41))) := hd 1 _ _ _ rfl rfl rfl rfl (g_and rfl (beq_of hc)); show _ = Value.bool x50; rw [q51, hc]; exact a2)) <|
        Obls.p (fun R' w' hw hs hd => by have a0 : R' 106 = .bool x50 := hd.g 0 rfl; exact of_assign a0) <|
        Obls.nil
      intro R w hw hs hF'
      have h2 : R 2 = .bool x50 := hF' 17 _ _ rfl rfl rfl
      replace hA := hA.fr hw.size
      replace hF := hF.trans hw
      clear hs hF' hw
      refine seqR_nil ?_
      refine HT.ret ?_
      obtain rfl := Option.some.inj hr
      exact ⟨.inr rfl, [R 2], ⟨rfl, trivial⟩, h2, hF⟩
end Go.Proofs.Ytofiipblinonoaa
