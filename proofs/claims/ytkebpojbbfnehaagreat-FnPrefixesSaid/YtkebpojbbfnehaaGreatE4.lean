/- Printed by dec.py: plain functions and the proofs that the code computes them. No statement of the seat is proved here. -/
import Derived.Test.YtkebpojbbfnehaaGreatE3
namespace Go.Proofs.YtkebpojbbfnehaaGreat
open Go.RowKit
set_option linter.unusedVariables false
set_option maxRecDepth 100000
set_option maxHeartbeats 4000000
def M_spec_IsTokenSet_L1 (fu : Nat) (p0 : List (List UInt8)) (y4 : Int) : Nat → Int → Option (Ex Bool Unit)
 | 0, _ => none
 | k + 1, y18 =>
  ck (inR y4 p0.length) <|
  bif (decide (y18 < ((gtD p0 y4).length : Int))) then (
   ck (inR y4 p0.length) <|
   ck (inR y18 (gtD p0 y4).length) <|
   cl true (M_spec_l2Word fu (bAt (gtD p0 y4) y18)) fun x23 =>
   ck (!(true && ((!x23) == false)) || inR y4 p0.length) <|
   cl (true && ((!x23) == false)) (M_spec_FoldCase fu (gtD p0 y4)) fun x26 =>
   ck (!(true && ((!x23) == false)) || inR y4 p0.length) <|
   bd ((!x23) || (!(x26 == (gtD p0 y4)))) fun x29 =>
   bif x29 then (
    some (Ex.ret false)
   ) else (
    ck (i64B (y18 + (1 : Int))) <|
    M_spec_IsTokenSet_L1 fu p0 y4 k (y18 + (1 : Int))
   )
  ) else (
   some (Ex.go ())
  )
def M_spec_IsTokenSet_L0 (fu : Nat) (p0 : List (List UInt8)) : Nat → Int → Option (Ex Bool Unit)
 | 0, _ => none
 | k + 1, y4 =>
  bif (decide (y4 < (p0.length : Int))) then (
   ck (inR y4 p0.length) <|
   ck (!((true && (((gtD p0 y4) == ([] : List UInt8)) == false)) && ((decide ((0 : Int) < y4)) == true)) || i64B (y4 - (1 : Int))) <|
   ck (!((true && (((gtD p0 y4) == ([] : List UInt8)) == false)) && ((decide ((0 : Int) < y4)) == true)) || inR (y4 - (1 : Int)) p0.length) <|
   ck (!((true && (((gtD p0 y4) == ([] : List UInt8)) == false)) && ((decide ((0 : Int) < y4)) == true)) || inR y4 p0.length) <|
   bd ((decide ((0 : Int) < y4)) && (!(bLt (gtD p0 (y4 - (1 : Int))) (gtD p0 y4)))) fun x10 =>
   bd (((gtD p0 y4) == ([] : List UInt8)) || x10) fun x12 =>
   bif x12 then (
    some (Ex.ret false)
   ) else (
    cl true (M_spec_IsTokenSet_L1 fu p0 y4 fu (0 : Int)) fun rl15 =>
    exM rl15 (fun r => some (Ex.ret r)) fun s17 =>
    ck (i64B (y4 + (1 : Int))) <|
    M_spec_IsTokenSet_L0 fu p0 k (y4 + (1 : Int))
   )
  ) else (
   some (Ex.go ())
  )
def M_spec_IsTokenSet (fu : Nat) (p0 : List (List UInt8)) : Option Bool :=
 cl true (M_spec_IsTokenSet_L0 fu p0 fu (0 : Int)) fun rl1 =>
 exM rl1 (fun r => some r) fun s3 =>
 some true
theorem M_spec_IsTokenSet_ok {fu : Nat} {A : Av} {p0 : List (List UInt8)} {r : Bool} (hr : M_spec_IsTokenSet fu p0 = some r) {w : World} {v0 : Value} (hA : AvOK A w) (h0 : Rep (eSl eStr) A w v0 p0) :
  Calls Tryz.prog 20 #[v0] w fun e w' => ∃ v, e = .returned v ∧ (v = .bool r ∧ Fr w w') := by
 unfold M_spec_IsTokenSet at hr
 obtain ⟨w0, hw0⟩ : ∃ w0, w0 = w := ⟨_, rfl⟩
 have hF : Fr w0 w := hw0 ▸ Fr.refl _
 rw [show Fr w = Fr w0 from hw0 ▸ rfl]
 clear hw0
 refine calls_of_HT2 [.tmp 2] Tryz.func20 Tryz.ntmps20 (by decide) rfl rfl (Nat.le_of_ble_eq_true rfl) ?_
 intro R hR
 have f_v0 := h0
 replace h0 : R 0 = v0 := hR 0 _ rfl
 clear hR
 refine HT.seq ?_
 refine HT.text (l := ⟨_, true, .raw (.bool false)⟩ :: []) (tl := []) (by kernel_rfl) (by kernel_rfl) (by kernel_rfl) ?_ ?_
 ·exact
   Obls.p (fun R' w' hw hs hd => of_assign rfl) <|
   Obls.nil
 intro R w hw hs hF'
 replace h0 := (hs 0 rfl).trans h0
 replace f_v0 := f_v0.fr hw
 replace hA := hA.fr hw.size
 replace hF := hF.trans hw
 clear hs hF' hw
 refine seqR_nil ?_
 refine HT.seq ?_
 refine HT.seq ?_
 refine HT.text (l := ⟨_, true, .raw (.int .i64 (0 : Int))⟩ :: []) (tl := []) (by kernel_rfl) (by kernel_rfl) (by kernel_rfl) ?_ ?_
 ·exact
   Obls.p (fun R' w' hw hs hd => of_assign rfl) <|
   Obls.nil
 intro R w hw hs hF'
 replace h0 := (hs 0 rfl).trans h0
 have h3 : R 3 = .int .i64 (0 : Int) := hF' 0 _ _ rfl rfl rfl
 replace f_v0 := f_v0.fr hw
 replace hA := hA.fr hw.size
 replace hF := hF.trans hw
 clear hs hF' hw
 refine seqR_nil ?_
 obtain ⟨rl1, q2, hr⟩ := cl_some hr
 replace q2 := q2 rfl
 refine HT.cut0 (fun R w => ∃ (s3 : Unit), rl1 = Ex.go s3 ∧ AvOK A w ∧ Fr w0 w) ?_ ?_
 ·refine HT.block ?_
  refine HT.loop (fun k R w => ∃ (y4 : Int), M_spec_IsTokenSet_L0 fu p0 k y4 = some rl1 ∧ AvOK A w ∧ Fr w0 w ∧ R 0 = v0 ∧ R 3 = .int .i64 y4 ∧ Rep (eSl eStr) A w v0 p0) fu ⟨_, q2, hA, hF, h0, h3, f_v0⟩ ?_
  have hr0 := hr; clear hr q2
  rintro k R w ⟨y4, hr, hA, hF, h0, h3, f_v0⟩
  rcases k with _ | k
  ·cases (show none = some _ from hr)
  rw [M_spec_IsTokenSet_L0] at hr
  refine HT.seq ?_
  refine HT.seq ?_
  refine HT.text (l := ⟨_, true, .raw (.int .i64 y4)⟩ :: ⟨_, true, .raw v0⟩ :: ⟨_, true, .raw (.int .i64 (p0.length : Int))⟩ :: ⟨_, true, .raw (.bool (decide (y4 < (p0.length : Int))))⟩ :: []) (tl := []) (by kernel_rfl) (by kernel_rfl) (by kernel_rfl) ?_ ?_
  ·exact
    Obls.p (fun R' w' hw hs hd => of_move ((hs 3 rfl).trans h3)) <|
    Obls.p (fun R' w' hw hs hd => of_move ((hs 0 rfl).trans h0)) <|
    Obls.p (fun R' w' hw hs hd => by have a0 : R' 6 = v0 := hd.g 0 rfl; have ra0 := (f_v0.fr hw).eq a0; exact of_len_sl (aT := #[]) ra0 Tryz.underlying25) <|
    Obls.p (fun R' w' hw hs hd => by have a0 : R' 5 = .int .i64 y4 := hd.g 0 rfl; have a1 : R' 7 = .int .i64 (p0.length : Int) := hd.g 1 rfl; exact of_lss a0 a1) <|
    Obls.nil
  intro R w hw hs hF'
  replace h0 := (hs 0 rfl).trans h0
  replace h3 := (hs 3 rfl).trans h3
  have h8 : R 8 = .bool (decide (y4 < (p0.length : Int))) := hF' 3 _ _ rfl rfl rfl
  replace f_v0 := f_v0.fr hw
  replace hA := hA.fr hw.size
  replace hF := hF.trans hw
  clear hs hF' hw
  refine seqR_nil ?_
  refine HT.cond (decide (y4 < (p0.length : Int))) h8 (fun c5 => ?_) (fun c5 => ?_)
  ·have hr := cnd_t c5 hr
   refine HT.skip ?_
   refine HT.seq ?_
   refine HT.block ?_
   refine HT.seq ?_
   refine HT.seq ?_
   obtain ⟨e6, hr⟩ := ck_some hr
   obtain ⟨e7, hr⟩ := ck_some hr
   obtain ⟨e8, hr⟩ := ck_some hr
   obtain ⟨e9, hr⟩ := ck_some hr
   obtain ⟨x10, q11, hr⟩ := bd_some hr
   obtain ⟨x12, q13, hr⟩ := bd_some hr
   refine HT.draw (by kernel_rfl) (l := ⟨_, true, .raw v0⟩ :: ⟨_, true, .raw (.int .i64 y4)⟩ :: ⟨_, true, .qtr eStr A (gtD p0 y4)⟩ :: ⟨_, true, .rep eStr A (gtD p0 y4)⟩ :: ⟨_, true, .raw (.bool ((gtD p0 y4) == ([] : List UInt8)))⟩ :: ⟨_, true, .raw (.bool ((gtD p0 y4) == ([] : List UInt8)))⟩ :: ⟨_, (true && (((gtD p0 y4) == ([] : List UInt8)) == false)), .raw (.int .i64 y4)⟩ :: ⟨_, (true && (((gtD p0 y4) == ([] : List UInt8)) == false)), .raw (.bool (decide ((0 : Int) < y4)))⟩ :: ⟨_, (true && (((gtD p0 y4) == ([] : List UInt8)) == false)), .raw (.bool (decide ((0 : Int) < y4)))⟩ :: ⟨_, ((true && (((gtD p0 y4) == ([] : List UInt8)) == false)) && ((decide ((0 : Int) < y4)) == true)), .raw v0⟩ :: ⟨_, ((true && (((gtD p0 y4) == ([] : List UInt8)) == false)) && ((decide ((0 : Int) < y4)) == true)), .raw (.int .i64 y4)⟩ :: ⟨_, ((true && (((gtD p0 y4) == ([] : List UInt8)) == false)) && ((decide ((0 : Int) < y4)) == true)), .raw (.int .i64 (y4 - (1 : Int)))⟩ :: ⟨_, ((true && (((gtD p0 y4) == ([] : List UInt8)) == false)) && ((decide ((0 : Int) < y4)) == true)), .qtr eStr A (gtD p0 (y4 - (1 : Int)))⟩ :: ⟨_, ((true && (((gtD p0 y4) == ([] : List UInt8)) == false)) && ((decide ((0 : Int) < y4)) == true)), .rep eStr A (gtD p0 (y4 - (1 : Int)))⟩ :: ⟨_, ((true && (((gtD p0 y4) == ([] : List UInt8)) == false)) && ((decide ((0 : Int) < y4)) == true)), .raw v0⟩ :: ⟨_, ((true && (((gtD p0 y4) == ([] : List UInt8)) == false)) && ((decide ((0 : Int) < y4)) == true)), .raw (.int .i64 y4)⟩ :: ⟨_, ((true && (((gtD p0 y4) == ([] : List UInt8)) == false)) && ((decide ((0 : Int) < y4)) == true)), .qtr eStr A (gtD p0 y4)⟩ :: ⟨_, ((true && (((gtD p0 y4) == ([] : List UInt8)) == false)) && ((decide ((0 : Int) < y4)) == true)), .rep eStr A (gtD p0 y4)⟩ :: ⟨_, ((true && (((gtD p0 y4) == ([] : List UInt8)) == false)) && ((decide ((0 : Int) < y4)) == true)), .raw (.bool (!(bLt (gtD p0 (y4 - (1 : Int))) (gtD p0 y4))))⟩ :: ⟨_, (true && (((gtD p0 y4) == ([] : List UInt8)) == false)), .raw (.bool x10)⟩ :: ⟨_, true, .raw (.bool x12)⟩ :: []) (tl := []) (by kernel_rfl) (by kernel_rfl) (by kernel_rfl) (by kernel_rfl) ?_ ?_
   ·exact
     Obls.p (fun R' w' hw hs hd => of_move ((hs 0 rfl).trans h0)) <|
     Obls.p (fun R' w' hw hs hd => of_move ((hs 3 rfl).trans h3)) <|
     Obls.p (fun R' w' hw hs hd => by have a0 : R' 11 = v0 := hd.g 0 rfl; have a1 : R' 12 = .int .i64 y4 := hd.g 1 rfl; have ra0 := (f_v0.fr hw).eq a0; exact of_indexAddr ra0 a1 Tryz.underlying25 Tryz.sizeOf9 e6) <|
     Obls.p (fun R' w' hw hs hd => by have a0 : QRep eStr A w' (R' 13) (gtD p0 y4) := hd.g 0 rfl; exact (of_load a0.ptr Tryz.isAgg9 Tryz.sizeOf9)) <|
     Obls.p (fun R' w' hw hs hd => by have a0 : Rep eStr A w' (R' 14) (gtD p0 y4) := hd.g 0 rfl; exact of_seql a0 ⟨_, rfl, ⟨_, rfl, rfl, by decide⟩⟩) <|
     Obls.p (fun R' w' hw hs hd => by have a0 : R' 15 = .bool ((gtD p0 y4) == ([] : List UInt8)) := hd.g 0 rfl; exact of_move a0) <|
     Obls.cons (Obl.grd 5 false _ _ _ rfl rfl rfl rfl rfl (by kernel_rfl) fun hg R' w' hw hs hd => by have a0 : R' 3 = .int .i64 y4 := (hs 3 rfl).trans h3; exact of_move a0) <|
     Obls.cons (Obl.grd 5 false _ _ _ rfl rfl rfl rfl rfl (by kernel_rfl) fun hg R' w' hw hs hd => by have a0 : R' 17 = .int .i64 y4 := hd 0 _ _ _ rfl rfl rfl rfl hg; exact of_gtr a0 rfl) <|
     Obls.cons (Obl.grd 5 false _ _ _ rfl rfl rfl rfl rfl (by kernel_rfl) fun hg R' w' hw hs hd => by have a0 : R' 18 = .bool (decide ((0 : Int) < y4)) := hd 0 _ _ _ rfl rfl rfl rfl hg; exact of_move a0) <|
     Obls.cons (Obl.grd 8 true _ _ _ rfl rfl rfl rfl rfl (by kernel_rfl) fun hg R' w' hw hs hd => by have a0 : R' 0 = v0 := (hs 0 rfl).trans h0; exact of_move a0) <|
     Obls.cons (Obl.grd 8 true _ _ _ rfl rfl rfl rfl rfl (by kernel_rfl) fun hg R' w' hw hs hd => by have a0 : R' 3 = .int .i64 y4 := (hs 3 rfl).trans h3; exact of_move a0) <|
     Obls.cons (Obl.grd 8 true _ _ _ rfl rfl rfl rfl rfl (by kernel_rfl) fun hg R' w' hw hs hd => by have a0 : R' 21 = .int .i64 y4 := hd 0 _ _ _ rfl rfl rfl rfl hg; exact of_sub a0 rfl (gd e7 hg)) <|
     Obls.cons (Obl.grd 8 true _ _ _ rfl rfl rfl rfl rfl (by kernel_rfl) fun hg R' w' hw hs hd => by have a0 : R' 20 = v0 := hd 0 _ _ _ rfl rfl rfl rfl hg; have a1 : R' 22 = .int .i64 (y4 - (1 : Int)) := hd 1 _ _ _ rfl rfl rfl rfl hg; have ra0 := (f_v0.fr hw).eq a0; exact of_indexAddr ra0 a1 Tryz.underlying25 Tryz.sizeOf9 (gd e8 hg)) <|
     Obls.cons (Obl.grd 8 true _ _ _ rfl rfl rfl rfl rfl (by kernel_rfl) fun hg R' w' hw hs hd => by have a0 : QRep eStr A w' (R' 23) (gtD p0 (y4 - (1 : Int))) := hd 0 _ _ _ rfl rfl rfl rfl hg; exact (of_load a0.ptr Tryz.isAgg9 Tryz.sizeOf9)) <|
     Obls.cons (Obl.grd 8 true _ _ _ rfl rfl rfl rfl rfl (by kernel_rfl) fun hg R' w' hw hs hd => by have a0 : R' 0 = v0 := (hs 0 rfl).trans h0; exact of_move a0) <|
     Obls.cons (Obl.grd 8 true _ _ _ rfl rfl rfl rfl rfl (by kernel_rfl) fun hg R' w' hw hs hd => by have a0 : R' 3 = .int .i64 y4 := (hs 3 rfl).trans h3; exact of_move a0) <|
     Obls.cons (Obl.grd 8 true _ _ _ rfl rfl rfl rfl rfl (by kernel_rfl) fun hg R' w' hw hs hd => by have a0 : R' 25 = v0 := hd 0 _ _ _ rfl rfl rfl rfl hg; have a1 : R' 26 = .int .i64 y4 := hd 1 _ _ _ rfl rfl rfl rfl hg; have ra0 := (f_v0.fr hw).eq a0; exact of_indexAddr ra0 a1 Tryz.underlying25 Tryz.sizeOf9 (gd e9 hg)) <|
     Obls.cons (Obl.grd 8 true _ _ _ rfl rfl rfl rfl rfl (by kernel_rfl) fun hg R' w' hw hs hd => by have a0 : QRep eStr A w' (R' 27) (gtD p0 y4) := hd 0 _ _ _ rfl rfl rfl rfl hg; exact (of_load a0.ptr Tryz.isAgg9 Tryz.sizeOf9)) <|
     Obls.cons (Obl.grd 8 true _ _ _ rfl rfl rfl rfl rfl (by kernel_rfl) fun hg R' w' hw hs hd => by have a0 : Rep eStr A w' (R' 24) (gtD p0 (y4 - (1 : Int))) := hd 0 _ _ _ rfl rfl rfl rfl hg; have a1 : Rep eStr A w' (R' 28) (gtD p0 y4) := hd 1 _ _ _ rfl rfl rfl rfl hg; exact of_sgeq a0 a1) <|
     Obls.cons (Obl.grd 5 false _ _ _ rfl rfl rfl rfl rfl (by kernel_rfl) fun hg R' w' hw hs hd => by have a0 : R' 19 = .bool (decide ((0 : Int) < y4)) := hd 0 _ _ _ rfl rfl rfl rfl hg; exact of_pick (decide ((0 : Int) < y4)) a0 (fun hc => by have a1 : R' 29 = .bool (!(bLt (gtD p0 (y4 - (1 : Int))) (gtD p0 y4))) := hd 1 _ _ _ rfl rfl rfl rfl (g_and hg (beq_of hc)); show _ = Value.bool x10; rw [q11, hc]; exact a1) (fun hc => by show _ = Value.bool x10; rw [q11, hc]; exact rfl)) <|
     Obls.p (fun R' w' hw hs hd => by have a0 : R' 16 = .bool ((gtD p0 y4) == ([] : List UInt8)) := hd.g 0 rfl; exact of_pick ((gtD p0 y4) == ([] : List UInt8)) a0 (fun hc => by show _ = Value.bool x12; rw [q13, hc]; exact rfl) (fun hc => by have a2 : R' 30 = .bool x10 := hd 1 _ _ _ rfl rfl rfl rfl (g_and rfl (beq_of hc)); show _ = Value.bool x12; rw [q13, hc]; exact a2)) <|
     Obls.nil
   intro R w hw hs hF'
   replace h0 := (hs 0 rfl).trans h0
   replace h3 := (hs 3 rfl).trans h3
   have h31 : R 31 = .bool x12 := hF' 20 _ _ rfl rfl rfl
   replace f_v0 := f_v0.fr hw
   replace hA := hA.fr hw.size
   replace hF := hF.trans hw
   clear hs hF' hw
   refine seqR_nil ?_
   refine HT.cond x12 h31 (fun c14 => ?_) (fun c14 => ?_)
   ·have hr := cnd_t c14 hr
    refine HT.seq ?_
    refine HT.text (l := ⟨_, true, .raw (.bool false)⟩ :: []) (tl := []) (by kernel_rfl) (by kernel_rfl) (by kernel_rfl) ?_ ?_
    ·exact
      Obls.p (fun R' w' hw hs hd => of_assign rfl) <|
      Obls.nil
    intro R w hw hs hF'
    have h2 : R 2 = .bool false := hF' 0 _ _ rfl rfl rfl
    replace hA := hA.fr hw.size
    replace hF := hF.trans hw
    clear hs hF' hw
    refine seqR_nil ?_
    refine HT.ret ?_
    obtain rfl := Option.some.inj hr
    have hr := hr0
    replace hr : some _ = some _ := hr
    obtain rfl := Option.some.inj hr
    exact ⟨.inr rfl, [R 2], ⟨rfl, trivial⟩, h2, hF⟩
   ·have hr := cnd_f c14 hr
    refine HT.skip ?_
    refine HT.seq ?_
    refine HT.text (l := ⟨_, true, .raw (.int .i64 (0 : Int))⟩ :: []) (tl := []) (by kernel_rfl) (by kernel_rfl) (by kernel_rfl) ?_ ?_
    ·exact
      Obls.p (fun R' w' hw hs hd => of_assign rfl) <|
      Obls.nil
    intro R w hw hs hF'
    replace h0 := (hs 0 rfl).trans h0
    replace h3 := (hs 3 rfl).trans h3
    have h4 : R 4 = .int .i64 (0 : Int) := hF' 0 _ _ rfl rfl rfl
    replace f_v0 := f_v0.fr hw
    replace hA := hA.fr hw.size
    replace hF := hF.trans hw
    clear hs hF' hw
    refine seqR_nil ?_
    obtain ⟨rl15, q16, hr⟩ := cl_some hr
    replace q16 := q16 rfl
    refine HT.cut0 (fun R w => ∃ (s17 : Unit), rl15 = Ex.go s17 ∧ AvOK A w ∧ Fr w0 w ∧ R 0 = v0 ∧ R 3 = .int .i64 y4 ∧ Rep (eSl eStr) A w v0 p0) ?_ ?_
    ·refine HT.block ?_
     refine HT.loop (fun k R w => ∃ (y18 : Int), M_spec_IsTokenSet_L1 fu p0 y4 k y18 = some rl15 ∧ AvOK A w ∧ Fr w0 w ∧ R 0 = v0 ∧ R 3 = .int .i64 y4 ∧ R 4 = .int .i64 y18 ∧ Rep (eSl eStr) A w v0 p0) fu ⟨_, q16, hA, hF, h0, h3, h4, f_v0⟩ ?_
     have hr1 := hr; clear hr q16
     rintro k R w ⟨y18, hr, hA, hF, h0, h3, h4, f_v0⟩
     rcases k with _ | k
     ·cases (show none = some _ from hr)
     rw [M_spec_IsTokenSet_L1] at hr
     refine HT.seq ?_
     refine HT.seq ?_
     obtain ⟨e19, hr⟩ := ck_some hr
     refine HT.text (l := ⟨_, true, .raw (.int .i64 y18)⟩ :: ⟨_, true, .raw v0⟩ :: ⟨_, true, .raw (.int .i64 y4)⟩ :: ⟨_, true, .qtr eStr A (gtD p0 y4)⟩ :: ⟨_, true, .rep eStr A (gtD p0 y4)⟩ :: ⟨_, true, .raw (.int .i64 ((gtD p0 y4).length : Int))⟩ :: ⟨_, true, .raw (.bool (decide (y18 < ((gtD p0 y4).length : Int))))⟩ :: []) (tl := []) (by kernel_rfl) (by kernel_rfl) (by kernel_rfl) ?_ ?_
     ·exact
       Obls.p (fun R' w' hw hs hd => of_move ((hs 4 rfl).trans h4)) <|
       Obls.p (fun R' w' hw hs hd => of_move ((hs 0 rfl).trans h0)) <|
       Obls.p (fun R' w' hw hs hd => of_move ((hs 3 rfl).trans h3)) <|
       Obls.p (fun R' w' hw hs hd => by have a0 : R' 33 = v0 := hd.g 0 rfl; have a1 : R' 34 = .int .i64 y4 := hd.g 1 rfl; have ra0 := (f_v0.fr hw).eq a0; exact of_indexAddr ra0 a1 Tryz.underlying25 Tryz.sizeOf9 e19) <|
       Obls.p (fun R' w' hw hs hd => by have a0 : QRep eStr A w' (R' 35) (gtD p0 y4) := hd.g 0 rfl; exact (of_load a0.ptr Tryz.isAgg9 Tryz.sizeOf9)) <|
       Obls.p (fun R' w' hw hs hd => by have a0 : Rep eStr A w' (R' 36) (gtD p0 y4) := hd.g 0 rfl; exact of_len_str a0 Tryz.underlying9) <|
       Obls.p (fun R' w' hw hs hd => by have a0 : R' 32 = .int .i64 y18 := hd.g 0 rfl; have a1 : R' 37 = .int .i64 ((gtD p0 y4).length : Int) := hd.g 1 rfl; exact of_lss a0 a1) <|
       Obls.nil
     intro R w hw hs hF'
     replace h0 := (hs 0 rfl).trans h0
     replace h3 := (hs 3 rfl).trans h3
     replace h4 := (hs 4 rfl).trans h4
     have h38 : R 38 = .bool (decide (y18 < ((gtD p0 y4).length : Int))) := hF' 6 _ _ rfl rfl rfl
     replace f_v0 := f_v0.fr hw
     replace hA := hA.fr hw.size
     replace hF := hF.trans hw
     clear hs hF' hw
     refine seqR_nil ?_
     refine HT.cond (decide (y18 < ((gtD p0 y4).length : Int))) h38 (fun c20 => ?_) (fun c20 => ?_)
     ·have hr := cnd_t c20 hr
      refine HT.skip ?_
      refine HT.seq ?_
      refine HT.block ?_
      refine HT.seq ?_
      obtain ⟨e21, hr⟩ := ck_some hr
      obtain ⟨e22, hr⟩ := ck_some hr
      obtain ⟨x23, q24, hr⟩ := cl_some hr
      obtain ⟨e25, hr⟩ := ck_some hr
      obtain ⟨x26, q27, hr⟩ := cl_some hr
      obtain ⟨e28, hr⟩ := ck_some hr
      obtain ⟨x29, q30, hr⟩ := bd_some hr
      refine HT.draw (by kernel_rfl) (l := ⟨_, true, .raw v0⟩ :: ⟨_, true, .raw (.int .i64 y4)⟩ :: ⟨_, true, .qtr eStr A (gtD p0 y4)⟩ :: ⟨_, true, .rep eStr A (gtD p0 y4)⟩ :: ⟨_, true, .raw (.int .i64 y18)⟩ :: ⟨_, true, .raw (.int .u8 (bAt (gtD p0 y4) y18))⟩ :: ⟨_, true, .raw (.bool x23)⟩ :: ⟨_, true, .raw (.bool (!x23))⟩ :: ⟨_, true, .raw (.bool (!x23))⟩ :: ⟨_, (true && ((!x23) == false)), .raw v0⟩ :: ⟨_, (true && ((!x23) == false)), .raw (.int .i64 y4)⟩ :: ⟨_, (true && ((!x23) == false)), .qtr eStr A (gtD p0 y4)⟩ :: ⟨_, (true && ((!x23) == false)), .rep eStr A (gtD p0 y4)⟩ :: ⟨_, (true && ((!x23) == false)), .rep eStr A x26⟩ :: ⟨_, (true && ((!x23) == false)), .raw v0⟩ :: ⟨_, (true && ((!x23) == false)), .raw (.int .i64 y4)⟩ :: ⟨_, (true && ((!x23) == false)), .qtr eStr A (gtD p0 y4)⟩ :: ⟨_, (true && ((!x23) == false)), .rep eStr A (gtD p0 y4)⟩ :: ⟨_, (true && ((!x23) == false)), .raw (.bool (!(x26 == (gtD p0 y4))))⟩ :: ⟨_, true, .raw (.bool x29)⟩ :: []) (tl := []) (by kernel_rfl) (by kernel_rfl) (by kernel_rfl) (by kernel_rfl) ?_ ?_
      ·exact
        Obls.p (fun R' w' hw hs hd => of_move ((hs 0 rfl).trans h0)) <|
        Obls.p (fun R' w' hw hs hd => of_move ((hs 3 rfl).trans h3)) <|
        Obls.p (fun R' w' hw hs hd => by have a0 : R' 41 = v0 := hd.g 0 rfl; have a1 : R' 42 = .int .i64 y4 := hd.g 1 rfl; have ra0 := (f_v0.fr hw).eq a0; exact of_indexAddr ra0 a1 Tryz.underlying25 Tryz.sizeOf9 e21) <|
        Obls.p (fun R' w' hw hs hd => by have a0 : QRep eStr A w' (R' 43) (gtD p0 y4) := hd.g 0 rfl; exact (of_load a0.ptr Tryz.isAgg9 Tryz.sizeOf9)) <|
        Obls.p (fun R' w' hw hs hd => of_move ((hs 4 rfl).trans h4)) <|
        Obls.p (fun R' w' hw hs hd => by have a0 : Rep eStr A w' (R' 44) (gtD p0 y4) := hd.g 0 rfl; have a1 : R' 45 = .int .i64 y18 := hd.g 1 rfl; exact of_strIndex a0 a1 Tryz.underlying9 e22) <|
        Obls.p (fun R' w' hw hs hd => by have a0 : R' 46 = .int .u8 (bAt (gtD p0 y4) y18) := hd.g 0 rfl; exact of_call Tryz.call53 (M_spec_l2Word_ok (q24 rfl) (hA.fr hw.size) a0)) <|
        Obls.p (fun R' w' hw hs hd => by have a0 : R' 47 = .bool x23 := hd.g 0 rfl; exact of_not a0) <|
        Obls.p (fun R' w' hw hs hd => by have a0 : R' 48 = .bool (!x23) := hd.g 0 rfl; exact of_move a0) <|
        Obls.cons (Obl.grd 8 false _ _ _ rfl rfl rfl rfl rfl (by kernel_rfl) fun hg R' w' hw hs hd => by have a0 : R' 0 = v0 := (hs 0 rfl).trans h0; exact of_move a0) <|
        Obls.cons (Obl.grd 8 false _ _ _ rfl rfl rfl rfl rfl (by kernel_rfl) fun hg R' w' hw hs hd => by have a0 : R' 3 = .int .i64 y4 := (hs 3 rfl).trans h3; exact of_move a0) <|
        Obls.cons (Obl.grd 8 false _ _ _ rfl rfl rfl rfl rfl (by kernel_rfl) fun hg R' w' hw hs hd => by have a0 : R' 50 = v0 := hd 0 _ _ _ rfl rfl rfl rfl hg; have a1 : R' 51 = .int .i64 y4 := hd 1 _ _ _ rfl rfl rfl rfl hg; have ra0 := (f_v0.fr hw).eq a0; exact of_indexAddr ra0 a1 Tryz.underlying25 Tryz.sizeOf9 (gd e25 hg)) <|
        Obls.cons (Obl.grd 8 false _ _ _ rfl rfl rfl rfl rfl (by kernel_rfl) fun hg R' w' hw hs hd => by have a0 : QRep eStr A w' (R' 52) (gtD p0 y4) := hd 0 _ _ _ rfl rfl rfl rfl hg; exact (of_load a0.ptr Tryz.isAgg9 Tryz.sizeOf9)) <|
        Obls.cons (Obl.grd 8 false _ _ _ rfl rfl rfl rfl rfl (by kernel_rfl) fun hg R' w' hw hs hd => by have a0 : Rep eStr A w' (R' 53) (gtD p0 y4) := hd 0 _ _ _ rfl rfl rfl rfl hg; exact of_call Tryz.call54 (M_spec_FoldCase_ok (q27 hg) (hA.fr hw.size) a0)) <|
        Obls.cons (Obl.grd 8 false _ _ _ rfl rfl rfl rfl rfl (by kernel_rfl) fun hg R' w' hw hs hd => by have a0 : R' 0 = v0 := (hs 0 rfl).trans h0; exact of_move a0) <|
        Obls.cons (Obl.grd 8 false _ _ _ rfl rfl rfl rfl rfl (by kernel_rfl) fun hg R' w' hw hs hd => by have a0 : R' 3 = .int .i64 y4 := (hs 3 rfl).trans h3; exact of_move a0) <|
        Obls.cons (Obl.grd 8 false _ _ _ rfl rfl rfl rfl rfl (by kernel_rfl) fun hg R' w' hw hs hd => by have a0 : R' 55 = v0 := hd 0 _ _ _ rfl rfl rfl rfl hg; have a1 : R' 56 = .int .i64 y4 := hd 1 _ _ _ rfl rfl rfl rfl hg; have ra0 := (f_v0.fr hw).eq a0; exact of_indexAddr ra0 a1 Tryz.underlying25 Tryz.sizeOf9 (gd e28 hg)) <|
        Obls.cons (Obl.grd 8 false _ _ _ rfl rfl rfl rfl rfl (by kernel_rfl) fun hg R' w' hw hs hd => by have a0 : QRep eStr A w' (R' 57) (gtD p0 y4) := hd 0 _ _ _ rfl rfl rfl rfl hg; exact (of_load a0.ptr Tryz.isAgg9 Tryz.sizeOf9)) <|
        Obls.cons (Obl.grd 8 false _ _ _ rfl rfl rfl rfl rfl (by kernel_rfl) fun hg R' w' hw hs hd => by have a0 : Rep eStr A w' (R' 54) x26 := hd 0 _ _ _ rfl rfl rfl rfl hg; have a1 : Rep eStr A w' (R' 58) (gtD p0 y4) := hd 1 _ _ _ rfl rfl rfl rfl hg; exact of_sneq a0 a1) <|
        Obls.p (fun R' w' hw hs hd => by have a0 : R' 49 = .bool (!x23) := hd.g 0 rfl; exact of_pick (!x23) a0 (fun hc => by show _ = Value.bool x29; rw [q30, hc]; exact rfl) (fun hc => by have a2 : R' 59 = .bool (!(x26 == (gtD p0 y4))) := hd 1 _ _ _ rfl rfl rfl rfl (g_and rfl (beq_of hc)); show _ = Value.bool x29; rw [q30, hc]; exact a2)) <|
        Obls.nil
      intro R w hw hs hF'
      replace h0 := (hs 0 rfl).trans h0
      replace h3 := (hs 3 rfl).trans h3
      replace h4 := (hs 4 rfl).trans h4
      have h60 : R 60 = .bool x29 := hF' 19 _ _ rfl rfl rfl
      replace f_v0 := f_v0.fr hw
      replace hA := hA.fr hw.size
      replace hF := hF.trans hw
      clear hs hF' hw
      refine seqR_nil ?_
      refine HT.cond x29 h60 (fun c31 => ?_) (fun c31 => ?_)
      ·have hr := cnd_t c31 hr
       refine HT.seq ?_
       refine HT.text (l := ⟨_, true, .raw (.bool false)⟩ :: []) (tl := []) (by kernel_rfl) (by kernel_rfl) (by kernel_rfl) ?_ ?_
       ·exact
         Obls.p (fun R' w' hw hs hd => of_assign rfl) <|
         Obls.nil
       intro R w hw hs hF'
       have h2 : R 2 = .bool false := hF' 0 _ _ rfl rfl rfl
       replace hA := hA.fr hw.size
       replace hF := hF.trans hw
       clear hs hF' hw
       refine seqR_nil ?_
       refine HT.ret ?_
       obtain rfl := Option.some.inj hr
       have hr := hr1
       replace hr : some _ = some _ := hr
       obtain rfl := Option.some.inj hr
       have hr := hr0
       replace hr : some _ = some _ := hr
       obtain rfl := Option.some.inj hr
       exact ⟨.inr rfl, [R 2], ⟨rfl, trivial⟩, h2, hF⟩
      ·have hr := cnd_f c31 hr
       refine HT.skip ?_
       obtain ⟨e32, hr⟩ := ck_some hr
       refine HT.text (l := ⟨_, true, .raw (.int .i64 y18)⟩ :: ⟨_, true, .raw (.int .i64 (y18 + (1 : Int)))⟩ :: ⟨_, true, .raw (.int .i64 (y18 + (1 : Int)))⟩ :: []) (tl := []) (by kernel_rfl) (by kernel_rfl) (by kernel_rfl) ?_ ?_
       ·exact
         Obls.p (fun R' w' hw hs hd => of_move ((hs 4 rfl).trans h4)) <|
         Obls.p (fun R' w' hw hs hd => by have a0 : R' 39 = .int .i64 y18 := hd.g 0 rfl; exact of_add a0 rfl e32) <|
         Obls.p (fun R' w' hw hs hd => by have a0 : R' 40 = .int .i64 (y18 + (1 : Int)) := hd.g 0 rfl; exact of_assign a0) <|
         Obls.nil
       intro R w hw hs hF'
       replace h0 := (hs 0 rfl).trans h0
       replace h3 := (hs 3 rfl).trans h3
       have h4 : R 4 = .int .i64 (y18 + (1 : Int)) := hF' 2 _ _ rfl rfl rfl
       replace f_v0 := f_v0.fr hw
       replace hA := hA.fr hw.size
       replace hF := hF.trans hw
       clear hs hF' hw
       refine seqR_nil ?_
       exact Exists.intro k (And.intro (Nat.lt_succ_self k) ⟨_, hr, hA, hF, h0, h3, h4, f_v0⟩)
     ·have hr := cnd_f c20 hr
      refine HT.exit ?_
      obtain rfl := Option.some.inj hr
      exact Exists.intro _ ⟨rfl, hA, hF, h0, h3, f_v0⟩
    rintro R w ⟨s17, rfl, hA, hF, h0, h3, f_v0⟩
    have hr := exM_go hr
    obtain ⟨e33, hr⟩ := ck_some hr
    refine HT.text (l := ⟨_, true, .raw (.int .i64 y4)⟩ :: ⟨_, true, .raw (.int .i64 (y4 + (1 : Int)))⟩ :: ⟨_, true, .raw (.int .i64 (y4 + (1 : Int)))⟩ :: []) (tl := []) (by kernel_rfl) (by kernel_rfl) (by kernel_rfl) ?_ ?_
    ·exact
      Obls.p (fun R' w' hw hs hd => of_move ((hs 3 rfl).trans h3)) <|
      Obls.p (fun R' w' hw hs hd => by have a0 : R' 9 = .int .i64 y4 := hd.g 0 rfl; exact of_add a0 rfl e33) <|
      Obls.p (fun R' w' hw hs hd => by have a0 : R' 10 = .int .i64 (y4 + (1 : Int)) := hd.g 0 rfl; exact of_assign a0) <|
      Obls.nil
    intro R w hw hs hF'
    replace h0 := (hs 0 rfl).trans h0
    have h3 : R 3 = .int .i64 (y4 + (1 : Int)) := hF' 2 _ _ rfl rfl rfl
    replace f_v0 := f_v0.fr hw
    replace hA := hA.fr hw.size
    replace hF := hF.trans hw
    clear hs hF' hw
    refine seqR_nil ?_
    exact Exists.intro k (And.intro (Nat.lt_succ_self k) ⟨_, hr, hA, hF, h0, h3, f_v0⟩)
  ·have hr := cnd_f c5 hr
   refine HT.exit ?_
   obtain rfl := Option.some.inj hr
   exact Exists.intro _ ⟨rfl, hA, hF⟩
 rintro R w ⟨s3, rfl, hA, hF⟩
 have hr := exM_go hr
 refine HT.seq ?_
 refine HT.text (l := ⟨_, true, .raw (.bool true)⟩ :: []) (tl := []) (by kernel_rfl) (by kernel_rfl) (by kernel_rfl) ?_ ?_
 ·exact
   Obls.p (fun R' w' hw hs hd => of_assign rfl) <|
   Obls.nil
 intro R w hw hs hF'
 have h2 : R 2 = .bool true := hF' 0 _ _ rfl rfl rfl
 replace hA := hA.fr hw.size
 replace hF := hF.trans hw
 clear hs hF' hw
 refine seqR_nil ?_
 refine HT.ret ?_
 obtain rfl := Option.some.inj hr
 exact ⟨.inr rfl, [R 2], ⟨rfl, trivial⟩, h2, hF⟩
def M_spec_TokenFrequency_L0 (fu : Nat) (p0 : List T_impl_TokenCount) (p1 : List UInt8) : Nat → Int → Option (Ex Int Unit)
 | 0, _ => none
 | k + 1, y4 =>
  bif (decide (y4 < (p0.length : Int))) then (
   ck (inR y4 p0.length) <|
   bif (((gtD p0 y4).1) == p1) then (
    ck (inR y4 p0.length) <|
    some (Ex.ret ((gtD p0 y4).2))
   ) else (
    ck (i64B (y4 + (1 : Int))) <|
    M_spec_TokenFrequency_L0 fu p0 p1 k (y4 + (1 : Int))
   )
  ) else (
   some (Ex.go ())
  )
def M_spec_TokenFrequency (fu : Nat) (p0 : List T_impl_TokenCount) (p1 : List UInt8) : Option Int :=
 cl true (M_spec_TokenFrequency_L0 fu p0 p1 fu (0 : Int)) fun rl1 =>
 exM rl1 (fun r => some r) fun s3 =>
 some (0 : Int)
theorem M_spec_TokenFrequency_ok {fu : Nat} {A : Av} {p0 : List T_impl_TokenCount} {p1 : List UInt8} {r : Int} (hr : M_spec_TokenFrequency fu p0 p1 = some r) {w : World} {v0 : Value} {v1 : Value} (hA : AvOK A w) (h0 : Rep (eSl E_impl_TokenCount) A w v0 p0) (h1 : Rep eStr A w v1 p1) :
  Calls Tryz.prog 87 #[v0, v1] w fun e w' => ∃ v, e = .returned v ∧ (v = .int .i64 r ∧ Fr w w') := by
 unfold M_spec_TokenFrequency at hr
 obtain ⟨w0, hw0⟩ : ∃ w0, w0 = w := ⟨_, rfl⟩
 have hF : Fr w0 w := hw0 ▸ Fr.refl _
 rw [show Fr w = Fr w0 from hw0 ▸ rfl]
 clear hw0
 refine calls_of_HT2 [.tmp 4] Tryz.func87 Tryz.ntmps87 (by decide) rfl rfl (Nat.le_of_ble_eq_true rfl) ?_
 intro R hR
 have f_v0 := h0
 replace h0 : R 0 = v0 := hR 0 _ rfl
 have f_v1 := h1
 replace h1 : R 1 = v1 := hR 1 _ rfl
 clear hR
 refine HT.seq ?_
 refine HT.text (l := ⟨_, true, .raw (.int .i64 (0 : Int))⟩ :: []) (tl := []) (by kernel_rfl) (by kernel_rfl) (by kernel_rfl) ?_ ?_
 ·exact
   Obls.p (fun R' w' hw hs hd => of_assign rfl) <|
   Obls.nil
 intro R w hw hs hF'
 replace h0 := (hs 0 rfl).trans h0
 replace h1 := (hs 1 rfl).trans h1
 replace f_v0 := f_v0.fr hw
 replace f_v1 := f_v1.fr hw
 replace hA := hA.fr hw.size
 replace hF := hF.trans hw
 clear hs hF' hw
 refine seqR_nil ?_
 refine HT.seq ?_
 refine HT.seq ?_
 refine HT.text (l := ⟨_, true, .raw (.int .i64 (0 : Int))⟩ :: []) (tl := []) (by kernel_rfl) (by kernel_rfl) (by kernel_rfl) ?_ ?_
 ·exact
   Obls.p (fun R' w' hw hs hd => of_assign rfl) <|
   Obls.nil
 intro R w hw hs hF'
 replace h0 := (hs 0 rfl).trans h0
 replace h1 := (hs 1 rfl).trans h1
 have h5 : R 5 = .int .i64 (0 : Int) := hF' 0 _ _ rfl rfl rfl
 replace f_v0 := f_v0.fr hw
 replace f_v1 := f_v1.fr hw
 replace hA := hA.fr hw.size
 replace hF := hF.trans hw
 clear hs hF' hw
 refine seqR_nil ?_
 obtain ⟨rl1, q2, hr⟩ := cl_some hr
 replace q2 := q2 rfl
 refine HT.cut0 (fun R w => ∃ (s3 : Unit), rl1 = Ex.go s3 ∧ AvOK A w ∧ Fr w0 w) ?_ ?_
 ·refine HT.block ?_
  refine HT.loop (fun k R w => ∃ (y4 : Int), M_spec_TokenFrequency_L0 fu p0 p1 k y4 = some rl1 ∧ AvOK A w ∧ Fr w0 w ∧ R 0 = v0 ∧ R 1 = v1 ∧ R 5 = .int .i64 y4 ∧ Rep (eSl E_impl_TokenCount) A w v0 p0 ∧ Rep eStr A w v1 p1) fu ⟨_, q2, hA, hF, h0, h1, h5, f_v0, f_v1⟩ ?_
  have hr0 := hr; clear hr q2
  rintro k R w ⟨y4, hr, hA, hF, h0, h1, h5, f_v0, f_v1⟩
  rcases k with _ | k
  ·cases (show none = some _ from hr)
  rw [M_spec_TokenFrequency_L0] at hr
  refine HT.seq ?_
  refine HT.seq ?_
  refine HT.text (l := ⟨_, true, .raw (.int .i64 y4)⟩ :: ⟨_, true, .raw v0⟩ :: ⟨_, true, .raw (.int .i64 (p0.length : Int))⟩ :: ⟨_, true, .raw (.bool (decide (y4 < (p0.length : Int))))⟩ :: []) (tl := []) (by kernel_rfl) (by kernel_rfl) (by kernel_rfl) ?_ ?_
  ·exact
    Obls.p (fun R' w' hw hs hd => of_move ((hs 5 rfl).trans h5)) <|
    Obls.p (fun R' w' hw hs hd => of_move ((hs 0 rfl).trans h0)) <|
    Obls.p (fun R' w' hw hs hd => by have a0 : R' 7 = v0 := hd.g 0 rfl; have ra0 := (f_v0.fr hw).eq a0; exact of_len_sl (aT := #[]) ra0 Tryz.underlying24) <|
    Obls.p (fun R' w' hw hs hd => by have a0 : R' 6 = .int .i64 y4 := hd.g 0 rfl; have a1 : R' 8 = .int .i64 (p0.length : Int) := hd.g 1 rfl; exact of_lss a0 a1) <|
    Obls.nil
  intro R w hw hs hF'
  replace h0 := (hs 0 rfl).trans h0
  replace h1 := (hs 1 rfl).trans h1
  replace h5 := (hs 5 rfl).trans h5
  have h9 : R 9 = .bool (decide (y4 < (p0.length : Int))) := hF' 3 _ _ rfl rfl rfl
  replace f_v0 := f_v0.fr hw
  replace f_v1 := f_v1.fr hw
  replace hA := hA.fr hw.size
  replace hF := hF.trans hw
  clear hs hF' hw
  refine seqR_nil ?_
  refine HT.cond (decide (y4 < (p0.length : Int))) h9 (fun c5 => ?_) (fun c5 => ?_)
  ·have hr := cnd_t c5 hr
   refine HT.skip ?_
   refine HT.seq ?_
   refine HT.block ?_
   refine HT.seq ?_
   obtain ⟨e6, hr⟩ := ck_some hr
   refine HT.text (l := ⟨_, true, .raw v0⟩ :: ⟨_, true, .raw (.int .i64 y4)⟩ :: ⟨_, true, .qtr E_impl_TokenCount A (gtD p0 y4)⟩ :: ⟨_, true, .qtr eStr A ((gtD p0 y4).1)⟩ :: ⟨_, true, .rep eStr A ((gtD p0 y4).1)⟩ :: ⟨_, true, .raw v1⟩ :: ⟨_, true, .raw (.bool (((gtD p0 y4).1) == p1))⟩ :: []) (tl := []) (by kernel_rfl) (by kernel_rfl) (by kernel_rfl) ?_ ?_
   ·exact
     Obls.p (fun R' w' hw hs hd => of_move ((hs 0 rfl).trans h0)) <|
     Obls.p (fun R' w' hw hs hd => of_move ((hs 5 rfl).trans h5)) <|
     Obls.p (fun R' w' hw hs hd => by have a0 : R' 12 = v0 := hd.g 0 rfl; have a1 : R' 13 = .int .i64 y4 := hd.g 1 rfl; have ra0 := (f_v0.fr hw).eq a0; exact of_indexAddr ra0 a1 Tryz.underlying24 Tryz.sizeOf91 e6) <|
     Obls.p (fun R' w' hw hs hd => by have a0 : QRep E_impl_TokenCount A w' (R' 14) (gtD p0 y4) := hd.g 0 rfl; exact of_fieldAddr_q a0 ff_91_0 Tryz.sizeOf9 (by decide) fl_impl_TokenCount_0 rfl) <|
     Obls.p (fun R' w' hw hs hd => by have a0 : QRep eStr A w' (R' 15) ((gtD p0 y4).1) := hd.g 0 rfl; exact (of_load a0.ptr Tryz.isAgg9 Tryz.sizeOf9)) <|
     Obls.p (fun R' w' hw hs hd => of_move ((hs 1 rfl).trans h1)) <|
     Obls.p (fun R' w' hw hs hd => by have a0 : Rep eStr A w' (R' 16) ((gtD p0 y4).1) := hd.g 0 rfl; have a1 : R' 17 = v1 := hd.g 1 rfl; have ra1 := (f_v1.fr hw).eq a1; exact of_seql a0 ra1) <|
     Obls.nil
   intro R w hw hs hF'
   replace h0 := (hs 0 rfl).trans h0
   replace h1 := (hs 1 rfl).trans h1
   replace h5 := (hs 5 rfl).trans h5
   have h18 : R 18 = .bool (((gtD p0 y4).1) == p1) := hF' 6 _ _ rfl rfl rfl
   replace f_v0 := f_v0.fr hw
   replace f_v1 := f_v1.fr hw
   replace hA := hA.fr hw.size
   replace hF := hF.trans hw
   clear hs hF' hw
   refine seqR_nil ?_
   refine HT.cond (((gtD p0 y4).1) == p1) h18 (fun c7 => ?_) (fun c7 => ?_)
   ·have hr := cnd_t c7 hr
    refine HT.seq ?_
    obtain ⟨e8, hr⟩ := ck_some hr
    refine HT.text (l := ⟨_, true, .raw v0⟩ :: ⟨_, true, .raw (.int .i64 y4)⟩ :: ⟨_, true, .qtr E_impl_TokenCount A (gtD p0 y4)⟩ :: ⟨_, true, .qtr (eInt .i64) A ((gtD p0 y4).2)⟩ :: ⟨_, true, .raw (.int .i64 ((gtD p0 y4).2))⟩ :: ⟨_, true, .raw (.int .i64 ((gtD p0 y4).2))⟩ :: []) (tl := []) (by kernel_rfl) (by kernel_rfl) (by kernel_rfl) ?_ ?_
    ·exact
      Obls.p (fun R' w' hw hs hd => of_move ((hs 0 rfl).trans h0)) <|
      Obls.p (fun R' w' hw hs hd => of_move ((hs 5 rfl).trans h5)) <|
      Obls.p (fun R' w' hw hs hd => by have a0 : R' 19 = v0 := hd.g 0 rfl; have a1 : R' 20 = .int .i64 y4 := hd.g 1 rfl; have ra0 := (f_v0.fr hw).eq a0; exact of_indexAddr ra0 a1 Tryz.underlying24 Tryz.sizeOf91 e8) <|
      Obls.p (fun R' w' hw hs hd => by have a0 : QRep E_impl_TokenCount A w' (R' 21) (gtD p0 y4) := hd.g 0 rfl; exact of_fieldAddr_q a0 ff_91_1 Tryz.sizeOf3 (by decide) fl_impl_TokenCount_1 rfl) <|
      Obls.p (fun R' w' hw hs hd => by have a0 : QRep (eInt .i64) A w' (R' 22) ((gtD p0 y4).2) := hd.g 0 rfl; exact OpF.int (of_load a0.ptr Tryz.isAgg3 Tryz.sizeOf3)) <|
      Obls.p (fun R' w' hw hs hd => by have a0 : R' 23 = .int .i64 ((gtD p0 y4).2) := hd.g 0 rfl; exact of_assign a0) <|
      Obls.nil
    intro R w hw hs hF'
    have h4 : R 4 = .int .i64 ((gtD p0 y4).2) := hF' 5 _ _ rfl rfl rfl
    replace hA := hA.fr hw.size
    replace hF := hF.trans hw
    clear hs hF' hw
    refine seqR_nil ?_
    refine HT.ret ?_
    obtain rfl := Option.some.inj hr
    have hr := hr0
    replace hr : some _ = some _ := hr
    obtain rfl := Option.some.inj hr
    exact ⟨.inr rfl, [R 4], ⟨rfl, trivial⟩, h4, hF⟩
   ·have hr := cnd_f c7 hr
    refine HT.skip ?_
    obtain ⟨e9, hr⟩ := ck_some hr
    refine HT.text (l := ⟨_, true, .raw (.int .i64 y4)⟩ :: ⟨_, true, .raw (.int .i64 (y4 + (1 : Int)))⟩ :: ⟨_, true, .raw (.int .i64 (y4 + (1 : Int)))⟩ :: []) (tl := []) (by kernel_rfl) (by kernel_rfl) (by kernel_rfl) ?_ ?_
    ·exact
      Obls.p (fun R' w' hw hs hd => of_move ((hs 5 rfl).trans h5)) <|
      Obls.p (fun R' w' hw hs hd => by have a0 : R' 10 = .int .i64 y4 := hd.g 0 rfl; exact of_add a0 rfl e9) <|
      Obls.p (fun R' w' hw hs hd => by have a0 : R' 11 = .int .i64 (y4 + (1 : Int)) := hd.g 0 rfl; exact of_assign a0) <|
      Obls.nil
    intro R w hw hs hF'
    replace h0 := (hs 0 rfl).trans h0
    replace h1 := (hs 1 rfl).trans h1
    have h5 : R 5 = .int .i64 (y4 + (1 : Int)) := hF' 2 _ _ rfl rfl rfl
    replace f_v0 := f_v0.fr hw
    replace f_v1 := f_v1.fr hw
    replace hA := hA.fr hw.size
    replace hF := hF.trans hw
    clear hs hF' hw
    refine seqR_nil ?_
    exact Exists.intro k (And.intro (Nat.lt_succ_self k) ⟨_, hr, hA, hF, h0, h1, h5, f_v0, f_v1⟩)
  ·have hr := cnd_f c5 hr
   refine HT.exit ?_
   obtain rfl := Option.some.inj hr
   exact Exists.intro _ ⟨rfl, hA, hF⟩
 rintro R w ⟨s3, rfl, hA, hF⟩
 have hr := exM_go hr
 refine HT.seq ?_
 refine HT.text (l := ⟨_, true, .raw (.int .i64 (0 : Int))⟩ :: []) (tl := []) (by kernel_rfl) (by kernel_rfl) (by kernel_rfl) ?_ ?_
 ·exact
   Obls.p (fun R' w' hw hs hd => of_assign rfl) <|
   Obls.nil
 intro R w hw hs hF'
 have h4 : R 4 = .int .i64 (0 : Int) := hF' 0 _ _ rfl rfl rfl
 replace hA := hA.fr hw.size
 replace hF := hF.trans hw
 clear hs hF' hw
 refine seqR_nil ?_
 refine HT.ret ?_
 obtain rfl := Option.some.inj hr
 exact ⟨.inr rfl, [R 4], ⟨rfl, trivial⟩, h4, hF⟩
def M_spec_OrderTokens_L1 (fu : Nat) (p0 : List T_impl_TokenCount) (p1 : List (List UInt8)) (y5 : Int) (y6 : List (List UInt8)) (x9 : Int) : Nat → Int → Option Int
 | 0, _ => none
 | k + 1, y14 =>
  ck (!(true && ((decide ((0 : Int) < y14)) == true)) || i64B (y14 - (1 : Int))) <|
  ck (!(true && ((decide ((0 : Int) < y14)) == true)) || inR (y14 - (1 : Int)) y6.length) <|
  cl (true && ((decide ((0 : Int) < y14)) == true)) (M_spec_TokenFrequency fu p0 (gtD y6 (y14 - (1 : Int)))) fun x17 =>
  ck (!((true && ((decide ((0 : Int) < y14)) == true)) && ((decide (x9 < x17)) == false)) || i64B (y14 - (1 : Int))) <|
  ck (!((true && ((decide ((0 : Int) < y14)) == true)) && ((decide (x9 < x17)) == false)) || inR (y14 - (1 : Int)) y6.length) <|
  cl ((true && ((decide ((0 : Int) < y14)) == true)) && ((decide (x9 < x17)) == false)) (M_spec_TokenFrequency fu p0 (gtD y6 (y14 - (1 : Int)))) fun x21 =>
  ck (!(((true && ((decide ((0 : Int) < y14)) == true)) && ((decide (x9 < x17)) == false)) && ((x21 == x9) == true)) || i64B (y14 - (1 : Int))) <|
  ck (!(((true && ((decide ((0 : Int) < y14)) == true)) && ((decide (x9 < x17)) == false)) && ((x21 == x9) == true)) || inR (y14 - (1 : Int)) y6.length) <|
  ck (!(((true && ((decide ((0 : Int) < y14)) == true)) && ((decide (x9 < x17)) == false)) && ((x21 == x9) == true)) || inR y5 p1.length) <|
  bd ((x21 == x9) && (!(bLt (gtD y6 (y14 - (1 : Int))) (gtD p1 y5) || (gtD y6 (y14 - (1 : Int))) == (gtD p1 y5)))) fun x26 =>
  bd ((decide (x9 < x17)) || x26) fun x28 =>
  bd ((decide ((0 : Int) < y14)) && x28) fun x30 =>
  bif x30 then (
   ck (i64B (y14 - (1 : Int))) <|
   M_spec_OrderTokens_L1 fu p0 p1 y5 y6 x9 k (y14 - (1 : Int))
  ) else (
   some y14
  )
def M_spec_OrderTokens_L0 (fu : Nat) (p0 : List T_impl_TokenCount) (p1 : List (List UInt8)) : Nat → Int → (List (List UInt8)) → Option (List (List UInt8))
 | 0, _, _ => none
 | k + 1, y5, y6 =>
  bif (decide (y5 < (p1.length : Int))) then (
   ck (inR y5 p1.length) <|
   cl true (M_spec_TokenFrequency fu p0 (gtD p1 y5)) fun x9 =>
   cl true (M_spec_OrderTokens_L1 fu p0 p1 y5 y6 x9 fu (y6.length : Int)) fun s13 =>
   ck (subR 0 s13 y6.length) <|
   bd (s13.toNat - (0 : Int).toNat) fun x35 =>
   ck (lenOK (([] : List (List UInt8)).length + (subL y6 0 s13).length)) <|
   ck (inR y5 p1.length) <|
   ck (lenOK ((([] : List (List UInt8)) ++ (subL y6 0 s13)).length + ([(gtD p1 y5)] : List (List UInt8)).length)) <|
   ck (subR s13 (y6.length : Int) y6.length) <|
   bd ((y6.length : Int).toNat - s13.toNat) fun x41 =>
   ck (lenOK (((([] : List (List UInt8)) ++ (subL y6 0 s13)) ++ ([(gtD p1 y5)] : List (List UInt8))).length + (subL y6 s13 (y6.length : Int)).length)) <|
   ck (i64B (y5 + (1 : Int))) <|
   M_spec_OrderTokens_L0 fu p0 p1 k (y5 + (1 : Int)) (((([] : List (List UInt8)) ++ (subL y6 0 s13)) ++ ([(gtD p1 y5)] : List (List UInt8))) ++ (subL y6 s13 (y6.length : Int)))
  ) else (
   some y6
  )
def M_spec_OrderTokens (fu : Nat) (p0 : List T_impl_TokenCount) (p1 : List (List UInt8)) : Option (List (List UInt8)) :=
 cl true (M_spec_OrderTokens_L0 fu p0 p1 fu (0 : Int) ([] : List (List UInt8))) fun s4 =>
 some s4
theorem M_spec_OrderTokens_ok {fu : Nat} {A0 : Av} {p0 : List T_impl_TokenCount} {p1 : List (List UInt8)} {r : List (List UInt8)} (hr : M_spec_OrderTokens fu p0 p1 = some r) {w : World} {v0 : Value} {v1 : Value} (hA : AvOK A0 w) (h0 : Rep (eSl E_impl_TokenCount) A0 w v0 p0) (h1 : Rep (eSl eStr) A0 w v1 p1) :
  Calls Tryz.prog 44 #[v0, v1] w fun e w' => ∃ v, e = .returned v ∧ ((Res.vec w.heap.size 9 eStr r).ok (addA A0 v) v w' ∧ Fr w w') := by
 unfold M_spec_OrderTokens at hr
 obtain ⟨w0, hw0⟩ : ∃ w0, w0 = w := ⟨_, rfl⟩
 have hF : Fr w0 w := hw0 ▸ Fr.refl _
 have hA0 : ∀ b o, A0 b o → b < w0.heap.size := fun b o h => hw0 ▸ hA b o h
 have hA00 : AvOK A0 w0 := hA0
 rw [show w.heap.size = w0.heap.size from hw0 ▸ rfl]
 rw [show Fr w = Fr w0 from hw0 ▸ rfl]
 clear hw0
 obtain ⟨A, hAe⟩ : ∃ A, A = A0 := ⟨_, rfl⟩
 have hAA : ∀ b o, A0 b o → A b o := fun b o h => hAe ▸ h
 replace hA : AvOK A w := hAe ▸ hA
 have hO : IniOK [] A w := IniOK.nil
 refine calls_of_HT2 [.tmp 4] Tryz.func44 Tryz.ntmps44 (by decide) rfl rfl (Nat.le_of_ble_eq_true rfl) ?_
 intro R hR
 have f_v0 : Rep (eSl E_impl_TokenCount) A w v0 p0 := hAe ▸ h0
 replace h0 : R 0 = v0 := hR 0 _ rfl
 have f_v1 : Rep (eSl eStr) A w v1 p1 := hAe ▸ h1
 replace h1 : R 1 = v1 := hR 1 _ rfl
 clear hR hAe
 refine HT.seq ?_
 refine HT.text (l := ⟨_, true, .any⟩ :: []) (tl := []) (by kernel_rfl) (by kernel_rfl) (by kernel_rfl) ?_ ?_
 ·exact
   Obls.p (fun R' w' hw hs hd => of_assign trivial) <|
   Obls.nil
 intro R w hw hs hF'
 replace h0 := (hs 0 rfl).trans h0
 replace h1 := (hs 1 rfl).trans h1
 replace f_v0 := f_v0.fr hw
 replace f_v1 := f_v1.fr hw
 replace hO := hO.fr hw
 replace hA := hA.fr hw.size
 replace hF := hF.trans hw
 clear hs hF' hw
 refine seqR_nil ?_
 refine HT.seq ?_
 refine HT.textR [] (⟨_, true, [], some (.vec w0.heap.size 9 eStr ([] : List (List UInt8))), true, fun A => .any⟩ :: ⟨_, true, [0], some (.vec w0.heap.size 9 eStr ([] : List (List UInt8))), true, fun A => .any⟩ :: []) (by kernel_rfl) (by kernel_rfl) (Wf.mk' (by kernel_rfl) (UAll.cons ust_any (UAll.cons ust_any (UAll.nil))) (by kernel_rfl) (by kernel_rfl)) hO hA ?_ ?_
 ·exact
   OblsR.cons (OblR.made _ rfl rfl rfl rfl fun A' R' w' ho hd => by exact made_build [] (E := eStr) trivial Tryz.underlying25 Tryz.sizeOf9 Tryz.zeroValue9 rfl rfl rfl (Nat.le_trans hF.size ho.ch.size)) <|
   OblsR.cons (OblR.took 0 _ _ rfl rfl rfl rfl rfl fun A' R' w' ho hd u hok hav hin hop hds => by exact took_assign (hop _ _ rfl rfl rfl rfl).symm hok hav) <|
   OblsR.nil
 intro done ρ σ A R w hdn hI
 replace h0 : R 0 = v0 := (hI.reg rfl).trans h0
 replace h1 : R 1 = v1 := (hI.reg rfl).trans h1
 obtain ⟨u1, e_u1⟩ : ∃ u, ρ 1 = u := ⟨_, rfl⟩
 have h5 : R 5 = u1 := (hI.opvR hdn 1 1 rfl rfl rfl rfl rfl).symm.trans e_u1
 replace f_v0 := f_v0.stp hI.stp
 replace f_v1 := f_v1.stp hI.stp
 replace hAA := hI.low' hAA hA0 (hO.ge (trivial))
 replace hF : Fr w0 w := hF.tr hI.ch (hO.ge (trivial))
 replace hO : IniOK [ob u1 (.vec w0.heap.size 9 eStr ([] : List (List UInt8)))] A w := hI.left hdn [(1, ob u1 (.vec w0.heap.size 9 eStr ([] : List (List UInt8))))] ⟨rfl, rfl, e_u1, rfl, rfl, trivial⟩
 replace hA := hI.avok
 clear hI
 refine HT.seq ?_
 refine HT.seq ?_
 refine HT.text (l := ⟨_, true, .raw (.int .i64 (0 : Int))⟩ :: []) (tl := []) (by kernel_rfl) (by kernel_rfl) (by kernel_rfl) ?_ ?_
 ·exact
   Obls.p (fun R' w' hw hs hd => of_assign rfl) <|
   Obls.nil
 intro R w hw hs hF'
 replace h0 := (hs 0 rfl).trans h0
 replace h1 := (hs 1 rfl).trans h1
 replace h5 := (hs 5 rfl).trans h5
 have h6 : R 6 = .int .i64 (0 : Int) := hF' 0 _ _ rfl rfl rfl
 replace f_v0 := f_v0.fr hw
 replace f_v1 := f_v1.fr hw
 replace hO := hO.fr hw
 replace hA := hA.fr hw.size
 replace hF := hF.trans hw
 clear hs hF' hw
 refine seqR_nil ?_
 obtain ⟨rl2, q3, hr⟩ := cl_some hr
 replace q3 := q3 rfl
 refine HT.cut0 (fun R w => ∃ A : Av, ∃ (s4 : (List (List UInt8))) (uo_u1 : Value), rl2 = s4 ∧ AvOK A w ∧ Fr w0 w ∧ (∀ b o, A0 b o → A b o) ∧ IniOK [ob uo_u1 (.vec w0.heap.size 9 eStr s4)] A w ∧ R 5 = uo_u1) ?_ ?_
 ·refine HT.block ?_
  refine HT.loop (fun k R w => ∃ A : Av, ∃ (y5 : Int) (y6 : List (List UInt8)) (ul_u1 : Value), M_spec_OrderTokens_L0 fu p0 p1 k y5 y6 = some rl2 ∧ AvOK A w ∧ Fr w0 w ∧ (∀ b o, A0 b o → A b o) ∧ IniOK [ob ul_u1 (.vec w0.heap.size 9 eStr y6)] A w ∧ R 0 = v0 ∧ R 1 = v1 ∧ R 5 = ul_u1 ∧ R 6 = .int .i64 y5 ∧ Rep (eSl E_impl_TokenCount) A w v0 p0 ∧ Rep (eSl eStr) A w v1 p1) fu ⟨_, _, _, u1, q3, hA, hF, hAA, hO, h0, h1, h5, h6, f_v0, f_v1⟩ ?_
  have hr0 := hr; clear hr q3
  rintro k R w ⟨A, y5, y6, ul_u1, hr, hA, hF, hAA, hO, h0, h1, h5, h6, f_v0, f_v1⟩
  rcases k with _ | k
  ·cases (show none = some _ from hr)
  rw [M_spec_OrderTokens_L0] at hr
  refine HT.seq ?_
  refine HT.seq ?_
  refine HT.text (l := ⟨_, true, .raw (.int .i64 y5)⟩ :: ⟨_, true, .raw v1⟩ :: ⟨_, true, .raw (.int .i64 (p1.length : Int))⟩ :: ⟨_, true, .raw (.bool (decide (y5 < (p1.length : Int))))⟩ :: []) (tl := []) (by kernel_rfl) (by kernel_rfl) (by kernel_rfl) ?_ ?_
  ·exact
    Obls.p (fun R' w' hw hs hd => of_move ((hs 6 rfl).trans h6)) <|
    Obls.p (fun R' w' hw hs hd => of_move ((hs 1 rfl).trans h1)) <|
    Obls.p (fun R' w' hw hs hd => by have a0 : R' 11 = v1 := hd.g 0 rfl; have ra0 := (f_v1.fr hw).eq a0; exact of_len_sl (aT := #[]) ra0 Tryz.underlying25) <|
    Obls.p (fun R' w' hw hs hd => by have a0 : R' 10 = .int .i64 y5 := hd.g 0 rfl; have a1 : R' 12 = .int .i64 (p1.length : Int) := hd.g 1 rfl; exact of_lss a0 a1) <|
    Obls.nil
  intro R w hw hs hF'
  replace h0 := (hs 0 rfl).trans h0
  replace h1 := (hs 1 rfl).trans h1
  replace h5 := (hs 5 rfl).trans h5
  replace h6 := (hs 6 rfl).trans h6
  have h13 : R 13 = .bool (decide (y5 < (p1.length : Int))) := hF' 3 _ _ rfl rfl rfl
  replace f_v0 := f_v0.fr hw
  replace f_v1 := f_v1.fr hw
  replace hO := hO.fr hw
  replace hA := hA.fr hw.size
  replace hF := hF.trans hw
  clear hs hF' hw
  refine seqR_nil ?_
  refine HT.cond (decide (y5 < (p1.length : Int))) h13 (fun c7 => ?_) (fun c7 => ?_)
  ·have hr := cnd_t c7 hr
   refine HT.skip ?_
   refine HT.seq ?_
   refine HT.block ?_
   refine HT.seq ?_
   obtain ⟨e8, hr⟩ := ck_some hr
   obtain ⟨x9, q10, hr⟩ := cl_some hr
   refine HT.text (l := ⟨_, true, .raw v0⟩ :: ⟨_, true, .raw v1⟩ :: ⟨_, true, .raw (.int .i64 y5)⟩ :: ⟨_, true, .qtr eStr A (gtD p1 y5)⟩ :: ⟨_, true, .rep eStr A (gtD p1 y5)⟩ :: ⟨_, true, .raw (.int .i64 x9)⟩ :: ⟨_, true, .raw (.int .i64 x9)⟩ :: []) (tl := []) (by kernel_rfl) (by kernel_rfl) (by kernel_rfl) ?_ ?_
   ·exact
     Obls.p (fun R' w' hw hs hd => of_move ((hs 0 rfl).trans h0)) <|
     Obls.p (fun R' w' hw hs hd => of_move ((hs 1 rfl).trans h1)) <|
     Obls.p (fun R' w' hw hs hd => of_move ((hs 6 rfl).trans h6)) <|
     Obls.p (fun R' w' hw hs hd => by have a0 : R' 17 = v1 := hd.g 0 rfl; have a1 : R' 18 = .int .i64 y5 := hd.g 1 rfl; have ra0 := (f_v1.fr hw).eq a0; exact of_indexAddr ra0 a1 Tryz.underlying25 Tryz.sizeOf9 e8) <|
     Obls.p (fun R' w' hw hs hd => by have a0 : QRep eStr A w' (R' 19) (gtD p1 y5) := hd.g 0 rfl; exact (of_load a0.ptr Tryz.isAgg9 Tryz.sizeOf9)) <|
     Obls.p (fun R' w' hw hs hd => by have a0 : R' 16 = v0 := hd.g 0 rfl; have ra0 := (f_v0.fr hw).eq a0; have a1 : Rep eStr A w' (R' 20) (gtD p1 y5) := hd.g 1 rfl; exact of_call Tryz.call87 (M_spec_TokenFrequency_ok (q10 rfl) (hA.fr hw.size) ra0 a1)) <|
     Obls.p (fun R' w' hw hs hd => by have a0 : R' 21 = .int .i64 x9 := hd.g 0 rfl; exact of_assign a0) <|
     Obls.nil
   intro R w hw hs hF'
   replace h0 := (hs 0 rfl).trans h0
   replace h1 := (hs 1 rfl).trans h1
   replace h5 := (hs 5 rfl).trans h5
   replace h6 := (hs 6 rfl).trans h6
   have h7 : R 7 = .int .i64 x9 := hF' 6 _ _ rfl rfl rfl
   replace f_v0 := f_v0.fr hw
   replace f_v1 := f_v1.fr hw
   replace hO := hO.fr hw
   replace hA := hA.fr hw.size
   replace hF := hF.trans hw
   clear hs hF' hw
   refine seqR_nil ?_
   refine HT.seq ?_
   refine HT.text (l := ⟨_, true, .raw ul_u1⟩ :: ⟨_, true, .raw (.int .i64 (y6.length : Int))⟩ :: ⟨_, true, .raw (.int .i64 (y6.length : Int))⟩ :: []) (tl := []) (by kernel_rfl) (by kernel_rfl) (by kernel_rfl) ?_ ?_
   ·exact
     Obls.p (fun R' w' hw hs hd => of_move ((hs 5 rfl).trans h5)) <|
     Obls.p (fun R' w' hw hs hd => by have a0 : R' 22 = ul_u1 := hd.g 0 rfl; exact of_len_vec (hO.ok 0 _ rfl).1 a0 Tryz.underlying25) <|
     Obls.p (fun R' w' hw hs hd => by have a0 : R' 23 = .int .i64 (y6.length : Int) := hd.g 0 rfl; exact of_assign a0) <|
     Obls.nil
   intro R w hw hs hF'
   replace h0 := (hs 0 rfl).trans h0
   replace h1 := (hs 1 rfl).trans h1
   replace h5 := (hs 5 rfl).trans h5
   replace h6 := (hs 6 rfl).trans h6
   replace h7 := (hs 7 rfl).trans h7
   have h8 : R 8 = .int .i64 (y6.length : Int) := hF' 2 _ _ rfl rfl rfl
   replace f_v0 := f_v0.fr hw
   replace f_v1 := f_v1.fr hw
   replace hO := hO.fr hw
   replace hA := hA.fr hw.size
   replace hF := hF.trans hw
   clear hs hF' hw
   refine seqR_nil ?_
   obtain ⟨rl11, q12, hr⟩ := cl_some hr
   replace q12 := q12 rfl
   refine HT.cut (fun R w => ∃ A : Av, ∃ (s13 : Int), rl11 = s13 ∧ AvOK A w ∧ Fr w0 w ∧ (∀ b o, A0 b o → A b o) ∧ IniOK [ob ul_u1 (.vec w0.heap.size 9 eStr y6)] A w ∧ R 0 = v0 ∧ R 1 = v1 ∧ R 5 = ul_u1 ∧ R 6 = .int .i64 y5 ∧ R 8 = .int .i64 s13 ∧ Rep (eSl E_impl_TokenCount) A w v0 p0 ∧ Rep (eSl eStr) A w v1 p1) ?_ ?_
   ·refine HT.block ?_
    refine HT.loop (fun k R w => ∃ A : Av, ∃ (y14 : Int), M_spec_OrderTokens_L1 fu p0 p1 y5 y6 x9 k y14 = some rl11 ∧ AvOK A w ∧ Fr w0 w ∧ (∀ b o, A0 b o → A b o) ∧ IniOK [ob ul_u1 (.vec w0.heap.size 9 eStr y6)] A w ∧ R 0 = v0 ∧ R 1 = v1 ∧ R 5 = ul_u1 ∧ R 6 = .int .i64 y5 ∧ R 7 = .int .i64 x9 ∧ R 8 = .int .i64 y14 ∧ Rep (eSl E_impl_TokenCount) A w v0 p0 ∧ Rep (eSl eStr) A w v1 p1) fu ⟨_, _, q12, hA, hF, hAA, hO, h0, h1, h5, h6, h7, h8, f_v0, f_v1⟩ ?_
    have hr0 := hr; clear hr q12
    rintro k R w ⟨A, y14, hr, hA, hF, hAA, hO, h0, h1, h5, h6, h7, h8, f_v0, f_v1⟩
    rcases k with _ | k
    ·cases (show none = some _ from hr)
    rw [M_spec_OrderTokens_L1] at hr
    refine HT.seq ?_
    refine HT.seq ?_
    obtain ⟨e15, hr⟩ := ck_some hr
    obtain ⟨e16, hr⟩ := ck_some hr
    obtain ⟨x17, q18, hr⟩ := cl_some hr
    obtain ⟨e19, hr⟩ := ck_some hr
    obtain ⟨e20, hr⟩ := ck_some hr
    obtain ⟨x21, q22, hr⟩ := cl_some hr
    obtain ⟨e23, hr⟩ := ck_some hr
    obtain ⟨e24, hr⟩ := ck_some hr
    obtain ⟨e25, hr⟩ := ck_some hr
    obtain ⟨x26, q27, hr⟩ := bd_some hr
    obtain ⟨x28, q29, hr⟩ := bd_some hr
    obtain ⟨x30, q31, hr⟩ := bd_some hr
    refine HT.draw (by kernel_rfl) (l := ⟨_, true, .raw (.int .i64 y14)⟩ :: ⟨_, true, .raw (.bool (decide ((0 : Int) < y14)))⟩ :: ⟨_, true, .raw (.bool (decide ((0 : Int) < y14)))⟩ :: ⟨_, (true && ((decide ((0 : Int) < y14)) == true)), .raw v0⟩ :: ⟨_, (true && ((decide ((0 : Int) < y14)) == true)), .raw ul_u1⟩ :: ⟨_, (true && ((decide ((0 : Int) < y14)) == true)), .raw (.int .i64 y14)⟩ :: ⟨_, (true && ((decide ((0 : Int) < y14)) == true)), .raw (.int .i64 (y14 - (1 : Int)))⟩ :: ⟨_, (true && ((decide ((0 : Int) < y14)) == true)), .raw (vptr ul_u1 ((y14 - (1 : Int)).toNat * 1))⟩ :: ⟨_, (true && ((decide ((0 : Int) < y14)) == true)), .rep eStr A (gtD y6 (y14 - (1 : Int)))⟩ :: ⟨_, (true && ((decide ((0 : Int) < y14)) == true)), .raw (.int .i64 x17)⟩ :: ⟨_, (true && ((decide ((0 : Int) < y14)) == true)), .raw (.int .i64 x9)⟩ :: ⟨_, (true && ((decide ((0 : Int) < y14)) == true)), .raw (.bool (decide (x9 < x17)))⟩ :: ⟨_, (true && ((decide ((0 : Int) < y14)) == true)), .raw (.bool (decide (x9 < x17)))⟩ :: ⟨_, ((true && ((decide ((0 : Int) < y14)) == true)) && ((decide (x9 < x17)) == false)), .raw v0⟩ :: ⟨_, ((true && ((decide ((0 : Int) < y14)) == true)) && ((decide (x9 < x17)) == false)), .raw ul_u1⟩ :: ⟨_, ((true && ((decide ((0 : Int) < y14)) == true)) && ((decide (x9 < x17)) == false)), .raw (.int .i64 y14)⟩ :: ⟨_, ((true && ((decide ((0 : Int) < y14)) == true)) && ((decide (x9 < x17)) == false)), .raw (.int .i64 (y14 - (1 : Int)))⟩ :: ⟨_, ((true && ((decide ((0 : Int) < y14)) == true)) && ((decide (x9 < x17)) == false)), .raw (vptr ul_u1 ((y14 - (1 : Int)).toNat * 1))⟩ :: ⟨_, ((true && ((decide ((0 : Int) < y14)) == true)) && ((decide (x9 < x17)) == false)), .rep eStr A (gtD y6 (y14 - (1 : Int)))⟩ :: ⟨_, ((true && ((decide ((0 : Int) < y14)) == true)) && ((decide (x9 < x17)) == false)), .raw (.int .i64 x21)⟩ :: ⟨_, ((true && ((decide ((0 : Int) < y14)) == true)) && ((decide (x9 < x17)) == false)), .raw (.int .i64 x9)⟩ :: ⟨_, ((true && ((decide ((0 : Int) < y14)) == true)) && ((decide (x9 < x17)) == false)), .raw (.bool (x21 == x9))⟩ :: ⟨_, ((true && ((decide ((0 : Int) < y14)) == true)) && ((decide (x9 < x17)) == false)), .raw (.bool (x21 == x9))⟩ :: ⟨_, (((true && ((decide ((0 : Int) < y14)) == true)) && ((decide (x9 < x17)) == false)) && ((x21 == x9) == true)), .raw ul_u1⟩ :: ⟨_, (((true && ((decide ((0 : Int) < y14)) == true)) && ((decide (x9 < x17)) == false)) && ((x21 == x9) == true)), .raw (.int .i64 y14)⟩ :: ⟨_, (((true && ((decide ((0 : Int) < y14)) == true)) && ((decide (x9 < x17)) == false)) && ((x21 == x9) == true)), .raw (.int .i64 (y14 - (1 : Int)))⟩ :: ⟨_, (((true && ((decide ((0 : Int) < y14)) == true)) && ((decide (x9 < x17)) == false)) && ((x21 == x9) == true)), .raw (vptr ul_u1 ((y14 - (1 : Int)).toNat * 1))⟩ :: ⟨_, (((true && ((decide ((0 : Int) < y14)) == true)) && ((decide (x9 < x17)) == false)) && ((x21 == x9) == true)), .rep eStr A (gtD y6 (y14 - (1 : Int)))⟩ :: ⟨_, (((true && ((decide ((0 : Int) < y14)) == true)) && ((decide (x9 < x17)) == false)) && ((x21 == x9) == true)), .raw v1⟩ :: ⟨_, (((true && ((decide ((0 : Int) < y14)) == true)) && ((decide (x9 < x17)) == false)) && ((x21 == x9) == true)), .raw (.int .i64 y5)⟩ :: ⟨_, (((true && ((decide ((0 : Int) < y14)) == true)) && ((decide (x9 < x17)) == false)) && ((x21 == x9) == true)), .qtr eStr A (gtD p1 y5)⟩ :: ⟨_, (((true && ((decide ((0 : Int) < y14)) == true)) && ((decide (x9 < x17)) == false)) && ((x21 == x9) == true)), .rep eStr A (gtD p1 y5)⟩ :: ⟨_, (((true && ((decide ((0 : Int) < y14)) == true)) && ((decide (x9 < x17)) == false)) && ((x21 == x9) == true)), .raw (.bool (!(bLt (gtD y6 (y14 - (1 : Int))) (gtD p1 y5) || (gtD y6 (y14 - (1 : Int))) == (gtD p1 y5))))⟩ :: ⟨_, ((true && ((decide ((0 : Int) < y14)) == true)) && ((decide (x9 < x17)) == false)), .raw (.bool x26)⟩ :: ⟨_, (true && ((decide ((0 : Int) < y14)) == true)), .raw (.bool x28)⟩ :: ⟨_, true, .raw (.bool x30)⟩ :: []) (tl := []) (by kernel_rfl) (by kernel_rfl) (by kernel_rfl) (by kernel_rfl) ?_ ?_
    ·exact
      Obls.p (fun R' w' hw hs hd => of_move ((hs 8 rfl).trans h8)) <|
      Obls.p (fun R' w' hw hs hd => by have a0 : R' 24 = .int .i64 y14 := hd.g 0 rfl; exact of_gtr a0 rfl) <|
      Obls.p (fun R' w' hw hs hd => by have a0 : R' 25 = .bool (decide ((0 : Int) < y14)) := hd.g 0 rfl; exact of_move a0) <|
      Obls.cons (Obl.grd 2 true _ _ _ rfl rfl rfl rfl rfl (by kernel_rfl) fun hg R' w' hw hs hd => by have a0 : R' 0 = v0 := (hs 0 rfl).trans h0; exact of_move a0) <|
      Obls.cons (Obl.grd 2 true _ _ _ rfl rfl rfl rfl rfl (by kernel_rfl) fun hg R' w' hw hs hd => by have a0 : R' 5 = ul_u1 := (hs 5 rfl).trans h5; exact of_move a0) <|
      Obls.cons (Obl.grd 2 true _ _ _ rfl rfl rfl rfl rfl (by kernel_rfl) fun hg R' w' hw hs hd => by have a0 : R' 8 = .int .i64 y14 := (hs 8 rfl).trans h8; exact of_move a0) <|
      Obls.cons (Obl.grd 2 true _ _ _ rfl rfl rfl rfl rfl (by kernel_rfl) fun hg R' w' hw hs hd => by have a0 : R' 29 = .int .i64 y14 := hd 0 _ _ _ rfl rfl rfl rfl hg; exact of_sub a0 rfl (gd e15 hg)) <|
      Obls.cons (Obl.grd 2 true _ _ _ rfl rfl rfl rfl rfl (by kernel_rfl) fun hg R' w' hw hs hd => by have a0 : R' 28 = ul_u1 := hd 0 _ _ _ rfl rfl rfl rfl hg; have a1 : R' 30 = .int .i64 (y14 - (1 : Int)) := hd 1 _ _ _ rfl rfl rfl rfl hg; exact of_indexAddr_vec (hO.ok 0 _ rfl).1 a0 a1 Tryz.underlying25 Tryz.sizeOf9 (gd e16 hg) rfl) <|
      Obls.cons (Obl.grd 2 true _ _ _ rfl rfl rfl rfl rfl (by kernel_rfl) fun hg R' w' hw hs hd => by have a0 : R' 31 = (vptr ul_u1 ((y14 - (1 : Int)).toNat * 1)) := hd 0 _ _ _ rfl rfl rfl rfl hg; exact (of_load_vec ((hO.fr hw).ok 0 _ rfl).1 a0 (gd e16 hg) rfl (Fld.id _) rfl Tryz.isAgg9 Tryz.sizeOf9)) <|
      Obls.cons (Obl.grd 2 true _ _ _ rfl rfl rfl rfl rfl (by kernel_rfl) fun hg R' w' hw hs hd => by have a0 : R' 27 = v0 := hd 0 _ _ _ rfl rfl rfl rfl hg; have ra0 := (f_v0.fr hw).eq a0; have a1 : Rep eStr A w' (R' 32) (gtD y6 (y14 - (1 : Int))) := hd 1 _ _ _ rfl rfl rfl rfl hg; exact of_call Tryz.call87 (M_spec_TokenFrequency_ok (q18 hg) (hA.fr hw.size) ra0 a1)) <|
      Obls.cons (Obl.grd 2 true _ _ _ rfl rfl rfl rfl rfl (by kernel_rfl) fun hg R' w' hw hs hd => by have a0 : R' 7 = .int .i64 x9 := (hs 7 rfl).trans h7; exact of_move a0) <|
      Obls.cons (Obl.grd 2 true _ _ _ rfl rfl rfl rfl rfl (by kernel_rfl) fun hg R' w' hw hs hd => by have a0 : R' 33 = .int .i64 x17 := hd 0 _ _ _ rfl rfl rfl rfl hg; have a1 : R' 34 = .int .i64 x9 := hd 1 _ _ _ rfl rfl rfl rfl hg; exact of_gtr a0 a1) <|
      Obls.cons (Obl.grd 2 true _ _ _ rfl rfl rfl rfl rfl (by kernel_rfl) fun hg R' w' hw hs hd => by have a0 : R' 35 = .bool (decide (x9 < x17)) := hd 0 _ _ _ rfl rfl rfl rfl hg; exact of_move a0) <|
      Obls.cons (Obl.grd 12 false _ _ _ rfl rfl rfl rfl rfl (by kernel_rfl) fun hg R' w' hw hs hd => by have a0 : R' 0 = v0 := (hs 0 rfl).trans h0; exact of_move a0) <|
      Obls.cons (Obl.grd 12 false _ _ _ rfl rfl rfl rfl rfl (by kernel_rfl) fun hg R' w' hw hs hd => by have a0 : R' 5 = ul_u1 := (hs 5 rfl).trans h5; exact of_move a0) <|
      Obls.cons (Obl.grd 12 false _ _ _ rfl rfl rfl rfl rfl (by kernel_rfl) fun hg R' w' hw hs hd => by have a0 : R' 8 = .int .i64 y14 := (hs 8 rfl).trans h8; exact of_move a0) <|
      Obls.cons (Obl.grd 12 false _ _ _ rfl rfl rfl rfl rfl (by kernel_rfl) fun hg R' w' hw hs hd => by have a0 : R' 39 = .int .i64 y14 := hd 0 _ _ _ rfl rfl rfl rfl hg; exact of_sub a0 rfl (gd e19 hg)) <|
      Obls.cons (Obl.grd 12 false _ _ _ rfl rfl rfl rfl rfl (by kernel_rfl) fun hg R' w' hw hs hd => by have a0 : R' 38 = ul_u1 := hd 0 _ _ _ rfl rfl rfl rfl hg; have a1 : R' 40 = .int .i64 (y14 - (1 : Int)) := hd 1 _ _ _ rfl rfl rfl rfl hg; exact of_indexAddr_vec (hO.ok 0 _ rfl).1 a0 a1 Tryz.underlying25 Tryz.sizeOf9 (gd e20 hg) rfl) <|
      Obls.cons (Obl.grd 12 false _ _ _ rfl rfl rfl rfl rfl (by kernel_rfl) fun hg R' w' hw hs hd => by have a0 : R' 41 = (vptr ul_u1 ((y14 - (1 : Int)).toNat * 1)) := hd 0 _ _ _ rfl rfl rfl rfl hg; exact (of_load_vec ((hO.fr hw).ok 0 _ rfl).1 a0 (gd e20 hg) rfl (Fld.id _) rfl Tryz.isAgg9 Tryz.sizeOf9)) <|
      Obls.cons (Obl.grd 12 false _ _ _ rfl rfl rfl rfl rfl (by kernel_rfl) fun hg R' w' hw hs hd => by have a0 : R' 37 = v0 := hd 0 _ _ _ rfl rfl rfl rfl hg; have ra0 := (f_v0.fr hw).eq a0; have a1 : Rep eStr A w' (R' 42) (gtD y6 (y14 - (1 : Int))) := hd 1 _ _ _ rfl rfl rfl rfl hg; exact of_call Tryz.call87 (M_spec_TokenFrequency_ok (q22 hg) (hA.fr hw.size) ra0 a1)) <|
      Obls.cons (Obl.grd 12 false _ _ _ rfl rfl rfl rfl rfl (by kernel_rfl) fun hg R' w' hw hs hd => by have a0 : R' 7 = .int .i64 x9 := (hs 7 rfl).trans h7; exact of_move a0) <|
      Obls.cons (Obl.grd 12 false _ _ _ rfl rfl rfl rfl rfl (by kernel_rfl) fun hg R' w' hw hs hd => by have a0 : R' 43 = .int .i64 x21 := hd 0 _ _ _ rfl rfl rfl rfl hg; have a1 : R' 44 = .int .i64 x9 := hd 1 _ _ _ rfl rfl rfl rfl hg; exact of_eql a0 a1) <|
      Obls.cons (Obl.grd 12 false _ _ _ rfl rfl rfl rfl rfl (by kernel_rfl) fun hg R' w' hw hs hd => by have a0 : R' 45 = .bool (x21 == x9) := hd 0 _ _ _ rfl rfl rfl rfl hg; exact of_move a0) <|
      Obls.cons (Obl.grd 22 true _ _ _ rfl rfl rfl rfl rfl (by kernel_rfl) fun hg R' w' hw hs hd => by have a0 : R' 5 = ul_u1 := (hs 5 rfl).trans h5; exact of_move a0) <|
      Obls.cons (Obl.grd 22 true _ _ _ rfl rfl rfl rfl rfl (by kernel_rfl) fun hg R' w' hw hs hd => by have a0 : R' 8 = .int .i64 y14 := (hs 8 rfl).trans h8; exact of_move a0) <|
      Obls.cons (Obl.grd 22 true _ _ _ rfl rfl rfl rfl rfl (by kernel_rfl) fun hg R' w' hw hs hd => by have a0 : R' 48 = .int .i64 y14 := hd 0 _ _ _ rfl rfl rfl rfl hg; exact of_sub a0 rfl (gd e23 hg)) <|
      Obls.cons (Obl.grd 22 true _ _ _ rfl rfl rfl rfl rfl (by kernel_rfl) fun hg R' w' hw hs hd => by have a0 : R' 47 = ul_u1 := hd 0 _ _ _ rfl rfl rfl rfl hg; have a1 : R' 49 = .int .i64 (y14 - (1 : Int)) := hd 1 _ _ _ rfl rfl rfl rfl hg; exact of_indexAddr_vec (hO.ok 0 _ rfl).1 a0 a1 Tryz.underlying25 Tryz.sizeOf9 (gd e24 hg) rfl) <|
      Obls.cons (Obl.grd 22 true _ _ _ rfl rfl rfl rfl rfl (by kernel_rfl) fun hg R' w' hw hs hd => by have a0 : R' 50 = (vptr ul_u1 ((y14 - (1 : Int)).toNat * 1)) := hd 0 _ _ _ rfl rfl rfl rfl hg; exact (of_load_vec ((hO.fr hw).ok 0 _ rfl).1 a0 (gd e24 hg) rfl (Fld.id _) rfl Tryz.isAgg9 Tryz.sizeOf9)) <|
      Obls.cons (Obl.grd 22 true _ _ _ rfl rfl rfl rfl rfl (by kernel_rfl) fun hg R' w' hw hs hd => by have a0 : R' 1 = v1 := (hs 1 rfl).trans h1; exact of_move a0) <|
      Obls.cons (Obl.grd 22 true _ _ _ rfl rfl rfl rfl rfl (by kernel_rfl) fun hg R' w' hw hs hd => by have a0 : R' 6 = .int .i64 y5 := (hs 6 rfl).trans h6; exact of_move a0) <|
      Obls.cons (Obl.grd 22 true _ _ _ rfl rfl rfl rfl rfl (by kernel_rfl) fun hg R' w' hw hs hd => by have a0 : R' 52 = v1 := hd 0 _ _ _ rfl rfl rfl rfl hg; have a1 : R' 53 = .int .i64 y5 := hd 1 _ _ _ rfl rfl rfl rfl hg; have ra0 := (f_v1.fr hw).eq a0; exact of_indexAddr ra0 a1 Tryz.underlying25 Tryz.sizeOf9 (gd e25 hg)) <|
      Obls.cons (Obl.grd 22 true _ _ _ rfl rfl rfl rfl rfl (by kernel_rfl) fun hg R' w' hw hs hd => by have a0 : QRep eStr A w' (R' 54) (gtD p1 y5) := hd 0 _ _ _ rfl rfl rfl rfl hg; exact (of_load a0.ptr Tryz.isAgg9 Tryz.sizeOf9)) <|
      Obls.cons (Obl.grd 22 true _ _ _ rfl rfl rfl rfl rfl (by kernel_rfl) fun hg R' w' hw hs hd => by have a0 : Rep eStr A w' (R' 51) (gtD y6 (y14 - (1 : Int))) := hd 0 _ _ _ rfl rfl rfl rfl hg; have a1 : Rep eStr A w' (R' 55) (gtD p1 y5) := hd 1 _ _ _ rfl rfl rfl rfl hg; exact of_sgtr a0 a1) <|
      Obls.cons (Obl.grd 12 false _ _ _ rfl rfl rfl rfl rfl (by kernel_rfl) fun hg R' w' hw hs hd => by have a0 : R' 46 = .bool (x21 == x9) := hd 0 _ _ _ rfl rfl rfl rfl hg; exact of_pick (x21 == x9) a0 (fun hc => by have a1 : R' 56 = .bool (!(bLt (gtD y6 (y14 - (1 : Int))) (gtD p1 y5) || (gtD y6 (y14 - (1 : Int))) == (gtD p1 y5))) := hd 1 _ _ _ rfl rfl rfl rfl (g_and hg (beq_of hc)); show _ = Value.bool x26; rw [q27, hc]; exact a1) (fun hc => by show _ = Value.bool x26; rw [q27, hc]; exact rfl)) <|
      Obls.cons (Obl.grd 2 true _ _ _ rfl rfl rfl rfl rfl (by kernel_rfl) fun hg R' w' hw hs hd => by have a0 : R' 36 = .bool (decide (x9 < x17)) := hd 0 _ _ _ rfl rfl rfl rfl hg; exact of_pick (decide (x9 < x17)) a0 (fun hc => by show _ = Value.bool x28; rw [q29, hc]; exact rfl) (fun hc => by have a2 : R' 57 = .bool x26 := hd 1 _ _ _ rfl rfl rfl rfl (g_and hg (beq_of hc)); show _ = Value.bool x28; rw [q29, hc]; exact a2)) <|
      Obls.p (fun R' w' hw hs hd => by have a0 : R' 26 = .bool (decide ((0 : Int) < y14)) := hd.g 0 rfl; exact of_pick (decide ((0 : Int) < y14)) a0 (fun hc => by have a1 : R' 58 = .bool x28 := hd 1 _ _ _ rfl rfl rfl rfl (g_and rfl (beq_of hc)); show _ = Value.bool x30; rw [q31, hc]; exact a1) (fun hc => by show _ = Value.bool x30; rw [q31, hc]; exact rfl)) <|
      Obls.nil
    intro R w hw hs hF'
    replace h0 := (hs 0 rfl).trans h0
    replace h1 := (hs 1 rfl).trans h1
    replace h5 := (hs 5 rfl).trans h5
    replace h6 := (hs 6 rfl).trans h6
    replace h7 := (hs 7 rfl).trans h7
    replace h8 := (hs 8 rfl).trans h8
    have h59 : R 59 = .bool x30 := hF' 35 _ _ rfl rfl rfl
    replace f_v0 := f_v0.fr hw
    replace f_v1 := f_v1.fr hw
    replace hO := hO.fr hw
    replace hA := hA.fr hw.size
    replace hF := hF.trans hw
    clear hs hF' hw
    refine seqR_nil ?_
    refine HT.cond x30 h59 (fun c32 => ?_) (fun c32 => ?_)
    ·have hr := cnd_t c32 hr
     refine HT.skip ?_
     refine HT.block ?_
     obtain ⟨e33, hr⟩ := ck_some hr
     refine HT.text (l := ⟨_, true, .raw (.int .i64 y14)⟩ :: ⟨_, true, .raw (.int .i64 (y14 - (1 : Int)))⟩ :: ⟨_, true, .raw (.int .i64 (y14 - (1 : Int)))⟩ :: []) (tl := []) (by kernel_rfl) (by kernel_rfl) (by kernel_rfl) ?_ ?_
     ·exact
       Obls.p (fun R' w' hw hs hd => of_move ((hs 8 rfl).trans h8)) <|
       Obls.p (fun R' w' hw hs hd => by have a0 : R' 60 = .int .i64 y14 := hd.g 0 rfl; exact of_sub a0 rfl e33) <|
       Obls.p (fun R' w' hw hs hd => by have a0 : R' 61 = .int .i64 (y14 - (1 : Int)) := hd.g 0 rfl; exact of_assign a0) <|
       Obls.nil
     intro R w hw hs hF'
     replace h0 := (hs 0 rfl).trans h0
     replace h1 := (hs 1 rfl).trans h1
     replace h5 := (hs 5 rfl).trans h5
     replace h6 := (hs 6 rfl).trans h6
     replace h7 := (hs 7 rfl).trans h7
     have h8 : R 8 = .int .i64 (y14 - (1 : Int)) := hF' 2 _ _ rfl rfl rfl
     replace f_v0 := f_v0.fr hw
     replace f_v1 := f_v1.fr hw
     replace hO := hO.fr hw
     replace hA := hA.fr hw.size
     replace hF := hF.trans hw
     clear hs hF' hw
     refine seqR_nil ?_
     exact Exists.intro k (And.intro (Nat.lt_succ_self k) ⟨_, _, hr, hA, hF, hAA, hO, h0, h1, h5, h6, h7, h8, f_v0, f_v1⟩)
    ·have hr := cnd_f c32 hr
     refine HT.exit ?_
     obtain rfl := Option.some.inj hr
     exact Exists.intro _ ⟨_, rfl, hA, hF, hAA, hO, h0, h1, h5, h6, h8, f_v0, f_v1⟩
   rintro R w ⟨A, s13, es, hA, hF, hAA, hO, h0, h1, h5, h6, h8, f_v0, f_v1⟩
   obtain rfl := es.symm
   obtain ⟨e34, hr⟩ := ck_some hr
   obtain ⟨x35, q36, hr⟩ := bd_some hr
   obtain ⟨e37, hr⟩ := ck_some hr
   obtain ⟨e38, hr⟩ := ck_some hr
   obtain ⟨e39, hr⟩ := ck_some hr
   obtain ⟨e40, hr⟩ := ck_some hr
   obtain ⟨x41, q42, hr⟩ := bd_some hr
   obtain ⟨e43, hr⟩ := ck_some hr
   refine HT.drawR [ob ul_u1 (.vec w0.heap.size 9 eStr y6)] (⟨_, true, [], some (.vec w0.heap.size 9 eStr ([] : List (List UInt8))), true, fun A => .any⟩ :: ⟨_, true, [], none, true, fun A => .raw ul_u1⟩ :: ⟨_, true, [], none, true, fun A => .raw (.int .i64 s13)⟩ :: ⟨_, true, [], none, true, fun A => .raw (vsub ul_u1 (0 : Int).toNat x35 1)⟩ :: ⟨_, true, [1], some (.vec w0.heap.size 9 eStr (([] : List (List UInt8)) ++ (subL y6 0 s13))), true, fun A => .any⟩ :: ⟨_, true, [], none, true, fun A => .raw v1⟩ :: ⟨_, true, [], none, true, fun A => .raw (.int .i64 y5)⟩ :: ⟨_, true, [], none, true, fun A => .qtr eStr A (gtD p1 y5)⟩ :: ⟨_, true, [], none, true, fun A => .rep eStr A (gtD p1 y5)⟩ :: ⟨_, true, [], none, true, fun A => .rep (eSl eStr) A ([(gtD p1 y5)] : List (List UInt8))⟩ :: ⟨_, true, [5], some (.vec w0.heap.size 9 eStr ((([] : List (List UInt8)) ++ (subL y6 0 s13)) ++ ([(gtD p1 y5)] : List (List UInt8)))), true, fun A => .any⟩ :: ⟨_, true, [], none, true, fun A => .raw ul_u1⟩ :: ⟨_, true, [], none, true, fun A => .raw (.int .i64 s13)⟩ :: ⟨_, true, [], none, true, fun A => .raw (vsub ul_u1 s13.toNat x41 1)⟩ :: ⟨_, true, [11], some (.vec w0.heap.size 9 eStr (((([] : List (List UInt8)) ++ (subL y6 0 s13)) ++ ([(gtD p1 y5)] : List (List UInt8))) ++ (subL y6 s13 (y6.length : Int)))), true, fun A => .any⟩ :: ⟨_, true, [15], some (.vec w0.heap.size 9 eStr (((([] : List (List UInt8)) ++ (subL y6 0 s13)) ++ ([(gtD p1 y5)] : List (List UInt8))) ++ (subL y6 s13 (y6.length : Int)))), true, fun A => .any⟩ :: []) (by kernel_rfl) (by kernel_rfl) (by kernel_rfl) (Wf.mk' (by kernel_rfl) (UAll.cons ust_any (UAll.cons ust_raw (UAll.cons ust_raw (UAll.cons ust_raw (UAll.cons ust_any (UAll.cons ust_raw (UAll.cons ust_raw (UAll.cons ust_qtr (UAll.cons ust_rep (UAll.cons ust_rep (UAll.cons ust_any (UAll.cons ust_raw (UAll.cons ust_raw (UAll.cons ust_raw (UAll.cons ust_any (UAll.cons ust_any (UAll.nil))))))))))))))))) (by kernel_rfl) (by kernel_rfl)) hO hA ?_ ?_
   ·exact
     OblsR.cons (OblR.made _ rfl rfl rfl rfl fun A' R' w' ho hd => by exact made_build [] (E := eStr) trivial Tryz.underlying25 Tryz.sizeOf9 Tryz.zeroValue9 rfl rfl rfl (Nat.le_trans hF.size ho.ch.size)) <|
     OblsR.p (fun A' R' w' ho hd => of_move ((ho.old 5 rfl).trans h5)) <|
     OblsR.p (fun A' R' w' ho hd => of_move ((ho.old 8 rfl).trans h8)) <|
     OblsR.p (fun A' R' w' ho hd => by have a0 : R' 63 = ul_u1 := hd.g 0 rfl; have a1 : R' 64 = .int .i64 s13 := hd.g 1 rfl; exact (q36 ▸ of_view_hi (hO.ok 0 _ rfl).1 a0 a1 Tryz.underlying25 Tryz.sizeOf9 e34)) <|
     OblsR.cons (OblR.took 1 _ _ rfl rfl rfl rfl rfl fun A' R' w' ho hd u hok hav hin hop hds => by have a1 : R' 65 = (vsub ul_u1 (0 : Int).toNat x35 1) := hd.g 1 rfl; have ra1 : Rep (eSl eStr) A0 w' (R' 65) _ := (view_rep (vec_rep (ho.rd 0 _ rfl rfl) (ho.low' hAA hA0 (hO.ge (⟨rfl, trivial⟩))) hA0) e34 q36 rfl).eq a1; exact took_append1 (hop _ _ rfl rfl rfl rfl).symm hok hav (Nat.le_trans hF.size ho.ch.size) ra1 Tryz.underlying25 el_9 e37 (fun _ _ h => h)) <|
     OblsR.p (fun A' R' w' ho hd => of_move ((ho.old 1 rfl).trans h1)) <|
     OblsR.p (fun A' R' w' ho hd => of_move ((ho.old 6 rfl).trans h6)) <|
     OblsR.p (fun A' R' w' ho hd => by have a0 : R' 67 = v1 := hd.g 0 rfl; have a1 : R' 68 = .int .i64 y5 := hd.g 1 rfl; have ra0 := (f_v1.stp ho.stp).eq a0; exact of_indexAddr ra0 a1 Tryz.underlying25 Tryz.sizeOf9 e38) <|
     OblsR.p (fun A' R' w' ho hd => by have a0 : QRep eStr A' w' (R' 69) (gtD p1 y5) := hd.g 0 rfl; exact (of_load a0.ptr Tryz.isAgg9 Tryz.sizeOf9)) <|
     OblsR.p (fun A' R' w' ho hd => by have a0 : Rep eStr A' w' (R' 70) (gtD p1 y5) := hd.g 0 rfl; exact of_build [_] (E := eStr) ⟨a0, trivial⟩ Tryz.underlying25 Tryz.sizeOf9 Tryz.zeroValue9 rfl rfl rfl ho.av) <|
     OblsR.cons (OblR.took 5 _ _ rfl rfl rfl rfl rfl fun A' R' w' ho hd u hok hav hin hop hds => by have a1 : Rep (eSl eStr) A' w' (R' 71) ([(gtD p1 y5)] : List (List UInt8)) := hd.g 1 rfl; exact took_append (hop _ _ rfl rfl rfl rfl).symm hok hav (Nat.le_trans hF.size ho.ch.size) a1 Tryz.underlying25 el_9 e39) <|
     OblsR.p (fun A' R' w' ho hd => of_move ((ho.old 5 rfl).trans h5)) <|
     OblsR.p (fun A' R' w' ho hd => of_move ((ho.old 8 rfl).trans h8)) <|
     OblsR.p (fun A' R' w' ho hd => by have a0 : R' 73 = ul_u1 := hd.g 0 rfl; have a1 : R' 74 = .int .i64 s13 := hd.g 1 rfl; exact (q42 ▸ of_view (hO.ok 0 _ rfl).1 a0 a1 Tryz.underlying25 Tryz.sizeOf9 e40)) <|
     OblsR.cons (OblR.took 11 _ _ rfl rfl rfl rfl rfl fun A' R' w' ho hd u hok hav hin hop hds => by have a1 : R' 75 = (vsub ul_u1 s13.toNat x41 1) := hd.g 1 rfl; have ra1 : Rep (eSl eStr) A0 w' (R' 75) _ := (view_rep (vec_rep (ho.rd 0 _ rfl rfl) (ho.low' hAA hA0 (hO.ge (⟨rfl, trivial⟩))) hA0) e40 q42 rfl).eq a1; exact took_append1 (hop _ _ rfl rfl rfl rfl).symm hok hav (Nat.le_trans hF.size ho.ch.size) ra1 Tryz.underlying25 el_9 e43 (fun _ _ h => h)) <|
     OblsR.cons (OblR.took 15 _ _ rfl rfl rfl rfl rfl fun A' R' w' ho hd u hok hav hin hop hds => by exact took_assign (hop _ _ rfl rfl rfl rfl).symm hok hav) <|
     OblsR.nil
   intro done ρ σ A R w hdn hI
   replace h0 : R 0 = v0 := (hI.reg rfl).trans h0
   replace h1 : R 1 = v1 := (hI.reg rfl).trans h1
   replace h6 : R 6 = .int .i64 y5 := (hI.reg rfl).trans h6
   have z44 := hI.inivR 0 rfl
   obtain ⟨u45, e_u45⟩ : ∃ u, ρ 16 = u := ⟨_, rfl⟩
   have h5 : R 5 = u45 := (hI.opvR hdn 16 15 rfl rfl rfl rfl rfl).symm.trans e_u45
   replace f_v0 := f_v0.stp hI.stp
   replace f_v1 := f_v1.stp hI.stp
   replace hAA := hI.low' hAA hA0 (hO.ge (⟨rfl, trivial⟩))
   replace hF : Fr w0 w := hF.tr hI.ch (hO.ge (⟨rfl, trivial⟩))
   replace hO : IniOK [ob u45 (.vec w0.heap.size 9 eStr (((([] : List (List UInt8)) ++ (subL y6 0 s13)) ++ ([(gtD p1 y5)] : List (List UInt8))) ++ (subL y6 s13 (y6.length : Int))))] A w := hI.left hdn [(16, ob u45 (.vec w0.heap.size 9 eStr (((([] : List (List UInt8)) ++ (subL y6 0 s13)) ++ ([(gtD p1 y5)] : List (List UInt8))) ++ (subL y6 s13 (y6.length : Int)))))] ⟨rfl, rfl, e_u45, rfl, rfl, trivial⟩
   replace hA := hI.avok
   clear hI
   obtain ⟨e46, hr⟩ := ck_some hr
   refine HT.text (l := ⟨_, true, .raw (.int .i64 y5)⟩ :: ⟨_, true, .raw (.int .i64 (y5 + (1 : Int)))⟩ :: ⟨_, true, .raw (.int .i64 (y5 + (1 : Int)))⟩ :: []) (tl := []) (by kernel_rfl) (by kernel_rfl) (by kernel_rfl) ?_ ?_
   ·exact
     Obls.p (fun R' w' hw hs hd => of_move ((hs 6 rfl).trans h6)) <|
     Obls.p (fun R' w' hw hs hd => by have a0 : R' 14 = .int .i64 y5 := hd.g 0 rfl; exact of_add a0 rfl e46) <|
     Obls.p (fun R' w' hw hs hd => by have a0 : R' 15 = .int .i64 (y5 + (1 : Int)) := hd.g 0 rfl; exact of_assign a0) <|
     Obls.nil
   intro R w hw hs hF'
   replace h0 := (hs 0 rfl).trans h0
   replace h1 := (hs 1 rfl).trans h1
   replace h5 := (hs 5 rfl).trans h5
   have h6 : R 6 = .int .i64 (y5 + (1 : Int)) := hF' 2 _ _ rfl rfl rfl
   replace f_v0 := f_v0.fr hw
   replace f_v1 := f_v1.fr hw
   replace hO := hO.fr hw
   replace hA := hA.fr hw.size
   replace hF := hF.trans hw
   clear hs hF' hw
   refine seqR_nil ?_
   exact Exists.intro k (And.intro (Nat.lt_succ_self k) ⟨_, _, _, u45, hr, hA, hF, hAA, hO, h0, h1, h5, h6, f_v0, f_v1⟩)
  ·have hr := cnd_f c7 hr
   refine HT.exit ?_
   obtain rfl := Option.some.inj hr
   exact Exists.intro _ ⟨_, ul_u1, rfl, hA, hF, hAA, hO, h5⟩
 rintro R w ⟨A, s4, uo_u1, es, hA, hF, hAA, hO, h5⟩
 obtain rfl := es.symm
 refine HT.seq ?_
 refine HT.text (l := ⟨_, true, .raw uo_u1⟩ :: ⟨_, true, .raw uo_u1⟩ :: []) (tl := []) (by kernel_rfl) (by kernel_rfl) (by kernel_rfl) ?_ ?_
 ·exact
   Obls.p (fun R' w' hw hs hd => of_move ((hs 5 rfl).trans h5)) <|
   Obls.p (fun R' w' hw hs hd => by have a0 : R' 77 = uo_u1 := hd.g 0 rfl; exact of_assign a0) <|
   Obls.nil
 intro R w hw hs hF'
 have h4 : R 4 = uo_u1 := hF' 1 _ _ rfl rfl rfl
 replace hO := hO.fr hw
 replace hA := hA.fr hw.size
 replace hF := hF.trans hw
 clear hs hF' hw
 refine seqR_nil ?_
 refine HT.ret ?_
 obtain rfl := Option.some.inj hr
 exact ⟨.inr rfl, [R 4], ⟨rfl, trivial⟩, (own_post (hO.ok 0 _ rfl) hAA h4), hF⟩
theorem M_spec_OrderTokens_okR {fu : Nat} {A0 : Av} {p0 : List T_impl_TokenCount} {p1 : List (List UInt8)} {r : List (List UInt8)} (hr : M_spec_OrderTokens fu p0 p1 = some r) {w : World} {v0 : Value} {v1 : Value} (hA : AvOK A0 w) (h0 : Rep (eSl E_impl_TokenCount) A0 w v0 p0) (h1 : Rep (eSl eStr) A0 w v1 p1) :
  Calls Tryz.prog 44 #[v0, v1] w fun e w' => ∃ v, e = .returned v ∧ (Rep (eSl eStr) A0 w' v r ∧ Fr w w') := by
 refine Calls.mono (M_spec_OrderTokens_ok hr hA h0 h1) ?_
 rintro e w' ⟨v, he, hv, hf⟩
 exact ⟨v, he, vec_rep hv (fun b o h => .inl h) hA, hf⟩
def M_spec_PrefixTokens (fu : Nat) (p0 : List T_impl_TokenCount) (p1 : List (List UInt8)) (p2 : Int) : Option (List (List UInt8)) :=
 cl true (M_spec_PrefixLength fu (p1.length : Int) p2) fun x1 =>
 cl true (M_spec_IsTokenSet fu p1) fun x3 =>
 bd ((!x3) || (decide (x1 < (0 : Int)))) fun x5 =>
 bif x5 then (
  some ([] : List (List UInt8))
 ) else (
  cl true (M_spec_OrderTokens fu p0 p1) fun x9 =>
  ck (subR 0 x1 x9.length) <|
  some (subL x9 0 x1)
 )
theorem M_spec_PrefixTokens_ok {fu : Nat} {A0 : Av} {p0 : List T_impl_TokenCount} {p1 : List (List UInt8)} {p2 : Int} {r : List (List UInt8)} (hr : M_spec_PrefixTokens fu p0 p1 p2 = some r) {w : World} {v0 : Value} {v1 : Value} {v2 : Value} (hA : AvOK A0 w) (h0 : Rep (eSl E_impl_TokenCount) A0 w v0 p0) (h1 : Rep (eSl eStr) A0 w v1 p1) (h2 : v2 = .int .i64 p2) :
  Calls Tryz.prog 11 #[v0, v1, v2] w fun e w' => ∃ v, e = .returned v ∧ ((Res.vec w.heap.size 9 eStr r).ok (addA A0 v) v w' ∧ Fr w w') := by
 unfold M_spec_PrefixTokens at hr
 obtain ⟨w0, hw0⟩ : ∃ w0, w0 = w := ⟨_, rfl⟩
 have hF : Fr w0 w := hw0 ▸ Fr.refl _
 have hA0 : ∀ b o, A0 b o → b < w0.heap.size := fun b o h => hw0 ▸ hA b o h
 have hA00 : AvOK A0 w0 := hA0
 rw [show w.heap.size = w0.heap.size from hw0 ▸ rfl]
 rw [show Fr w = Fr w0 from hw0 ▸ rfl]
 clear hw0
 obtain ⟨A, hAe⟩ : ∃ A, A = A0 := ⟨_, rfl⟩
 have hAA : ∀ b o, A0 b o → A b o := fun b o h => hAe ▸ h
 replace hA : AvOK A w := hAe ▸ hA
 have hO : IniOK [] A w := IniOK.nil
 refine calls_of_HT2 [.tmp 6] Tryz.func11 Tryz.ntmps11 (by decide) rfl rfl (Nat.le_of_ble_eq_true rfl) ?_
 intro R hR
 have f_v0 : Rep (eSl E_impl_TokenCount) A w v0 p0 := hAe ▸ h0
 replace h0 : R 0 = v0 := hR 0 _ rfl
 have f_v1 : Rep (eSl eStr) A w v1 p1 := hAe ▸ h1
 replace h1 : R 1 = v1 := hR 1 _ rfl
 replace h2 : R 2 = .int .i64 p2 := (hR 2 _ rfl).trans h2
 clear hR hAe
 refine HT.seq ?_
 refine HT.text (l := ⟨_, true, .any⟩ :: []) (tl := []) (by kernel_rfl) (by kernel_rfl) (by kernel_rfl) ?_ ?_
 ·exact
   Obls.p (fun R' w' hw hs hd => of_assign trivial) <|
   Obls.nil
 intro R w hw hs hF'
 replace h0 := (hs 0 rfl).trans h0
 replace h1 := (hs 1 rfl).trans h1
 replace h2 := (hs 2 rfl).trans h2
 replace f_v0 := f_v0.fr hw
 replace f_v1 := f_v1.fr hw
 replace hO := hO.fr hw
 replace hA := hA.fr hw.size
 replace hF := hF.trans hw
 clear hs hF' hw
 refine seqR_nil ?_
 refine HT.seq ?_
 obtain ⟨x1, q2, hr⟩ := cl_some hr
 refine HT.text (l := ⟨_, true, .raw v1⟩ :: ⟨_, true, .raw (.int .i64 (p1.length : Int))⟩ :: ⟨_, true, .raw (.int .i64 p2)⟩ :: ⟨_, true, .raw (.int .i64 x1)⟩ :: ⟨_, true, .raw (.int .i64 x1)⟩ :: []) (tl := []) (by kernel_rfl) (by kernel_rfl) (by kernel_rfl) ?_ ?_
 ·exact
   Obls.p (fun R' w' hw hs hd => of_move ((hs 1 rfl).trans h1)) <|
   Obls.p (fun R' w' hw hs hd => by have a0 : R' 8 = v1 := hd.g 0 rfl; have ra0 := (f_v1.fr hw).eq a0; exact of_len_sl (aT := #[]) ra0 Tryz.underlying25) <|
   Obls.p (fun R' w' hw hs hd => of_move ((hs 2 rfl).trans h2)) <|
   Obls.p (fun R' w' hw hs hd => by have a0 : R' 9 = .int .i64 (p1.length : Int) := hd.g 0 rfl; have a1 : R' 10 = .int .i64 p2 := hd.g 1 rfl; exact of_call Tryz.call19 (M_spec_PrefixLength_ok (q2 rfl) (hA.fr hw.size) a0 a1)) <|
   Obls.p (fun R' w' hw hs hd => by have a0 : R' 11 = .int .i64 x1 := hd.g 0 rfl; exact of_assign a0) <|
   Obls.nil
 intro R w hw hs hF'
 replace h0 := (hs 0 rfl).trans h0
 replace h1 := (hs 1 rfl).trans h1
 have h7 : R 7 = .int .i64 x1 := hF' 4 _ _ rfl rfl rfl
 replace f_v0 := f_v0.fr hw
 replace f_v1 := f_v1.fr hw
 replace hO := hO.fr hw
 replace hA := hA.fr hw.size
 replace hF := hF.trans hw
 clear hs hF' hw
 refine seqR_nil ?_
 refine HT.seq ?_
 refine HT.seq ?_
 obtain ⟨x3, q4, hr⟩ := cl_some hr
 obtain ⟨x5, q6, hr⟩ := bd_some hr
 refine HT.text (l := ⟨_, true, .raw v1⟩ :: ⟨_, true, .raw (.bool x3)⟩ :: ⟨_, true, .raw (.bool (!x3))⟩ :: ⟨_, true, .raw (.bool (!x3))⟩ :: ⟨_, (true && ((!x3) == false)), .raw (.int .i64 x1)⟩ :: ⟨_, (true && ((!x3) == false)), .raw (.bool (decide (x1 < (0 : Int))))⟩ :: ⟨_, true, .raw (.bool x5)⟩ :: []) (tl := []) (by kernel_rfl) (by kernel_rfl) (by kernel_rfl) ?_ ?_
 ·exact
   Obls.p (fun R' w' hw hs hd => of_move ((hs 1 rfl).trans h1)) <|
   Obls.p (fun R' w' hw hs hd => by have a0 : R' 12 = v1 := hd.g 0 rfl; have ra0 := (f_v1.fr hw).eq a0; exact of_call Tryz.call20 (M_spec_IsTokenSet_ok (q4 rfl) (hA.fr hw.size) ra0)) <|
   Obls.p (fun R' w' hw hs hd => by have a0 : R' 13 = .bool x3 := hd.g 0 rfl; exact of_not a0) <|
   Obls.p (fun R' w' hw hs hd => by have a0 : R' 14 = .bool (!x3) := hd.g 0 rfl; exact of_move a0) <|
   Obls.cons (Obl.grd 3 false _ _ _ rfl rfl rfl rfl rfl (by kernel_rfl) fun hg R' w' hw hs hd => by have a0 : R' 7 = .int .i64 x1 := (hs 7 rfl).trans h7; exact of_move a0) <|
   Obls.cons (Obl.grd 3 false _ _ _ rfl rfl rfl rfl rfl (by kernel_rfl) fun hg R' w' hw hs hd => by have a0 : R' 16 = .int .i64 x1 := hd 0 _ _ _ rfl rfl rfl rfl hg; exact of_lss a0 rfl) <|
   Obls.p (fun R' w' hw hs hd => by have a0 : R' 15 = .bool (!x3) := hd.g 0 rfl; exact of_pick (!x3) a0 (fun hc => by show _ = Value.bool x5; rw [q6, hc]; exact rfl) (fun hc => by have a2 : R' 17 = .bool (decide (x1 < (0 : Int))) := hd 1 _ _ _ rfl rfl rfl rfl (g_and rfl (beq_of hc)); show _ = Value.bool x5; rw [q6, hc]; exact a2)) <|
   Obls.nil
 intro R w hw hs hF'
 replace h0 := (hs 0 rfl).trans h0
 replace h1 := (hs 1 rfl).trans h1
 replace h7 := (hs 7 rfl).trans h7
 have h18 : R 18 = .bool x5 := hF' 6 _ _ rfl rfl rfl
 replace f_v0 := f_v0.fr hw
 replace f_v1 := f_v1.fr hw
 replace hO := hO.fr hw
 replace hA := hA.fr hw.size
 replace hF := hF.trans hw
 clear hs hF' hw
 refine seqR_nil ?_
 refine HT.cond x5 h18 (fun c7 => ?_) (fun c7 => ?_)
 ·have hr := cnd_t c7 hr
  refine HT.seq ?_
  refine HT.textR [] (⟨_, true, [], some (.vec w0.heap.size 9 eStr ([] : List (List UInt8))), true, fun A => .any⟩ :: ⟨_, true, [0], some (.vec w0.heap.size 9 eStr ([] : List (List UInt8))), true, fun A => .any⟩ :: []) (by kernel_rfl) (by kernel_rfl) (Wf.mk' (by kernel_rfl) (UAll.cons ust_any (UAll.cons ust_any (UAll.nil))) (by kernel_rfl) (by kernel_rfl)) hO hA ?_ ?_
  ·exact
    OblsR.cons (OblR.made _ rfl rfl rfl rfl fun A' R' w' ho hd => by exact made_build [] (E := eStr) trivial Tryz.underlying25 Tryz.sizeOf9 Tryz.zeroValue9 rfl rfl rfl (Nat.le_trans hF.size ho.ch.size)) <|
    OblsR.cons (OblR.took 0 _ _ rfl rfl rfl rfl rfl fun A' R' w' ho hd u hok hav hin hop hds => by exact took_assign (hop _ _ rfl rfl rfl rfl).symm hok hav) <|
    OblsR.nil
  intro done ρ σ A R w hdn hI
  obtain ⟨u8, e_u8⟩ : ∃ u, ρ 1 = u := ⟨_, rfl⟩
  have h6 : R 6 = u8 := (hI.opvR hdn 1 1 rfl rfl rfl rfl rfl).symm.trans e_u8
  replace hAA := hI.low' hAA hA0 (hO.ge (trivial))
  replace hF : Fr w0 w := hF.tr hI.ch (hO.ge (trivial))
  replace hO : IniOK [ob u8 (.vec w0.heap.size 9 eStr ([] : List (List UInt8)))] A w := hI.left hdn [(1, ob u8 (.vec w0.heap.size 9 eStr ([] : List (List UInt8))))] ⟨rfl, rfl, e_u8, rfl, rfl, trivial⟩
  replace hA := hI.avok
  clear hI
  refine HT.ret ?_
  obtain rfl := Option.some.inj hr
  exact ⟨.inr rfl, [R 6], ⟨rfl, trivial⟩, (own_post (hO.ok 0 _ rfl) hAA h6), hF⟩
 ·have hr := cnd_f c7 hr
  refine HT.skip ?_
  refine HT.seq ?_
  obtain ⟨x9, q10, hr⟩ := cl_some hr
  obtain ⟨e11, hr⟩ := ck_some hr
  refine HT.textR [] (⟨_, true, [], none, true, fun A => .raw v0⟩ :: ⟨_, true, [], none, true, fun A => .raw v1⟩ :: ⟨_, true, [], some (.vec w0.heap.size 9 eStr x9), true, fun A => .any⟩ :: ⟨_, true, [], none, true, fun A => .raw (.int .i64 x1)⟩ :: ⟨_, true, [2], some (.vec w0.heap.size 9 eStr (subL x9 0 x1)), true, fun A => .any⟩ :: ⟨_, true, [4], some (.vec w0.heap.size 9 eStr (subL x9 0 x1)), true, fun A => .any⟩ :: []) (by kernel_rfl) (by kernel_rfl) (Wf.mk' (by kernel_rfl) (UAll.cons ust_raw (UAll.cons ust_raw (UAll.cons ust_any (UAll.cons ust_raw (UAll.cons ust_any (UAll.cons ust_any (UAll.nil))))))) (by kernel_rfl) (by kernel_rfl)) hO hA ?_ ?_
  ·exact
    OblsR.p (fun A' R' w' ho hd => of_move ((ho.old 0 rfl).trans h0)) <|
    OblsR.p (fun A' R' w' ho hd => of_move ((ho.old 1 rfl).trans h1)) <|
    OblsR.cons (OblR.made _ rfl rfl rfl rfl fun A' R' w' ho hd => by have a0 : R' 20 = v0 := hd.g 0 rfl; have ra0 := (f_v0.stp ho.stp).eq a0; have a1 : R' 21 = v1 := hd.g 1 rfl; have ra1 := (f_v1.stp ho.stp).eq a1; exact made_call Tryz.call44 (M_spec_OrderTokens_ok (q10 rfl) ho.av ra0 ra1) (Nat.le_trans hF.size ho.ch.size)) <|
    OblsR.p (fun A' R' w' ho hd => of_move ((ho.old 7 rfl).trans h7)) <|
    OblsR.cons (OblR.took 2 _ _ rfl rfl rfl rfl rfl fun A' R' w' ho hd u hok hav hin hop hds => by have a1 : R' 23 = .int .i64 x1 := hd.g 1 rfl; exact took_prefix (hop _ _ rfl rfl rfl rfl).symm hok hav a1 Tryz.underlying25 Tryz.sizeOf9 e11 rfl) <|
    OblsR.cons (OblR.took 4 _ _ rfl rfl rfl rfl rfl fun A' R' w' ho hd u hok hav hin hop hds => by exact took_assign (hop _ _ rfl rfl rfl rfl).symm hok hav) <|
    OblsR.nil
  intro done ρ σ A R w hdn hI
  obtain ⟨u12, e_u12⟩ : ∃ u, ρ 5 = u := ⟨_, rfl⟩
  have h6 : R 6 = u12 := (hI.opvR hdn 5 5 rfl rfl rfl rfl rfl).symm.trans e_u12
  replace hAA := hI.low' hAA hA0 (hO.ge (trivial))
  replace hF : Fr w0 w := hF.tr hI.ch (hO.ge (trivial))
  replace hO : IniOK [ob u12 (.vec w0.heap.size 9 eStr (subL x9 0 x1))] A w := hI.left hdn [(5, ob u12 (.vec w0.heap.size 9 eStr (subL x9 0 x1)))] ⟨rfl, rfl, e_u12, rfl, rfl, trivial⟩
  replace hA := hI.avok
  clear hI
  refine HT.ret ?_
  obtain rfl := Option.some.inj hr
  exact ⟨.inr rfl, [R 6], ⟨rfl, trivial⟩, (own_post (hO.ok 0 _ rfl) hAA h6), hF⟩
theorem M_spec_PrefixTokens_okR {fu : Nat} {A0 : Av} {p0 : List T_impl_TokenCount} {p1 : List (List UInt8)} {p2 : Int} {r : List (List UInt8)} (hr : M_spec_PrefixTokens fu p0 p1 p2 = some r) {w : World} {v0 : Value} {v1 : Value} {v2 : Value} (hA : AvOK A0 w) (h0 : Rep (eSl E_impl_TokenCount) A0 w v0 p0) (h1 : Rep (eSl eStr) A0 w v1 p1) (h2 : v2 = .int .i64 p2) :
  Calls Tryz.prog 11 #[v0, v1, v2] w fun e w' => ∃ v, e = .returned v ∧ (Rep (eSl eStr) A0 w' v r ∧ Fr w w') := by
 refine Calls.mono (M_spec_PrefixTokens_ok hr hA h0 h1 h2) ?_
 rintro e w' ⟨v, he, hv, hf⟩
 exact ⟨v, he, vec_rep hv (fun b o h => .inl h) hA, hf⟩
def M_spec_CommonTokens_L0 (fu : Nat) (p0 : List (List UInt8)) (p1 : List (List UInt8)) : Nat → Int → (List (List UInt8)) → Option (List (List UInt8))
 | 0, _, _ => none
 | k + 1, y5, y6 =>
  bif (decide (y5 < (p0.length : Int))) then (
   ck (inR y5 p0.length) <|
   cl true (M_spec_l3Has fu p1 (gtD p0 y5)) fun x9 =>
   bif x9 then (
    ck (inR y5 p0.length) <|
    cl true (M_spec_l3Put fu y6 (gtD p0 y5) false) fun x13 =>
    ck (i64B (y5 + (1 : Int))) <|
    M_spec_CommonTokens_L0 fu p0 p1 k (y5 + (1 : Int)) x13
   ) else (
    ck (i64B (y5 + (1 : Int))) <|
    M_spec_CommonTokens_L0 fu p0 p1 k (y5 + (1 : Int)) y6
   )
  ) else (
   some y6
  )
def M_spec_CommonTokens (fu : Nat) (p0 : List (List UInt8)) (p1 : List (List UInt8)) : Option (List (List UInt8)) :=
 cl true (M_spec_CommonTokens_L0 fu p0 p1 fu (0 : Int) ([] : List (List UInt8))) fun s4 =>
 some s4
theorem M_spec_CommonTokens_ok {fu : Nat} {A0 : Av} {p0 : List (List UInt8)} {p1 : List (List UInt8)} {r : List (List UInt8)} (hr : M_spec_CommonTokens fu p0 p1 = some r) {w : World} {v0 : Value} {v1 : Value} (hA : AvOK A0 w) (h0 : Rep (eSl eStr) A0 w v0 p0) (h1 : Rep (eSl eStr) A0 w v1 p1) :
  Calls Tryz.prog 21 #[v0, v1] w fun e w' => ∃ v, e = .returned v ∧ ((Res.vec w.heap.size 9 eStr r).ok (addA A0 v) v w' ∧ Fr w w') := by
 unfold M_spec_CommonTokens at hr
 obtain ⟨w0, hw0⟩ : ∃ w0, w0 = w := ⟨_, rfl⟩
 have hF : Fr w0 w := hw0 ▸ Fr.refl _
 have hA0 : ∀ b o, A0 b o → b < w0.heap.size := fun b o h => hw0 ▸ hA b o h
 have hA00 : AvOK A0 w0 := hA0
 rw [show w.heap.size = w0.heap.size from hw0 ▸ rfl]
 rw [show Fr w = Fr w0 from hw0 ▸ rfl]
 clear hw0
 obtain ⟨A, hAe⟩ : ∃ A, A = A0 := ⟨_, rfl⟩
 have hAA : ∀ b o, A0 b o → A b o := fun b o h => hAe ▸ h
 replace hA : AvOK A w := hAe ▸ hA
 have hO : IniOK [] A w := IniOK.nil
 refine calls_of_HT2 [.tmp 4] Tryz.func21 Tryz.ntmps21 (by decide) rfl rfl (Nat.le_of_ble_eq_true rfl) ?_
 intro R hR
 have f_v0 : Rep (eSl eStr) A w v0 p0 := hAe ▸ h0
 replace h0 : R 0 = v0 := hR 0 _ rfl
 have f_v1 : Rep (eSl eStr) A w v1 p1 := hAe ▸ h1
 replace h1 : R 1 = v1 := hR 1 _ rfl
 clear hR hAe
 refine HT.seq ?_
 refine HT.text (l := ⟨_, true, .any⟩ :: []) (tl := []) (by kernel_rfl) (by kernel_rfl) (by kernel_rfl) ?_ ?_
 ·exact
   Obls.p (fun R' w' hw hs hd => of_assign trivial) <|
   Obls.nil
 intro R w hw hs hF'
 replace h0 := (hs 0 rfl).trans h0
 replace h1 := (hs 1 rfl).trans h1
 replace f_v0 := f_v0.fr hw
 replace f_v1 := f_v1.fr hw
 replace hO := hO.fr hw
 replace hA := hA.fr hw.size
 replace hF := hF.trans hw
 clear hs hF' hw
 refine seqR_nil ?_
 refine HT.seq ?_
 refine HT.textR [] (⟨_, true, [], some (.vec w0.heap.size 9 eStr ([] : List (List UInt8))), true, fun A => .any⟩ :: ⟨_, true, [0], some (.vec w0.heap.size 9 eStr ([] : List (List UInt8))), true, fun A => .any⟩ :: []) (by kernel_rfl) (by kernel_rfl) (Wf.mk' (by kernel_rfl) (UAll.cons ust_any (UAll.cons ust_any (UAll.nil))) (by kernel_rfl) (by kernel_rfl)) hO hA ?_ ?_
 ·exact
   OblsR.cons (OblR.made _ rfl rfl rfl rfl fun A' R' w' ho hd => by exact made_build [] (E := eStr) trivial Tryz.underlying25 Tryz.sizeOf9 Tryz.zeroValue9 rfl rfl rfl (Nat.le_trans hF.size ho.ch.size)) <|
   OblsR.cons (OblR.took 0 _ _ rfl rfl rfl rfl rfl fun A' R' w' ho hd u hok hav hin hop hds => by exact took_assign (hop _ _ rfl rfl rfl rfl).symm hok hav) <|
   OblsR.nil
 intro done ρ σ A R w hdn hI
 replace h0 : R 0 = v0 := (hI.reg rfl).trans h0
 replace h1 : R 1 = v1 := (hI.reg rfl).trans h1
 obtain ⟨u1, e_u1⟩ : ∃ u, ρ 1 = u := ⟨_, rfl⟩
 have h5 : R 5 = u1 := (hI.opvR hdn 1 1 rfl rfl rfl rfl rfl).symm.trans e_u1
 replace f_v0 := f_v0.stp hI.stp
 replace f_v1 := f_v1.stp hI.stp
 replace hAA := hI.low' hAA hA0 (hO.ge (trivial))
 replace hF : Fr w0 w := hF.tr hI.ch (hO.ge (trivial))
 replace hO : IniOK [ob u1 (.vec w0.heap.size 9 eStr ([] : List (List UInt8)))] A w := hI.left hdn [(1, ob u1 (.vec w0.heap.size 9 eStr ([] : List (List UInt8))))] ⟨rfl, rfl, e_u1, rfl, rfl, trivial⟩
 replace hA := hI.avok
 clear hI
 refine HT.seq ?_
 refine HT.seq ?_
 refine HT.text (l := ⟨_, true, .raw (.int .i64 (0 : Int))⟩ :: []) (tl := []) (by kernel_rfl) (by kernel_rfl) (by kernel_rfl) ?_ ?_
 ·exact
   Obls.p (fun R' w' hw hs hd => of_assign rfl) <|
   Obls.nil
 intro R w hw hs hF'
 replace h0 := (hs 0 rfl).trans h0
 replace h1 := (hs 1 rfl).trans h1
 replace h5 := (hs 5 rfl).trans h5
 have h6 : R 6 = .int .i64 (0 : Int) := hF' 0 _ _ rfl rfl rfl
 replace f_v0 := f_v0.fr hw
 replace f_v1 := f_v1.fr hw
 replace hO := hO.fr hw
 replace hA := hA.fr hw.size
 replace hF := hF.trans hw
 clear hs hF' hw
 refine seqR_nil ?_
 obtain ⟨rl2, q3, hr⟩ := cl_some hr
 replace q3 := q3 rfl
 refine HT.cut0 (fun R w => ∃ A : Av, ∃ (s4 : (List (List UInt8))) (uo_u1 : Value), rl2 = s4 ∧ AvOK A w ∧ Fr w0 w ∧ (∀ b o, A0 b o → A b o) ∧ IniOK [ob uo_u1 (.vec w0.heap.size 9 eStr s4)] A w ∧ R 5 = uo_u1) ?_ ?_
 ·refine HT.block ?_
  refine HT.loop (fun k R w => ∃ A : Av, ∃ (y5 : Int) (y6 : List (List UInt8)) (ul_u1 : Value), M_spec_CommonTokens_L0 fu p0 p1 k y5 y6 = some rl2 ∧ AvOK A w ∧ Fr w0 w ∧ (∀ b o, A0 b o → A b o) ∧ IniOK [ob ul_u1 (.vec w0.heap.size 9 eStr y6)] A w ∧ R 0 = v0 ∧ R 1 = v1 ∧ R 5 = ul_u1 ∧ R 6 = .int .i64 y5 ∧ Rep (eSl eStr) A w v0 p0 ∧ Rep (eSl eStr) A w v1 p1) fu ⟨_, _, _, u1, q3, hA, hF, hAA, hO, h0, h1, h5, h6, f_v0, f_v1⟩ ?_
  have hr0 := hr; clear hr q3
  rintro k R w ⟨A, y5, y6, ul_u1, hr, hA, hF, hAA, hO, h0, h1, h5, h6, f_v0, f_v1⟩
  rcases k with _ | k
  ·cases (show none = some _ from hr)
  rw [M_spec_CommonTokens_L0] at hr
  refine HT.seq ?_
  refine HT.seq ?_
  refine HT.text (l := ⟨_, true, .raw (.int .i64 y5)⟩ :: ⟨_, true, .raw v0⟩ :: ⟨_, true, .raw (.int .i64 (p0.length : Int))⟩ :: ⟨_, true, .raw (.bool (decide (y5 < (p0.length : Int))))⟩ :: []) (tl := []) (by kernel_rfl) (by kernel_rfl) (by kernel_rfl) ?_ ?_
  ·exact
    Obls.p (fun R' w' hw hs hd => of_move ((hs 6 rfl).trans h6)) <|
    Obls.p (fun R' w' hw hs hd => of_move ((hs 0 rfl).trans h0)) <|
    Obls.p (fun R' w' hw hs hd => by have a0 : R' 9 = v0 := hd.g 0 rfl; have ra0 := (f_v0.fr hw).eq a0; exact of_len_sl (aT := #[]) ra0 Tryz.underlying25) <|
    Obls.p (fun R' w' hw hs hd => by have a0 : R' 8 = .int .i64 y5 := hd.g 0 rfl; have a1 : R' 10 = .int .i64 (p0.length : Int) := hd.g 1 rfl; exact of_lss a0 a1) <|
    Obls.nil
  intro R w hw hs hF'
  replace h0 := (hs 0 rfl).trans h0
  replace h1 := (hs 1 rfl).trans h1
  replace h5 := (hs 5 rfl).trans h5
  replace h6 := (hs 6 rfl).trans h6
  have h11 : R 11 = .bool (decide (y5 < (p0.length : Int))) := hF' 3 _ _ rfl rfl rfl
  replace f_v0 := f_v0.fr hw
  replace f_v1 := f_v1.fr hw
  replace hO := hO.fr hw
  replace hA := hA.fr hw.size
  replace hF := hF.trans hw
  clear hs hF' hw
  refine seqR_nil ?_
  refine HT.cond (decide (y5 < (p0.length : Int))) h11 (fun c7 => ?_) (fun c7 => ?_)
  ·have hr := cnd_t c7 hr
   refine HT.skip ?_
   refine HT.seq ?_
   refine HT.block ?_
   refine HT.seq ?_
   obtain ⟨e8, hr⟩ := ck_some hr
   obtain ⟨x9, q10, hr⟩ := cl_some hr
   refine HT.text (l := ⟨_, true, .raw v1⟩ :: ⟨_, true, .raw v0⟩ :: ⟨_, true, .raw (.int .i64 y5)⟩ :: ⟨_, true, .qtr eStr A (gtD p0 y5)⟩ :: ⟨_, true, .rep eStr A (gtD p0 y5)⟩ :: ⟨_, true, .raw (.bool x9)⟩ :: []) (tl := []) (by kernel_rfl) (by kernel_rfl) (by kernel_rfl) ?_ ?_
   ·exact
     Obls.p (fun R' w' hw hs hd => of_move ((hs 1 rfl).trans h1)) <|
     Obls.p (fun R' w' hw hs hd => of_move ((hs 0 rfl).trans h0)) <|
     Obls.p (fun R' w' hw hs hd => of_move ((hs 6 rfl).trans h6)) <|
     Obls.p (fun R' w' hw hs hd => by have a0 : R' 15 = v0 := hd.g 0 rfl; have a1 : R' 16 = .int .i64 y5 := hd.g 1 rfl; have ra0 := (f_v0.fr hw).eq a0; exact of_indexAddr ra0 a1 Tryz.underlying25 Tryz.sizeOf9 e8) <|
     Obls.p (fun R' w' hw hs hd => by have a0 : QRep eStr A w' (R' 17) (gtD p0 y5) := hd.g 0 rfl; exact (of_load a0.ptr Tryz.isAgg9 Tryz.sizeOf9)) <|
     Obls.p (fun R' w' hw hs hd => by have a0 : R' 14 = v1 := hd.g 0 rfl; have ra0 := (f_v1.fr hw).eq a0; have a1 : Rep eStr A w' (R' 18) (gtD p0 y5) := hd.g 1 rfl; exact of_call Tryz.call55 (M_spec_l3Has_ok (q10 rfl) (hA.fr hw.size) ra0 a1)) <|
     Obls.nil
   intro R w hw hs hF'
   replace h0 := (hs 0 rfl).trans h0
   replace h1 := (hs 1 rfl).trans h1
   replace h5 := (hs 5 rfl).trans h5
   replace h6 := (hs 6 rfl).trans h6
   have h19 : R 19 = .bool x9 := hF' 5 _ _ rfl rfl rfl
   replace f_v0 := f_v0.fr hw
   replace f_v1 := f_v1.fr hw
   replace hO := hO.fr hw
   replace hA := hA.fr hw.size
   replace hF := hF.trans hw
   clear hs hF' hw
   refine seqR_nil ?_
   refine HT.cond x9 h19 (fun c11 => ?_) (fun c11 => ?_)
   ·have hr := cnd_t c11 hr
    obtain ⟨e12, hr⟩ := ck_some hr
    obtain ⟨x13, q14, hr⟩ := cl_some hr
    refine HT.textR [ob ul_u1 (.vec w0.heap.size 9 eStr y6)] (⟨_, true, [], none, true, fun A => .raw ul_u1⟩ :: ⟨_, true, [], none, true, fun A => .raw v0⟩ :: ⟨_, true, [], none, true, fun A => .raw (.int .i64 y5)⟩ :: ⟨_, true, [], none, true, fun A => .qtr eStr A (gtD p0 y5)⟩ :: ⟨_, true, [], none, true, fun A => .rep eStr A (gtD p0 y5)⟩ :: ⟨_, true, [0], some (.vec w0.heap.size 9 eStr x13), true, fun A => .any⟩ :: ⟨_, true, [6], some (.vec w0.heap.size 9 eStr x13), true, fun A => .any⟩ :: []) (by kernel_rfl) (by kernel_rfl) (Wf.mk' (by kernel_rfl) (UAll.cons ust_raw (UAll.cons ust_raw (UAll.cons ust_raw (UAll.cons ust_qtr (UAll.cons ust_rep (UAll.cons ust_any (UAll.cons ust_any (UAll.nil)))))))) (by kernel_rfl) (by kernel_rfl)) hO hA ?_ ?_
    ·exact
      OblsR.p (fun A' R' w' ho hd => of_move ((ho.old 5 rfl).trans h5)) <|
      OblsR.p (fun A' R' w' ho hd => of_move ((ho.old 0 rfl).trans h0)) <|
      OblsR.p (fun A' R' w' ho hd => of_move ((ho.old 6 rfl).trans h6)) <|
      OblsR.p (fun A' R' w' ho hd => by have a0 : R' 21 = v0 := hd.g 0 rfl; have a1 : R' 22 = .int .i64 y5 := hd.g 1 rfl; have ra0 := (f_v0.stp ho.stp).eq a0; exact of_indexAddr ra0 a1 Tryz.underlying25 Tryz.sizeOf9 e12) <|
      OblsR.p (fun A' R' w' ho hd => by have a0 : QRep eStr A' w' (R' 23) (gtD p0 y5) := hd.g 0 rfl; exact (of_load a0.ptr Tryz.isAgg9 Tryz.sizeOf9)) <|
      OblsR.cons (OblR.took 0 _ _ rfl rfl rfl rfl rfl fun A' R' w' ho hd u hok hav hin hop hds => by have a0 : R' 20 = ul_u1 := hd.g 0 rfl; have a1 : Rep eStr A' w' (R' 24) (gtD p0 y5) := hd.g 1 rfl; have hu0 : evalR R' (.tmp 20) = u := a0.trans (hin _ rfl).symm; exact took_callm Tryz.call56 hav (by simp only [List.map, hu0]; exact M_spec_l3Put_ok (q14 rfl) (ho.av.sub _) (fun b o h => h.2) (Nat.le_trans hF.size ho.ch.size) (Vec.flat hok (fun _ _ _ _ _ h => h)) (a1.less fun b o h => h.1) rfl)) <|
      OblsR.cons (OblR.took 6 _ _ rfl rfl rfl rfl rfl fun A' R' w' ho hd u hok hav hin hop hds => by exact took_assign (hop _ _ rfl rfl rfl rfl).symm hok hav) <|
      OblsR.nil
    intro done ρ σ A R w hdn hI
    replace h0 : R 0 = v0 := (hI.reg rfl).trans h0
    replace h1 : R 1 = v1 := (hI.reg rfl).trans h1
    replace h6 : R 6 = .int .i64 y5 := (hI.reg rfl).trans h6
    obtain ⟨u15, e_u15⟩ : ∃ u, ρ 7 = u := ⟨_, rfl⟩
    have h5 : R 5 = u15 := (hI.opvR hdn 7 6 rfl rfl rfl rfl rfl).symm.trans e_u15
    replace f_v0 := f_v0.stp hI.stp
    replace f_v1 := f_v1.stp hI.stp
    replace hAA := hI.low' hAA hA0 (hO.ge (⟨rfl, trivial⟩))
    replace hF : Fr w0 w := hF.tr hI.ch (hO.ge (⟨rfl, trivial⟩))
    replace hO : IniOK [ob u15 (.vec w0.heap.size 9 eStr x13)] A w := hI.left hdn [(7, ob u15 (.vec w0.heap.size 9 eStr x13))] ⟨rfl, rfl, e_u15, rfl, rfl, trivial⟩
    replace hA := hI.avok
    clear hI
    obtain ⟨e16, hr⟩ := ck_some hr
    refine HT.text (l := ⟨_, true, .raw (.int .i64 y5)⟩ :: ⟨_, true, .raw (.int .i64 (y5 + (1 : Int)))⟩ :: ⟨_, true, .raw (.int .i64 (y5 + (1 : Int)))⟩ :: []) (tl := []) (by kernel_rfl) (by kernel_rfl) (by kernel_rfl) ?_ ?_
    ·exact
      Obls.p (fun R' w' hw hs hd => of_move ((hs 6 rfl).trans h6)) <|
      Obls.p (fun R' w' hw hs hd => by have a0 : R' 12 = .int .i64 y5 := hd.g 0 rfl; exact of_add a0 rfl e16) <|
      Obls.p (fun R' w' hw hs hd => by have a0 : R' 13 = .int .i64 (y5 + (1 : Int)) := hd.g 0 rfl; exact of_assign a0) <|
      Obls.nil
    intro R w hw hs hF'
    replace h0 := (hs 0 rfl).trans h0
    replace h1 := (hs 1 rfl).trans h1
    replace h5 := (hs 5 rfl).trans h5
    have h6 : R 6 = .int .i64 (y5 + (1 : Int)) := hF' 2 _ _ rfl rfl rfl
    replace f_v0 := f_v0.fr hw
    replace f_v1 := f_v1.fr hw
    replace hO := hO.fr hw
    replace hA := hA.fr hw.size
    replace hF := hF.trans hw
    clear hs hF' hw
    refine seqR_nil ?_
    exact Exists.intro k (And.intro (Nat.lt_succ_self k) ⟨_, _, _, u15, hr, hA, hF, hAA, hO, h0, h1, h5, h6, f_v0, f_v1⟩)
   ·have hr := cnd_f c11 hr
    refine HT.skip ?_
    obtain ⟨e17, hr⟩ := ck_some hr
    refine HT.text (l := ⟨_, true, .raw (.int .i64 y5)⟩ :: ⟨_, true, .raw (.int .i64 (y5 + (1 : Int)))⟩ :: ⟨_, true, .raw (.int .i64 (y5 + (1 : Int)))⟩ :: []) (tl := []) (by kernel_rfl) (by kernel_rfl) (by kernel_rfl) ?_ ?_
    ·exact
      Obls.p (fun R' w' hw hs hd => of_move ((hs 6 rfl).trans h6)) <|
      Obls.p (fun R' w' hw hs hd => by have a0 : R' 12 = .int .i64 y5 := hd.g 0 rfl; exact of_add a0 rfl e17) <|
      Obls.p (fun R' w' hw hs hd => by have a0 : R' 13 = .int .i64 (y5 + (1 : Int)) := hd.g 0 rfl; exact of_assign a0) <|
      Obls.nil
    intro R w hw hs hF'
    replace h0 := (hs 0 rfl).trans h0
    replace h1 := (hs 1 rfl).trans h1
    replace h5 := (hs 5 rfl).trans h5
    have h6 : R 6 = .int .i64 (y5 + (1 : Int)) := hF' 2 _ _ rfl rfl rfl
    replace f_v0 := f_v0.fr hw
    replace f_v1 := f_v1.fr hw
    replace hO := hO.fr hw
    replace hA := hA.fr hw.size
    replace hF := hF.trans hw
    clear hs hF' hw
    refine seqR_nil ?_
    exact Exists.intro k (And.intro (Nat.lt_succ_self k) ⟨_, _, _, ul_u1, hr, hA, hF, hAA, hO, h0, h1, h5, h6, f_v0, f_v1⟩)
  ·have hr := cnd_f c7 hr
   refine HT.exit ?_
   obtain rfl := Option.some.inj hr
   exact Exists.intro _ ⟨_, ul_u1, rfl, hA, hF, hAA, hO, h5⟩
 rintro R w ⟨A, s4, uo_u1, es, hA, hF, hAA, hO, h5⟩
 obtain rfl := es.symm
 refine HT.seq ?_
 refine HT.text (l := ⟨_, true, .raw uo_u1⟩ :: ⟨_, true, .raw uo_u1⟩ :: []) (tl := []) (by kernel_rfl) (by kernel_rfl) (by kernel_rfl) ?_ ?_
 ·exact
   Obls.p (fun R' w' hw hs hd => of_move ((hs 5 rfl).trans h5)) <|
   Obls.p (fun R' w' hw hs hd => by have a0 : R' 26 = uo_u1 := hd.g 0 rfl; exact of_assign a0) <|
   Obls.nil
 intro R w hw hs hF'
 have h4 : R 4 = uo_u1 := hF' 1 _ _ rfl rfl rfl
 replace hO := hO.fr hw
 replace hA := hA.fr hw.size
 replace hF := hF.trans hw
 clear hs hF' hw
 refine seqR_nil ?_
 refine HT.ret ?_
 obtain rfl := Option.some.inj hr
 exact ⟨.inr rfl, [R 4], ⟨rfl, trivial⟩, (own_post (hO.ok 0 _ rfl) hAA h4), hF⟩
theorem M_spec_CommonTokens_okR {fu : Nat} {A0 : Av} {p0 : List (List UInt8)} {p1 : List (List UInt8)} {r : List (List UInt8)} (hr : M_spec_CommonTokens fu p0 p1 = some r) {w : World} {v0 : Value} {v1 : Value} (hA : AvOK A0 w) (h0 : Rep (eSl eStr) A0 w v0 p0) (h1 : Rep (eSl eStr) A0 w v1 p1) :
  Calls Tryz.prog 21 #[v0, v1] w fun e w' => ∃ v, e = .returned v ∧ (Rep (eSl eStr) A0 w' v r ∧ Fr w w') := by
 refine Calls.mono (M_spec_CommonTokens_ok hr hA h0 h1) ?_
 rintro e w' ⟨v, he, hv, hf⟩
 exact ⟨v, he, vec_rep hv (fun b o h => .inl h) hA, hf⟩
def M_spec_SharePrefix (fu : Nat) (p0 : List T_impl_TokenCount) (p1 : List (List UInt8)) (p2 : List (List UInt8)) (p3 : Int) : Option Bool :=
 cl true (M_spec_PrefixTokens fu p0 p1 p3) fun x1 =>
 cl true (M_spec_PrefixTokens fu p0 p2 p3) fun x3 =>
 cl true (M_spec_CommonTokens fu x1 x3) fun x5 =>
 some (decide ((0 : Int) < (x5.length : Int)))
theorem M_spec_SharePrefix_ok {fu : Nat} {A : Av} {p0 : List T_impl_TokenCount} {p1 : List (List UInt8)} {p2 : List (List UInt8)} {p3 : Int} {r : Bool} (hr : M_spec_SharePrefix fu p0 p1 p2 p3 = some r) {w : World} {v0 : Value} {v1 : Value} {v2 : Value} {v3 : Value} (hA : AvOK A w) (h0 : Rep (eSl E_impl_TokenCount) A w v0 p0) (h1 : Rep (eSl eStr) A w v1 p1) (h2 : Rep (eSl eStr) A w v2 p2) (h3 : v3 = .int .i64 p3) :
  Calls Tryz.prog 8 #[v0, v1, v2, v3] w fun e w' => ∃ v, e = .returned v ∧ (v = .bool r ∧ Fr w w') := by
 unfold M_spec_SharePrefix at hr
 obtain ⟨w0, hw0⟩ : ∃ w0, w0 = w := ⟨_, rfl⟩
 have hF : Fr w0 w := hw0 ▸ Fr.refl _
 rw [show Fr w = Fr w0 from hw0 ▸ rfl]
 clear hw0
 refine calls_of_HT2 [.tmp 8] Tryz.func8 Tryz.ntmps8 (by decide) rfl rfl (Nat.le_of_ble_eq_true rfl) ?_
 intro R hR
 have f_v0 := h0
 replace h0 : R 0 = v0 := hR 0 _ rfl
 have f_v1 := h1
 replace h1 : R 1 = v1 := hR 1 _ rfl
 have f_v2 := h2
 replace h2 : R 2 = v2 := hR 2 _ rfl
 replace h3 : R 3 = .int .i64 p3 := (hR 3 _ rfl).trans h3
 clear hR
 refine HT.seq ?_
 refine HT.text (l := ⟨_, true, .raw (.bool false)⟩ :: []) (tl := []) (by kernel_rfl) (by kernel_rfl) (by kernel_rfl) ?_ ?_
 ·exact
   Obls.p (fun R' w' hw hs hd => of_assign rfl) <|
   Obls.nil
 intro R w hw hs hF'
 replace h0 := (hs 0 rfl).trans h0
 replace h1 := (hs 1 rfl).trans h1
 replace h2 := (hs 2 rfl).trans h2
 replace h3 := (hs 3 rfl).trans h3
 replace f_v0 := f_v0.fr hw
 replace f_v1 := f_v1.fr hw
 replace f_v2 := f_v2.fr hw
 replace hA := hA.fr hw.size
 replace hF := hF.trans hw
 clear hs hF' hw
 refine seqR_nil ?_
 refine HT.seq ?_
 obtain ⟨x1, q2, hr⟩ := cl_some hr
 obtain ⟨x3, q4, hr⟩ := cl_some hr
 obtain ⟨x5, q6, hr⟩ := cl_some hr
 refine HT.text (l := ⟨_, true, .raw v0⟩ :: ⟨_, true, .raw v1⟩ :: ⟨_, true, .raw (.int .i64 p3)⟩ :: ⟨_, true, .rep (eSl eStr) A x1⟩ :: ⟨_, true, .raw v0⟩ :: ⟨_, true, .raw v2⟩ :: ⟨_, true, .raw (.int .i64 p3)⟩ :: ⟨_, true, .rep (eSl eStr) A x3⟩ :: ⟨_, true, .rep (eSl eStr) A x5⟩ :: ⟨_, true, .raw (.int .i64 (x5.length : Int))⟩ :: ⟨_, true, .raw (.bool (decide ((0 : Int) < (x5.length : Int))))⟩ :: ⟨_, true, .raw (.bool (decide ((0 : Int) < (x5.length : Int))))⟩ :: []) (tl := []) (by kernel_rfl) (by kernel_rfl) (by kernel_rfl) ?_ ?_
 ·exact
   Obls.p (fun R' w' hw hs hd => of_move ((hs 0 rfl).trans h0)) <|
   Obls.p (fun R' w' hw hs hd => of_move ((hs 1 rfl).trans h1)) <|
   Obls.p (fun R' w' hw hs hd => of_move ((hs 3 rfl).trans h3)) <|
   Obls.p (fun R' w' hw hs hd => by have a0 : R' 9 = v0 := hd.g 0 rfl; have ra0 := (f_v0.fr hw).eq a0; have a1 : R' 10 = v1 := hd.g 1 rfl; have ra1 := (f_v1.fr hw).eq a1; have a2 : R' 11 = .int .i64 p3 := hd.g 2 rfl; exact of_call Tryz.call11 (M_spec_PrefixTokens_okR (q2 rfl) (hA.fr hw.size) ra0 ra1 a2)) <|
   Obls.p (fun R' w' hw hs hd => of_move ((hs 0 rfl).trans h0)) <|
   Obls.p (fun R' w' hw hs hd => of_move ((hs 2 rfl).trans h2)) <|
   Obls.p (fun R' w' hw hs hd => of_move ((hs 3 rfl).trans h3)) <|
   Obls.p (fun R' w' hw hs hd => by have a0 : R' 13 = v0 := hd.g 0 rfl; have ra0 := (f_v0.fr hw).eq a0; have a1 : R' 14 = v2 := hd.g 1 rfl; have ra1 := (f_v2.fr hw).eq a1; have a2 : R' 15 = .int .i64 p3 := hd.g 2 rfl; exact of_call Tryz.call11 (M_spec_PrefixTokens_okR (q4 rfl) (hA.fr hw.size) ra0 ra1 a2)) <|
   Obls.p (fun R' w' hw hs hd => by have a0 : Rep (eSl eStr) A w' (R' 12) x1 := hd.g 0 rfl; have a1 : Rep (eSl eStr) A w' (R' 16) x3 := hd.g 1 rfl; exact of_call Tryz.call21 (M_spec_CommonTokens_okR (q6 rfl) (hA.fr hw.size) a0 a1)) <|
   Obls.p (fun R' w' hw hs hd => by have a0 : Rep (eSl eStr) A w' (R' 17) x5 := hd.g 0 rfl; exact of_len_sl (aT := #[]) a0 Tryz.underlying25) <|
   Obls.p (fun R' w' hw hs hd => by have a0 : R' 18 = .int .i64 (x5.length : Int) := hd.g 0 rfl; exact of_gtr a0 rfl) <|
   Obls.p (fun R' w' hw hs hd => by have a0 : R' 19 = .bool (decide ((0 : Int) < (x5.length : Int))) := hd.g 0 rfl; exact of_assign a0) <|
   Obls.nil
 intro R w hw hs hF'
 have h8 : R 8 = .bool (decide ((0 : Int) < (x5.length : Int))) := hF' 11 _ _ rfl rfl rfl
 replace hA := hA.fr hw.size
 replace hF := hF.trans hw
 clear hs hF' hw
 refine seqR_nil ?_
 refine HT.ret ?_
 obtain rfl := Option.some.inj hr
 exact ⟨.inr rfl, [R 8], ⟨rfl, trivial⟩, h8, hF⟩
def M_spec_EqualTokens_L0 (fu : Nat) (p0 : List (List UInt8)) (p1 : List (List UInt8)) : Nat → Int → Option (Ex Bool Unit)
 | 0, _ => none
 | k + 1, y5 =>
  bif (decide (y5 < (p0.length : Int))) then (
   ck (inR y5 p0.length) <|
   ck (inR y5 p1.length) <|
   bif (!((gtD p0 y5) == (gtD p1 y5))) then (
    some (Ex.ret false)
   ) else (
    ck (i64B (y5 + (1 : Int))) <|
    M_spec_EqualTokens_L0 fu p0 p1 k (y5 + (1 : Int))
   )
  ) else (
   some (Ex.go ())
  )
def M_spec_EqualTokens (fu : Nat) (p0 : List (List UInt8)) (p1 : List (List UInt8)) : Option Bool :=
 bif ((p0.length : Int) != (p1.length : Int)) then (
  some false
 ) else (
  cl true (M_spec_EqualTokens_L0 fu p0 p1 fu (0 : Int)) fun rl2 =>
  exM rl2 (fun r => some r) fun s4 =>
  some true
 )
theorem M_spec_EqualTokens_ok {fu : Nat} {A : Av} {p0 : List (List UInt8)} {p1 : List (List UInt8)} {r : Bool} (hr : M_spec_EqualTokens fu p0 p1 = some r) {w : World} {v0 : Value} {v1 : Value} (hA : AvOK A w) (h0 : Rep (eSl eStr) A w v0 p0) (h1 : Rep (eSl eStr) A w v1 p1) :
  Calls Tryz.prog 9 #[v0, v1] w fun e w' => ∃ v, e = .returned v ∧ (v = .bool r ∧ Fr w w') := by
 unfold M_spec_EqualTokens at hr
 obtain ⟨w0, hw0⟩ : ∃ w0, w0 = w := ⟨_, rfl⟩
 have hF : Fr w0 w := hw0 ▸ Fr.refl _
 rw [show Fr w = Fr w0 from hw0 ▸ rfl]
 clear hw0
 refine calls_of_HT2 [.tmp 4] Tryz.func9 Tryz.ntmps9 (by decide) rfl rfl (Nat.le_of_ble_eq_true rfl) ?_
 intro R hR
 have f_v0 := h0
 replace h0 : R 0 = v0 := hR 0 _ rfl
 have f_v1 := h1
 replace h1 : R 1 = v1 := hR 1 _ rfl
 clear hR
 refine HT.seq ?_
 refine HT.text (l := ⟨_, true, .raw (.bool false)⟩ :: []) (tl := []) (by kernel_rfl) (by kernel_rfl) (by kernel_rfl) ?_ ?_
 ·exact
   Obls.p (fun R' w' hw hs hd => of_assign rfl) <|
   Obls.nil
 intro R w hw hs hF'
 replace h0 := (hs 0 rfl).trans h0
 replace h1 := (hs 1 rfl).trans h1
 replace f_v0 := f_v0.fr hw
 replace f_v1 := f_v1.fr hw
 replace hA := hA.fr hw.size
 replace hF := hF.trans hw
 clear hs hF' hw
 refine seqR_nil ?_
 refine HT.seq ?_
 refine HT.seq ?_
 refine HT.text (l := ⟨_, true, .raw v0⟩ :: ⟨_, true, .raw (.int .i64 (p0.length : Int))⟩ :: ⟨_, true, .raw v1⟩ :: ⟨_, true, .raw (.int .i64 (p1.length : Int))⟩ :: ⟨_, true, .raw (.bool ((p0.length : Int) != (p1.length : Int)))⟩ :: []) (tl := []) (by kernel_rfl) (by kernel_rfl) (by kernel_rfl) ?_ ?_
 ·exact
   Obls.p (fun R' w' hw hs hd => of_move ((hs 0 rfl).trans h0)) <|
   Obls.p (fun R' w' hw hs hd => by have a0 : R' 6 = v0 := hd.g 0 rfl; have ra0 := (f_v0.fr hw).eq a0; exact of_len_sl (aT := #[]) ra0 Tryz.underlying25) <|
   Obls.p (fun R' w' hw hs hd => of_move ((hs 1 rfl).trans h1)) <|
   Obls.p (fun R' w' hw hs hd => by have a0 : R' 8 = v1 := hd.g 0 rfl; have ra0 := (f_v1.fr hw).eq a0; exact of_len_sl (aT := #[]) ra0 Tryz.underlying25) <|
   Obls.p (fun R' w' hw hs hd => by have a0 : R' 7 = .int .i64 (p0.length : Int) := hd.g 0 rfl; have a1 : R' 9 = .int .i64 (p1.length : Int) := hd.g 1 rfl; exact of_neq a0 a1) <|
   Obls.nil
 intro R w hw hs hF'
 replace h0 := (hs 0 rfl).trans h0
 replace h1 := (hs 1 rfl).trans h1
 have h10 : R 10 = .bool ((p0.length : Int) != (p1.length : Int)) := hF' 4 _ _ rfl rfl rfl
 replace f_v0 := f_v0.fr hw
 replace f_v1 := f_v1.fr hw
 replace hA := hA.fr hw.size
 replace hF := hF.trans hw
 clear hs hF' hw
 refine seqR_nil ?_
 refine HT.cond ((p0.length : Int) != (p1.length : Int)) h10 (fun c1 => ?_) (fun c1 => ?_)
 ·have hr := cnd_t c1 hr
  refine HT.seq ?_
  refine HT.text (l := ⟨_, true, .raw (.bool false)⟩ :: []) (tl := []) (by kernel_rfl) (by kernel_rfl) (by kernel_rfl) ?_ ?_
  ·exact
    Obls.p (fun R' w' hw hs hd => of_assign rfl) <|
    Obls.nil
  intro R w hw hs hF'
  have h4 : R 4 = .bool false := hF' 0 _ _ rfl rfl rfl
  replace hA := hA.fr hw.size
  replace hF := hF.trans hw
  clear hs hF' hw
  refine seqR_nil ?_
  refine HT.ret ?_
  obtain rfl := Option.some.inj hr
  exact ⟨.inr rfl, [R 4], ⟨rfl, trivial⟩, h4, hF⟩
 ·have hr := cnd_f c1 hr
  refine HT.skip ?_
  refine HT.seq ?_
  refine HT.seq ?_
  refine HT.text (l := ⟨_, true, .raw (.int .i64 (0 : Int))⟩ :: []) (tl := []) (by kernel_rfl) (by kernel_rfl) (by kernel_rfl) ?_ ?_
  ·exact
    Obls.p (fun R' w' hw hs hd => of_assign rfl) <|
    Obls.nil
  intro R w hw hs hF'
  replace h0 := (hs 0 rfl).trans h0
  replace h1 := (hs 1 rfl).trans h1
  have h5 : R 5 = .int .i64 (0 : Int) := hF' 0 _ _ rfl rfl rfl
  replace f_v0 := f_v0.fr hw
  replace f_v1 := f_v1.fr hw
  replace hA := hA.fr hw.size
  replace hF := hF.trans hw
  clear hs hF' hw
  refine seqR_nil ?_
  obtain ⟨rl2, q3, hr⟩ := cl_some hr
  replace q3 := q3 rfl
  refine HT.cut0 (fun R w => ∃ (s4 : Unit), rl2 = Ex.go s4 ∧ AvOK A w ∧ Fr w0 w) ?_ ?_
  ·refine HT.block ?_
   refine HT.loop (fun k R w => ∃ (y5 : Int), M_spec_EqualTokens_L0 fu p0 p1 k y5 = some rl2 ∧ AvOK A w ∧ Fr w0 w ∧ R 0 = v0 ∧ R 1 = v1 ∧ R 5 = .int .i64 y5 ∧ Rep (eSl eStr) A w v0 p0 ∧ Rep (eSl eStr) A w v1 p1) fu ⟨_, q3, hA, hF, h0, h1, h5, f_v0, f_v1⟩ ?_
   have hr0 := hr; clear hr q3
   rintro k R w ⟨y5, hr, hA, hF, h0, h1, h5, f_v0, f_v1⟩
   rcases k with _ | k
   ·cases (show none = some _ from hr)
   rw [M_spec_EqualTokens_L0] at hr
   refine HT.seq ?_
   refine HT.seq ?_
   refine HT.text (l := ⟨_, true, .raw (.int .i64 y5)⟩ :: ⟨_, true, .raw v0⟩ :: ⟨_, true, .raw (.int .i64 (p0.length : Int))⟩ :: ⟨_, true, .raw (.bool (decide (y5 < (p0.length : Int))))⟩ :: []) (tl := []) (by kernel_rfl) (by kernel_rfl) (by kernel_rfl) ?_ ?_
   ·exact
     Obls.p (fun R' w' hw hs hd => of_move ((hs 5 rfl).trans h5)) <|
     Obls.p (fun R' w' hw hs hd => of_move ((hs 0 rfl).trans h0)) <|
     Obls.p (fun R' w' hw hs hd => by have a0 : R' 12 = v0 := hd.g 0 rfl; have ra0 := (f_v0.fr hw).eq a0; exact of_len_sl (aT := #[]) ra0 Tryz.underlying25) <|
     Obls.p (fun R' w' hw hs hd => by have a0 : R' 11 = .int .i64 y5 := hd.g 0 rfl; have a1 : R' 13 = .int .i64 (p0.length : Int) := hd.g 1 rfl; exact of_lss a0 a1) <|
     Obls.nil
   intro R w hw hs hF'
   replace h0 := (hs 0 rfl).trans h0
   replace h1 := (hs 1 rfl).trans h1
   replace h5 := (hs 5 rfl).trans h5
   have h14 : R 14 = .bool (decide (y5 < (p0.length : Int))) := hF' 3 _ _ rfl rfl rfl
   replace f_v0 := f_v0.fr hw
   replace f_v1 := f_v1.fr hw
   replace hA := hA.fr hw.size
   replace hF := hF.trans hw
   clear hs hF' hw
   refine seqR_nil ?_
   refine HT.cond (decide (y5 < (p0.length : Int))) h14 (fun c6 => ?_) (fun c6 => ?_)
   ·have hr := cnd_t c6 hr
    refine HT.skip ?_
    refine HT.seq ?_
    refine HT.block ?_
    refine HT.seq ?_
    obtain ⟨e7, hr⟩ := ck_some hr
    obtain ⟨e8, hr⟩ := ck_some hr
    refine HT.draw (by kernel_rfl) (l := ⟨_, true, .raw v0⟩ :: ⟨_, true, .raw (.int .i64 y5)⟩ :: ⟨_, true, .qtr eStr A (gtD p0 y5)⟩ :: ⟨_, true, .rep eStr A (gtD p0 y5)⟩ :: ⟨_, true, .raw v1⟩ :: ⟨_, true, .raw (.int .i64 y5)⟩ :: ⟨_, true, .qtr eStr A (gtD p1 y5)⟩ :: ⟨_, true, .rep eStr A (gtD p1 y5)⟩ :: ⟨_, true, .raw (.bool (!((gtD p0 y5) == (gtD p1 y5))))⟩ :: []) (tl := []) (by kernel_rfl) (by kernel_rfl) (by kernel_rfl) (by kernel_rfl) ?_ ?_
    ·exact
      Obls.p (fun R' w' hw hs hd => of_move ((hs 0 rfl).trans h0)) <|
      Obls.p (fun R' w' hw hs hd => of_move ((hs 5 rfl).trans h5)) <|
      Obls.p (fun R' w' hw hs hd => by have a0 : R' 17 = v0 := hd.g 0 rfl; have a1 : R' 18 = .int .i64 y5 := hd.g 1 rfl; have ra0 := (f_v0.fr hw).eq a0; exact of_indexAddr ra0 a1 Tryz.underlying25 Tryz.sizeOf9 e7) <|
      Obls.p (fun R' w' hw hs hd => by have a0 : QRep eStr A w' (R' 19) (gtD p0 y5) := hd.g 0 rfl; exact (of_load a0.ptr Tryz.isAgg9 Tryz.sizeOf9)) <|
      Obls.p (fun R' w' hw hs hd => of_move ((hs 1 rfl).trans h1)) <|
      Obls.p (fun R' w' hw hs hd => of_move ((hs 5 rfl).trans h5)) <|
      Obls.p (fun R' w' hw hs hd => by have a0 : R' 21 = v1 := hd.g 0 rfl; have a1 : R' 22 = .int .i64 y5 := hd.g 1 rfl; have ra0 := (f_v1.fr hw).eq a0; exact of_indexAddr ra0 a1 Tryz.underlying25 Tryz.sizeOf9 e8) <|
      Obls.p (fun R' w' hw hs hd => by have a0 : QRep eStr A w' (R' 23) (gtD p1 y5) := hd.g 0 rfl; exact (of_load a0.ptr Tryz.isAgg9 Tryz.sizeOf9)) <|
      Obls.p (fun R' w' hw hs hd => by have a0 : Rep eStr A w' (R' 20) (gtD p0 y5) := hd.g 0 rfl; have a1 : Rep eStr A w' (R' 24) (gtD p1 y5) := hd.g 1 rfl; exact of_sneq a0 a1) <|
      Obls.nil
    intro R w hw hs hF'
    replace h0 := (hs 0 rfl).trans h0
    replace h1 := (hs 1 rfl).trans h1
    replace h5 := (hs 5 rfl).trans h5
    have h25 : R 25 = .bool (!((gtD p0 y5) == (gtD p1 y5))) := hF' 8 _ _ rfl rfl rfl
    replace f_v0 := f_v0.fr hw
    replace f_v1 := f_v1.fr hw
    replace hA := hA.fr hw.size
    replace hF := hF.trans hw
    clear hs hF' hw
    refine seqR_nil ?_
    refine HT.cond (!((gtD p0 y5) == (gtD p1 y5))) h25 (fun c9 => ?_) (fun c9 => ?_)
    ·have hr := cnd_t c9 hr
     refine HT.seq ?_
     refine HT.text (l := ⟨_, true, .raw (.bool false)⟩ :: []) (tl := []) (by kernel_rfl) (by kernel_rfl) (by kernel_rfl) ?_ ?_
     ·exact
       Obls.p (fun R' w' hw hs hd => of_assign rfl) <|
       Obls.nil
     intro R w hw hs hF'
     have h4 : R 4 = .bool false := hF' 0 _ _ rfl rfl rfl
     replace hA := hA.fr hw.size
     replace hF := hF.trans hw
     clear hs hF' hw
     refine seqR_nil ?_
     refine HT.ret ?_
     obtain rfl := Option.some.inj hr
     have hr := hr0
     replace hr : some _ = some _ := hr
     obtain rfl := Option.some.inj hr
     exact ⟨.inr rfl, [R 4], ⟨rfl, trivial⟩, h4, hF⟩
    ·have hr := cnd_f c9 hr
     refine HT.skip ?_
     obtain ⟨e10, hr⟩ := ck_some hr
     refine HT.text (l := ⟨_, true, .raw (.int .i64 y5)⟩ :: ⟨_, true, .raw (.int .i64 (y5 + (1 : Int)))⟩ :: ⟨_, true, .raw (.int .i64 (y5 + (1 : Int)))⟩ :: []) (tl := []) (by kernel_rfl) (by kernel_rfl) (by kernel_rfl) ?_ ?_
     ·exact
       Obls.p (fun R' w' hw hs hd => of_move ((hs 5 rfl).trans h5)) <|
       Obls.p (fun R' w' hw hs hd => by have a0 : R' 15 = .int .i64 y5 := hd.g 0 rfl; exact of_add a0 rfl e10) <|
       Obls.p (fun R' w' hw hs hd => by have a0 : R' 16 = .int .i64 (y5 + (1 : Int)) := hd.g 0 rfl; exact of_assign a0) <|
       Obls.nil
     intro R w hw hs hF'
     replace h0 := (hs 0 rfl).trans h0
     replace h1 := (hs 1 rfl).trans h1
     have h5 : R 5 = .int .i64 (y5 + (1 : Int)) := hF' 2 _ _ rfl rfl rfl
     replace f_v0 := f_v0.fr hw
     replace f_v1 := f_v1.fr hw
     replace hA := hA.fr hw.size
     replace hF := hF.trans hw
     clear hs hF' hw
     refine seqR_nil ?_
     exact Exists.intro k (And.intro (Nat.lt_succ_self k) ⟨_, hr, hA, hF, h0, h1, h5, f_v0, f_v1⟩)
   ·have hr := cnd_f c6 hr
    refine HT.exit ?_
    obtain rfl := Option.some.inj hr
    exact Exists.intro _ ⟨rfl, hA, hF⟩
  rintro R w ⟨s4, rfl, hA, hF⟩
  have hr := exM_go hr
  refine HT.seq ?_
  refine HT.text (l := ⟨_, true, .raw (.bool true)⟩ :: []) (tl := []) (by kernel_rfl) (by kernel_rfl) (by kernel_rfl) ?_ ?_
  ·exact
    Obls.p (fun R' w' hw hs hd => of_assign rfl) <|
    Obls.nil
  intro R w hw hs hF'
  have h4 : R 4 = .bool true := hF' 0 _ _ rfl rfl rfl
  replace hA := hA.fr hw.size
  replace hF := hF.trans hw
  clear hs hF' hw
  refine seqR_nil ?_
  refine HT.ret ?_
  obtain rfl := Option.some.inj hr
  exact ⟨.inr rfl, [R 4], ⟨rfl, trivial⟩, h4, hF⟩
def M_impl_areTokenSets (fu : Nat) (p0 : List (List UInt8)) (p1 : List (List UInt8)) : Option Bool :=
 cl true (M_impl_IsTokenSet fu p0) fun x1 =>
 cl (true && (x1 == true)) (M_impl_IsTokenSet fu p1) fun x3 =>
 bd (x1 && x3) fun x5 =>
 some x5
theorem M_impl_areTokenSets_ok {fu : Nat} {A : Av} {p0 : List (List UInt8)} {p1 : List (List UInt8)} {r : Bool} (hr : M_impl_areTokenSets fu p0 p1 = some r) {w : World} {v0 : Value} {v1 : Value} (hA : AvOK A w) (h0 : Rep (eSl eStr) A w v0 p0) (h1 : Rep (eSl eStr) A w v1 p1) :
  Calls Tryz.prog 45 #[v0, v1] w fun e w' => ∃ v, e = .returned v ∧ (v = .bool r ∧ Fr w w') := by
 unfold M_impl_areTokenSets at hr
 obtain ⟨w0, hw0⟩ : ∃ w0, w0 = w := ⟨_, rfl⟩
 have hF : Fr w0 w := hw0 ▸ Fr.refl _
 rw [show Fr w = Fr w0 from hw0 ▸ rfl]
 clear hw0
 refine calls_of_HT2 [.tmp 4] Tryz.func45 Tryz.ntmps45 (by decide) rfl rfl (Nat.le_of_ble_eq_true rfl) ?_
 intro R hR
 have f_v0 := h0
 replace h0 : R 0 = v0 := hR 0 _ rfl
 have f_v1 := h1
 replace h1 : R 1 = v1 := hR 1 _ rfl
 clear hR
 refine HT.seq ?_
 refine HT.text (l := ⟨_, true, .raw (.bool false)⟩ :: []) (tl := []) (by kernel_rfl) (by kernel_rfl) (by kernel_rfl) ?_ ?_
 ·exact
   Obls.p (fun R' w' hw hs hd => of_assign rfl) <|
   Obls.nil
 intro R w hw hs hF'
 replace h0 := (hs 0 rfl).trans h0
 replace h1 := (hs 1 rfl).trans h1
 replace f_v0 := f_v0.fr hw
 replace f_v1 := f_v1.fr hw
 replace hA := hA.fr hw.size
 replace hF := hF.trans hw
 clear hs hF' hw
 refine seqR_nil ?_
 refine HT.seq ?_
 obtain ⟨x1, q2, hr⟩ := cl_some hr
 obtain ⟨x3, q4, hr⟩ := cl_some hr
 obtain ⟨x5, q6, hr⟩ := bd_some hr
 refine HT.text (l := ⟨_, true, .raw v0⟩ :: ⟨_, true, .raw (.bool x1)⟩ :: ⟨_, true, .raw (.bool x1)⟩ :: ⟨_, (true && (x1 == true)), .raw v1⟩ :: ⟨_, (true && (x1 == true)), .raw (.bool x3)⟩ :: ⟨_, true, .raw (.bool x5)⟩ :: ⟨_, true, .raw (.bool x5)⟩ :: []) (tl := []) (by kernel_rfl) (by kernel_rfl) (by kernel_rfl) ?_ ?_
 ·exact
   Obls.p (fun R' w' hw hs hd => of_move ((hs 0 rfl).trans h0)) <|
   Obls.p (fun R' w' hw hs hd => by have a0 : R' 5 = v0 := hd.g 0 rfl; have ra0 := (f_v0.fr hw).eq a0; exact of_call Tryz.call41 (M_impl_IsTokenSet_ok (q2 rfl) (hA.fr hw.size) ra0)) <|
   Obls.p (fun R' w' hw hs hd => by have a0 : R' 6 = .bool x1 := hd.g 0 rfl; exact of_move a0) <|
   Obls.cons (Obl.grd 2 true _ _ _ rfl rfl rfl rfl rfl (by kernel_rfl) fun hg R' w' hw hs hd => by have a0 : R' 1 = v1 := (hs 1 rfl).trans h1; exact of_move a0) <|
   Obls.cons (Obl.grd 2 true _ _ _ rfl rfl rfl rfl rfl (by kernel_rfl) fun hg R' w' hw hs hd => by have a0 : R' 8 = v1 := hd 0 _ _ _ rfl rfl rfl rfl hg; have ra0 := (f_v1.fr hw).eq a0; exact of_call Tryz.call41 (M_impl_IsTokenSet_ok (q4 hg) (hA.fr hw.size) ra0)) <|
   Obls.p (fun R' w' hw hs hd => by have a0 : R' 7 = .bool x1 := hd.g 0 rfl; exact of_pick x1 a0 (fun hc => by have a1 : R' 9 = .bool x3 := hd 1 _ _ _ rfl rfl rfl rfl (g_and rfl (beq_of hc)); show _ = Value.bool x5; rw [q6, hc]; exact a1) (fun hc => by show _ = Value.bool x5; rw [q6, hc]; exact rfl)) <|
   Obls.p (fun R' w' hw hs hd => by have a0 : R' 10 = .bool x5 := hd.g 0 rfl; exact of_assign a0) <|
   Obls.nil
 intro R w hw hs hF'
 have h4 : R 4 = .bool x5 := hF' 6 _ _ rfl rfl rfl
 replace hA := hA.fr hw.size
 replace hF := hF.trans hw
 clear hs hF' hw
 refine seqR_nil ?_
 refine HT.ret ?_
 obtain rfl := Option.some.inj hr
 exact ⟨.inr rfl, [R 4], ⟨rfl, trivial⟩, h4, hF⟩
def M_impl_CommonGrams_L0 (fu : Nat) : Nat → (List (List UInt8)) → (List (List UInt8)) → Int → Option Int
 | 0, _, _, _ => none
 | k + 1, y20, y21, y22 =>
  bd ((decide ((0 : Int) < (y20.length : Int))) && (decide ((0 : Int) < (y21.length : Int)))) fun x23 =>
  bif x23 then (
   ck (inR (0 : Int) y20.length) <|
   ck (inR (0 : Int) y21.length) <|
   bif (bLt (gtD y20 (0 : Int)) (gtD y21 (0 : Int))) then (
    ck (subR (1 : Int) (y20.length : Int) y20.length) <|
    M_impl_CommonGrams_L0 fu k (subL y20 (1 : Int) (y20.length : Int)) y21 y22
   ) else (
    ck (inR (0 : Int) y21.length) <|
    ck (inR (0 : Int) y20.length) <|
    bif (bLt (gtD y21 (0 : Int)) (gtD y20 (0 : Int))) then (
     ck (subR (1 : Int) (y21.length : Int) y21.length) <|
     M_impl_CommonGrams_L0 fu k y20 (subL y21 (1 : Int) (y21.length : Int)) y22
    ) else (
     ck (subR (1 : Int) (y20.length : Int) y20.length) <|
     ck (subR (1 : Int) (y21.length : Int) y21.length) <|
     ck (i64B (y22 + (1 : Int))) <|
     M_impl_CommonGrams_L0 fu k (subL y20 (1 : Int) (y20.length : Int)) (subL y21 (1 : Int) (y21.length : Int)) (y22 + (1 : Int))
    )
   )
  ) else (
   some y22
  )
def M_impl_CommonGrams (fu : Nat) (p0 : List (List UInt8)) (p1 : List (List UInt8)) : Option Int :=
 cl true (M_slices_Clone_string_string fu p0) fun x1 =>
 cl true (M_slices_Clone_string_string fu p1) fun x3 =>
 cl true (M_sortS fu x1) fun x7 =>
 cl true (M_sortS fu x3) fun x12 =>
 cl true (M_impl_CommonGrams_L0 fu fu x7 x12 (0 : Int)) fun s19 =>
 some s19
theorem M_impl_CommonGrams_ok {fu : Nat} {A0 : Av} {p0 : List (List UInt8)} {p1 : List (List UInt8)} {r : Int} (hr : M_impl_CommonGrams fu p0 p1 = some r) {w : World} {v0 : Value} {v1 : Value} (hA : AvOK A0 w) (h0 : Rep (eSl eStr) A0 w v0 p0) (h1 : Rep (eSl eStr) A0 w v1 p1) :
  Calls Tryz.prog 88 #[v0, v1] w fun e w' => ∃ v, e = .returned v ∧ (v = .int .i64 r ∧ Fr w w') := by
 unfold M_impl_CommonGrams at hr
 obtain ⟨w0, hw0⟩ : ∃ w0, w0 = w := ⟨_, rfl⟩
 have hF : Fr w0 w := hw0 ▸ Fr.refl _
 have hA0 : ∀ b o, A0 b o → b < w0.heap.size := fun b o h => hw0 ▸ hA b o h
 have hA00 : AvOK A0 w0 := hA0
 rw [show Fr w = Fr w0 from hw0 ▸ rfl]
 clear hw0
 obtain ⟨A, hAe⟩ : ∃ A, A = A0 := ⟨_, rfl⟩
 have hAA : ∀ b o, A0 b o → A b o := fun b o h => hAe ▸ h
 replace hA : AvOK A w := hAe ▸ hA
 have hO : IniOK [] A w := IniOK.nil
 refine calls_of_HT2 [.tmp 4] Tryz.func88 Tryz.ntmps88 (by decide) rfl rfl (Nat.le_of_ble_eq_true rfl) ?_
 intro R hR
 have f_v0 : Rep (eSl eStr) A w v0 p0 := hAe ▸ h0
 replace h0 : R 0 = v0 := hR 0 _ rfl
 have f_v1 : Rep (eSl eStr) A w v1 p1 := hAe ▸ h1
 replace h1 : R 1 = v1 := hR 1 _ rfl
 clear hR hAe
 refine HT.seq ?_
 refine HT.text (l := ⟨_, true, .raw (.int .i64 (0 : Int))⟩ :: []) (tl := []) (by kernel_rfl) (by kernel_rfl) (by kernel_rfl) ?_ ?_
 ·exact
   Obls.p (fun R' w' hw hs hd => of_assign rfl) <|
   Obls.nil
 intro R w hw hs hF'
 replace h0 := (hs 0 rfl).trans h0
 replace h1 := (hs 1 rfl).trans h1
 replace f_v0 := f_v0.fr hw
 replace f_v1 := f_v1.fr hw
 replace hO := hO.fr hw
 replace hA := hA.fr hw.size
 replace hF := hF.trans hw
 clear hs hF' hw
 refine seqR_nil ?_
 refine HT.seq ?_
 obtain ⟨x1, q2, hr⟩ := cl_some hr
 obtain ⟨x3, q4, hr⟩ := cl_some hr
 refine HT.textR [] (⟨_, true, [], none, true, fun A => .raw v0⟩ :: ⟨_, true, [], some (.vec w0.heap.size 9 eStr x1), true, fun A => .any⟩ :: ⟨_, true, [], none, true, fun A => .raw v1⟩ :: ⟨_, true, [], some (.vec w0.heap.size 9 eStr x3), true, fun A => .any⟩ :: ⟨_, true, [1], some (.vec w0.heap.size 9 eStr x1), true, fun A => .any⟩ :: ⟨_, true, [3], some (.vec w0.heap.size 9 eStr x3), true, fun A => .any⟩ :: []) (by kernel_rfl) (by kernel_rfl) (Wf.mk' (by kernel_rfl) (UAll.cons ust_raw (UAll.cons ust_any (UAll.cons ust_raw (UAll.cons ust_any (UAll.cons ust_any (UAll.cons ust_any (UAll.nil))))))) (by kernel_rfl) (by kernel_rfl)) hO hA ?_ ?_
 ·exact
   OblsR.p (fun A' R' w' ho hd => of_move ((ho.old 0 rfl).trans h0)) <|
   OblsR.cons (OblR.made _ rfl rfl rfl rfl fun A' R' w' ho hd => by have a0 : R' 8 = v0 := hd.g 0 rfl; have ra0 := (f_v0.stp ho.stp).eq a0; exact made_call Tryz.call42 (M_slices_Clone_string_string_ok (q2 rfl) ho.av ra0) (Nat.le_trans hF.size ho.ch.size)) <|
   OblsR.p (fun A' R' w' ho hd => of_move ((ho.old 1 rfl).trans h1)) <|
   OblsR.cons (OblR.made _ rfl rfl rfl rfl fun A' R' w' ho hd => by have a0 : R' 10 = v1 := hd.g 0 rfl; have ra0 := (f_v1.stp ho.stp).eq a0; exact made_call Tryz.call42 (M_slices_Clone_string_string_ok (q4 rfl) ho.av ra0) (Nat.le_trans hF.size ho.ch.size)) <|
   OblsR.cons (OblR.took 1 _ _ rfl rfl rfl rfl rfl fun A' R' w' ho hd u hok hav hin hop hds => by exact took_assign (hop _ _ rfl rfl rfl rfl).symm hok hav) <|
   OblsR.cons (OblR.took 3 _ _ rfl rfl rfl rfl rfl fun A' R' w' ho hd u hok hav hin hop hds => by exact took_assign (hop _ _ rfl rfl rfl rfl).symm hok hav) <|
   OblsR.nil
 intro done ρ σ A R w hdn hI
 obtain ⟨u5, e_u5⟩ : ∃ u, ρ 4 = u := ⟨_, rfl⟩
 have h5 : R 5 = u5 := (hI.opvR hdn 4 4 rfl rfl rfl rfl rfl).symm.trans e_u5
 obtain ⟨u6, e_u6⟩ : ∃ u, ρ 5 = u := ⟨_, rfl⟩
 have h6 : R 6 = u6 := (hI.opvR hdn 5 5 rfl rfl rfl rfl rfl).symm.trans e_u6
 replace hAA := hI.low' hAA hA0 (hO.ge (trivial))
 replace hF : Fr w0 w := hF.tr hI.ch (hO.ge (trivial))
 replace hO : IniOK [ob u5 (.vec w0.heap.size 9 eStr x1), ob u6 (.vec w0.heap.size 9 eStr x3)] A w := hI.left hdn [(4, ob u5 (.vec w0.heap.size 9 eStr x1)), (5, ob u6 (.vec w0.heap.size 9 eStr x3))] ⟨rfl, rfl, e_u5, rfl, rfl, ⟨rfl, rfl, e_u6, rfl, rfl, trivial⟩⟩
 replace hA := hI.avok
 clear hI
 refine HT.seq ?_
 obtain ⟨x7, q8, hr⟩ := cl_some hr
 refine HT.textR [ob u5 (.vec w0.heap.size 9 eStr x1), ob u6 (.vec w0.heap.size 9 eStr x3)] (⟨_, true, [], none, true, fun A => .raw u5⟩ :: ⟨_, true, [0], some (.vec w0.heap.size 9 eStr x7), false, fun A => .any⟩ :: []) (by kernel_rfl) (by kernel_rfl) (Wf.mk' (by kernel_rfl) (UAll.cons ust_raw (UAll.cons ust_any (UAll.nil))) (by kernel_rfl) (by kernel_rfl)) hO hA ?_ ?_
 ·exact
   OblsR.p (fun A' R' w' ho hd => of_move ((ho.old 5 rfl).trans h5)) <|
   OblsR.cons (OblR.took 0 _ _ rfl rfl rfl rfl rfl fun A' R' w' ho hd u hok hav hin hop hds => by have a0 : R' 12 = u5 := hd.g 0 rfl; have hu0 : evalR R' (.tmp 12) = u := a0.trans (hin _ rfl).symm; exact took_call Tryz.call99 hav (fun _ _ _ _ _ h => h) (by simp only [List.map, hu0]; exact Calls.mono (M_sortS_ok (q8 rfl) (ho.av.sub _) (fun b o h => h.2) (Vec.flat hok (fun _ _ _ _ _ h => h))) (fun _ _ ⟨v, h1, h2, h3, h4⟩ => ⟨v, h1, trivial, h3, h4⟩))) <|
   OblsR.nil
 intro done ρ σ A R w hdn hI
 replace h5 : R 5 = u5 := (hI.reg rfl).trans h5
 replace h6 : R 6 = u6 := (hI.reg rfl).trans h6
 have z9 := hI.inivR 0 rfl
 have z10 := (hI.opnR hdn 3 1 rfl rfl rfl rfl rfl).trans z9
 have z11 := hI.inivR 1 rfl
 replace hAA := hI.low' hAA hA0 (hO.ge (⟨rfl, ⟨rfl, trivial⟩⟩))
 replace hF : Fr w0 w := hF.tr hI.ch (hO.ge (⟨rfl, ⟨rfl, trivial⟩⟩))
 replace hO : IniOK [ob u5 (.vec w0.heap.size 9 eStr x7), ob u6 (.vec w0.heap.size 9 eStr x3)] A w := hI.left hdn [(3, ob u5 (.vec w0.heap.size 9 eStr x7)), (1, ob u6 (.vec w0.heap.size 9 eStr x3))] ⟨rfl, rfl, z10, rfl, rfl, ⟨rfl, rfl, z11, rfl, rfl, trivial⟩⟩
 replace hA := hI.avok
 clear hI
 refine HT.seq ?_
 obtain ⟨x12, q13, hr⟩ := cl_some hr
 refine HT.textR [ob u5 (.vec w0.heap.size 9 eStr x7), ob u6 (.vec w0.heap.size 9 eStr x3)] (⟨_, true, [], none, true, fun A => .raw u6⟩ :: ⟨_, true, [1], some (.vec w0.heap.size 9 eStr x12), false, fun A => .any⟩ :: []) (by kernel_rfl) (by kernel_rfl) (Wf.mk' (by kernel_rfl) (UAll.cons ust_raw (UAll.cons ust_any (UAll.nil))) (by kernel_rfl) (by kernel_rfl)) hO hA ?_ ?_
 ·exact
   OblsR.p (fun A' R' w' ho hd => of_move ((ho.old 6 rfl).trans h6)) <|
   OblsR.cons (OblR.took 1 _ _ rfl rfl rfl rfl rfl fun A' R' w' ho hd u hok hav hin hop hds => by have a0 : R' 14 = u6 := hd.g 0 rfl; have hu0 : evalR R' (.tmp 14) = u := a0.trans (hin _ rfl).symm; exact took_call Tryz.call99 hav (fun _ _ _ _ _ h => h) (by simp only [List.map, hu0]; exact Calls.mono (M_sortS_ok (q13 rfl) (ho.av.sub _) (fun b o h => h.2) (Vec.flat hok (fun _ _ _ _ _ h => h))) (fun _ _ ⟨v, h1, h2, h3, h4⟩ => ⟨v, h1, trivial, h3, h4⟩))) <|
   OblsR.nil
 intro done ρ σ A R w hdn hI
 replace h5 : R 5 = u5 := (hI.reg rfl).trans h5
 replace h6 : R 6 = u6 := (hI.reg rfl).trans h6
 have z14 := hI.inivR 0 rfl
 have z15 := hI.inivR 1 rfl
 have z16 := (hI.opnR hdn 3 1 rfl rfl rfl rfl rfl).trans z15
 replace hAA := hI.low' hAA hA0 (hO.ge (⟨rfl, ⟨rfl, trivial⟩⟩))
 replace hF : Fr w0 w := hF.tr hI.ch (hO.ge (⟨rfl, ⟨rfl, trivial⟩⟩))
 replace hO : IniOK [ob u5 (.vec w0.heap.size 9 eStr x7), ob u6 (.vec w0.heap.size 9 eStr x12)] A w := hI.left hdn [(0, ob u5 (.vec w0.heap.size 9 eStr x7)), (3, ob u6 (.vec w0.heap.size 9 eStr x12))] ⟨rfl, rfl, z14, rfl, rfl, ⟨rfl, rfl, z16, rfl, rfl, trivial⟩⟩
 replace hA := hI.avok
 clear hI
 refine HT.seq ?_
 refine HT.text (l := ⟨_, true, .raw (.int .i64 (0 : Int))⟩ :: []) (tl := []) (by kernel_rfl) (by kernel_rfl) (by kernel_rfl) ?_ ?_
 ·exact
   Obls.p (fun R' w' hw hs hd => of_assign rfl) <|
   Obls.nil
 intro R w hw hs hF'
 replace h5 := (hs 5 rfl).trans h5
 replace h6 := (hs 6 rfl).trans h6
 have h7 : R 7 = .int .i64 (0 : Int) := hF' 0 _ _ rfl rfl rfl
 replace hO := hO.fr hw
 replace hA := hA.fr hw.size
 replace hF := hF.trans hw
 clear hs hF' hw
 refine seqR_nil ?_
 replace hO : IniOK [ob u5 (.vec w0.heap.size 9 eStr x7), ob u6 (.vec w0.heap.size 9 eStr x12)] A w := hO.sub [(0, ob u5 (.vec w0.heap.size 9 eStr x7)), (1, ob u6 (.vec w0.heap.size 9 eStr x12))] ⟨rfl, rfl, ⟨rfl, rfl, trivial⟩⟩
 obtain ⟨A, hle, hAA, hA, hO, f_u5⟩ := hO.freeze hA hAA hA0
 clear hle
 replace hO : IniOK [ob u6 (.vec w0.heap.size 9 eStr x12)] A w := hO.sub [(0, ob u6 (.vec w0.heap.size 9 eStr x12))] ⟨rfl, rfl, trivial⟩
 obtain ⟨A, hle, hAA, hA, hO, f_u6⟩ := hO.freeze hA hAA hA0
 replace f_u5 := f_u5.less hle
 clear hle
 obtain ⟨rl17, q18, hr⟩ := cl_some hr
 replace q18 := q18 rfl
 refine HT.cut (fun R w => ∃ A : Av, ∃ (s19 : Int), rl17 = s19 ∧ AvOK A w ∧ Fr w0 w ∧ (∀ b o, A0 b o → A b o) ∧ IniOK [] A w ∧ R 7 = .int .i64 s19) ?_ ?_
 ·refine HT.block ?_
  refine HT.loop (fun k R w => ∃ A : Av, ∃ (y20 : List (List UInt8)) (y21 : List (List UInt8)) (y22 : Int) (wl_5 : Value) (wl_6 : Value), M_impl_CommonGrams_L0 fu k y20 y21 y22 = some rl17 ∧ AvOK A w ∧ Fr w0 w ∧ (∀ b o, A0 b o → A b o) ∧ IniOK [] A w ∧ R 5 = wl_5 ∧ R 6 = wl_6 ∧ R 7 = .int .i64 y22 ∧ Rep (eSl eStr) A w wl_5 y20 ∧ Rep (eSl eStr) A w wl_6 y21) fu ⟨_, _, _, _, u5, u6, q18, hA, hF, hAA, hO, h5, h6, h7, f_u5, f_u6⟩ ?_
  have hr0 := hr; clear hr q18
  rintro k R w ⟨A, y20, y21, y22, wl_5, wl_6, hr, hA, hF, hAA, hO, h5, h6, h7, f_wl_5, f_wl_6⟩
  rcases k with _ | k
  ·cases (show none = some _ from hr)
  rw [M_impl_CommonGrams_L0] at hr
  refine HT.seq ?_
  refine HT.seq ?_
  obtain ⟨x23, q24, hr⟩ := bd_some hr
  refine HT.text (l := ⟨_, true, .raw wl_5⟩ :: ⟨_, true, .raw (.int .i64 (y20.length : Int))⟩ :: ⟨_, true, .raw (.bool (decide ((0 : Int) < (y20.length : Int))))⟩ :: ⟨_, true, .raw (.bool (decide ((0 : Int) < (y20.length : Int))))⟩ :: ⟨_, (true && ((decide ((0 : Int) < (y20.length : Int))) == true)), .raw wl_6⟩ :: ⟨_, (true && ((decide ((0 : Int) < (y20.length : Int))) == true)), .raw (.int .i64 (y21.length : Int))⟩ :: ⟨_, (true && ((decide ((0 : Int) < (y20.length : Int))) == true)), .raw (.bool (decide ((0 : Int) < (y21.length : Int))))⟩ :: ⟨_, true, .raw (.bool x23)⟩ :: []) (tl := []) (by kernel_rfl) (by kernel_rfl) (by kernel_rfl) ?_ ?_
  ·exact
    Obls.p (fun R' w' hw hs hd => of_move ((hs 5 rfl).trans h5)) <|
    Obls.p (fun R' w' hw hs hd => by have a0 : R' 16 = wl_5 := hd.g 0 rfl; have ra0 := (f_wl_5.fr hw).eq a0; exact of_len_sl (aT := #[]) ra0 Tryz.underlying25) <|
    Obls.p (fun R' w' hw hs hd => by have a0 : R' 17 = .int .i64 (y20.length : Int) := hd.g 0 rfl; exact of_gtr a0 rfl) <|
    Obls.p (fun R' w' hw hs hd => by have a0 : R' 18 = .bool (decide ((0 : Int) < (y20.length : Int))) := hd.g 0 rfl; exact of_move a0) <|
    Obls.cons (Obl.grd 3 true _ _ _ rfl rfl rfl rfl rfl (by kernel_rfl) fun hg R' w' hw hs hd => by have a0 : R' 6 = wl_6 := (hs 6 rfl).trans h6; exact of_move a0) <|
    Obls.cons (Obl.grd 3 true _ _ _ rfl rfl rfl rfl rfl (by kernel_rfl) fun hg R' w' hw hs hd => by have a0 : R' 20 = wl_6 := hd 0 _ _ _ rfl rfl rfl rfl hg; have ra0 := (f_wl_6.fr hw).eq a0; exact of_len_sl (aT := #[]) ra0 Tryz.underlying25) <|
    Obls.cons (Obl.grd 3 true _ _ _ rfl rfl rfl rfl rfl (by kernel_rfl) fun hg R' w' hw hs hd => by have a0 : R' 21 = .int .i64 (y21.length : Int) := hd 0 _ _ _ rfl rfl rfl rfl hg; exact of_gtr a0 rfl) <|
    Obls.p (fun R' w' hw hs hd => by have a0 : R' 19 = .bool (decide ((0 : Int) < (y20.length : Int))) := hd.g 0 rfl; exact of_pick (decide ((0 : Int) < (y20.length : Int))) a0 (fun hc => by have a1 : R' 22 = .bool (decide ((0 : Int) < (y21.length : Int))) := hd 1 _ _ _ rfl rfl rfl rfl (g_and rfl (beq_of hc)); show _ = Value.bool x23; rw [q24, hc]; exact a1) (fun hc => by show _ = Value.bool x23; rw [q24, hc]; exact rfl)) <|
    Obls.nil
  intro R w hw hs hF'
  replace h5 := (hs 5 rfl).trans h5
  replace h6 := (hs 6 rfl).trans h6
  replace h7 := (hs 7 rfl).trans h7
  have h23 : R 23 = .bool x23 := hF' 7 _ _ rfl rfl rfl
  replace f_wl_5 := f_wl_5.fr hw
  replace f_wl_6 := f_wl_6.fr hw
  replace hO := hO.fr hw
  replace hA := hA.fr hw.size
  replace hF := hF.trans hw
  clear hs hF' hw
  refine seqR_nil ?_
  refine HT.cond x23 h23 (fun c25 => ?_) (fun c25 => ?_)
  ·have hr := cnd_t c25 hr
   refine HT.skip ?_
   refine HT.block ?_
   refine HT.block ?_
   refine HT.seq ?_
   obtain ⟨e26, hr⟩ := ck_some hr
   obtain ⟨e27, hr⟩ := ck_some hr
   refine HT.draw (by kernel_rfl) (l := ⟨_, true, .raw wl_5⟩ :: ⟨_, true, .qtr eStr A (gtD y20 (0 : Int))⟩ :: ⟨_, true, .rep eStr A (gtD y20 (0 : Int))⟩ :: ⟨_, true, .raw wl_6⟩ :: ⟨_, true, .qtr eStr A (gtD y21 (0 : Int))⟩ :: ⟨_, true, .rep eStr A (gtD y21 (0 : Int))⟩ :: ⟨_, true, .raw (.bool (bLt (gtD y20 (0 : Int)) (gtD y21 (0 : Int))))⟩ :: ⟨_, true, .raw (.bool (bLt (gtD y20 (0 : Int)) (gtD y21 (0 : Int))))⟩ :: []) (tl := []) (by kernel_rfl) (by kernel_rfl) (by kernel_rfl) (by kernel_rfl) ?_ ?_
   ·exact
     Obls.p (fun R' w' hw hs hd => of_move ((hs 5 rfl).trans h5)) <|
     Obls.p (fun R' w' hw hs hd => by have a0 : R' 31 = wl_5 := hd.g 0 rfl; have ra0 := (f_wl_5.fr hw).eq a0; exact of_indexAddr ra0 rfl Tryz.underlying25 Tryz.sizeOf9 e26) <|
     Obls.p (fun R' w' hw hs hd => by have a0 : QRep eStr A w' (R' 32) (gtD y20 (0 : Int)) := hd.g 0 rfl; exact (of_load a0.ptr Tryz.isAgg9 Tryz.sizeOf9)) <|
     Obls.p (fun R' w' hw hs hd => of_move ((hs 6 rfl).trans h6)) <|
     Obls.p (fun R' w' hw hs hd => by have a0 : R' 34 = wl_6 := hd.g 0 rfl; have ra0 := (f_wl_6.fr hw).eq a0; exact of_indexAddr ra0 rfl Tryz.underlying25 Tryz.sizeOf9 e27) <|
     Obls.p (fun R' w' hw hs hd => by have a0 : QRep eStr A w' (R' 35) (gtD y21 (0 : Int)) := hd.g 0 rfl; exact (of_load a0.ptr Tryz.isAgg9 Tryz.sizeOf9)) <|
     Obls.p (fun R' w' hw hs hd => by have a0 : Rep eStr A w' (R' 33) (gtD y20 (0 : Int)) := hd.g 0 rfl; have a1 : Rep eStr A w' (R' 36) (gtD y21 (0 : Int)) := hd.g 1 rfl; exact of_slss a0 a1) <|
     Obls.p (fun R' w' hw hs hd => by have a0 : R' 37 = .bool (bLt (gtD y20 (0 : Int)) (gtD y21 (0 : Int))) := hd.g 0 rfl; exact of_assign a0) <|
     Obls.nil
   intro R w hw hs hF'
   replace h5 := (hs 5 rfl).trans h5
   replace h6 := (hs 6 rfl).trans h6
   replace h7 := (hs 7 rfl).trans h7
   have h30 : R 30 = .bool (bLt (gtD y20 (0 : Int)) (gtD y21 (0 : Int))) := hF' 7 _ _ rfl rfl rfl
   replace f_wl_5 := f_wl_5.fr hw
   replace f_wl_6 := f_wl_6.fr hw
   replace hO := hO.fr hw
   replace hA := hA.fr hw.size
   replace hF := hF.trans hw
   clear hs hF' hw
   refine seqR_nil ?_
   refine HT.cond (bLt (gtD y20 (0 : Int)) (gtD y21 (0 : Int))) h30 (fun c28 => ?_) (fun c28 => ?_)
   ·have hr := cnd_t c28 hr
    obtain ⟨e29, hr⟩ := ck_some hr
    refine HT.text (l := ⟨_, true, .raw wl_5⟩ :: ⟨_, true, .rep (eSl eStr) A (subL y20 (1 : Int) (y20.length : Int))⟩ :: ⟨_, true, .rep (eSl eStr) A (subL y20 (1 : Int) (y20.length : Int))⟩ :: []) (tl := []) (by kernel_rfl) (by kernel_rfl) (by kernel_rfl) ?_ ?_
    ·exact
      Obls.p (fun R' w' hw hs hd => of_move ((hs 5 rfl).trans h5)) <|
      Obls.p (fun R' w' hw hs hd => by have a0 : R' 38 = wl_5 := hd.g 0 rfl; have ra0 := (f_wl_5.fr hw).eq a0; exact of_slice_sl_lo ra0 rfl Tryz.underlying25 Tryz.sizeOf9 e29) <|
      Obls.p (fun R' w' hw hs hd => by have a0 : Rep (eSl eStr) A w' (R' 39) (subL y20 (1 : Int) (y20.length : Int)) := hd.g 0 rfl; exact of_assign a0) <|
      Obls.nil
    intro R w hw hs hF'
    replace h6 := (hs 6 rfl).trans h6
    replace h7 := (hs 7 rfl).trans h7
    obtain ⟨u30, h5, f_u30⟩ : ∃ u, R 5 = u ∧ Rep (eSl eStr) A w u (subL y20 (1 : Int) (y20.length : Int)) := ⟨_, rfl, hF' 2 _ _ rfl rfl rfl⟩
    replace f_wl_6 := f_wl_6.fr hw
    replace hO := hO.fr hw
    replace hA := hA.fr hw.size
    replace hF := hF.trans hw
    clear hs hF' hw
    refine seqR_nil ?_
    exact Exists.intro k (And.intro (Nat.lt_succ_self k) ⟨_, _, _, _, u30, wl_6, hr, hA, hF, hAA, hO, h5, h6, h7, f_u30, f_wl_6⟩)
   ·have hr := cnd_f c28 hr
    refine HT.seq ?_
    obtain ⟨e31, hr⟩ := ck_some hr
    obtain ⟨e32, hr⟩ := ck_some hr
    refine HT.draw (by kernel_rfl) (l := ⟨_, true, .raw wl_6⟩ :: ⟨_, true, .qtr eStr A (gtD y21 (0 : Int))⟩ :: ⟨_, true, .rep eStr A (gtD y21 (0 : Int))⟩ :: ⟨_, true, .raw wl_5⟩ :: ⟨_, true, .qtr eStr A (gtD y20 (0 : Int))⟩ :: ⟨_, true, .rep eStr A (gtD y20 (0 : Int))⟩ :: ⟨_, true, .raw (.bool (bLt (gtD y21 (0 : Int)) (gtD y20 (0 : Int))))⟩ :: ⟨_, true, .raw (.bool (bLt (gtD y21 (0 : Int)) (gtD y20 (0 : Int))))⟩ :: []) (tl := []) (by kernel_rfl) (by kernel_rfl) (by kernel_rfl) (by kernel_rfl) ?_ ?_
    ·exact
      Obls.p (fun R' w' hw hs hd => of_move ((hs 6 rfl).trans h6)) <|
      Obls.p (fun R' w' hw hs hd => by have a0 : R' 41 = wl_6 := hd.g 0 rfl; have ra0 := (f_wl_6.fr hw).eq a0; exact of_indexAddr ra0 rfl Tryz.underlying25 Tryz.sizeOf9 e31) <|
      Obls.p (fun R' w' hw hs hd => by have a0 : QRep eStr A w' (R' 42) (gtD y21 (0 : Int)) := hd.g 0 rfl; exact (of_load a0.ptr Tryz.isAgg9 Tryz.sizeOf9)) <|
      Obls.p (fun R' w' hw hs hd => of_move ((hs 5 rfl).trans h5)) <|
      Obls.p (fun R' w' hw hs hd => by have a0 : R' 44 = wl_5 := hd.g 0 rfl; have ra0 := (f_wl_5.fr hw).eq a0; exact of_indexAddr ra0 rfl Tryz.underlying25 Tryz.sizeOf9 e32) <|
      Obls.p (fun R' w' hw hs hd => by have a0 : QRep eStr A w' (R' 45) (gtD y20 (0 : Int)) := hd.g 0 rfl; exact (of_load a0.ptr Tryz.isAgg9 Tryz.sizeOf9)) <|
      Obls.p (fun R' w' hw hs hd => by have a0 : Rep eStr A w' (R' 43) (gtD y21 (0 : Int)) := hd.g 0 rfl; have a1 : Rep eStr A w' (R' 46) (gtD y20 (0 : Int)) := hd.g 1 rfl; exact of_slss a0 a1) <|
      Obls.p (fun R' w' hw hs hd => by have a0 : R' 47 = .bool (bLt (gtD y21 (0 : Int)) (gtD y20 (0 : Int))) := hd.g 0 rfl; exact of_assign a0) <|
      Obls.nil
    intro R w hw hs hF'
    replace h5 := (hs 5 rfl).trans h5
    replace h6 := (hs 6 rfl).trans h6
    replace h7 := (hs 7 rfl).trans h7
    have h40 : R 40 = .bool (bLt (gtD y21 (0 : Int)) (gtD y20 (0 : Int))) := hF' 7 _ _ rfl rfl rfl
    replace f_wl_5 := f_wl_5.fr hw
    replace f_wl_6 := f_wl_6.fr hw
    replace hO := hO.fr hw
    replace hA := hA.fr hw.size
    replace hF := hF.trans hw
    clear hs hF' hw
    refine seqR_nil ?_
    refine HT.cond (bLt (gtD y21 (0 : Int)) (gtD y20 (0 : Int))) h40 (fun c33 => ?_) (fun c33 => ?_)
    ·have hr := cnd_t c33 hr
     obtain ⟨e34, hr⟩ := ck_some hr
     refine HT.text (l := ⟨_, true, .raw wl_6⟩ :: ⟨_, true, .rep (eSl eStr) A (subL y21 (1 : Int) (y21.length : Int))⟩ :: ⟨_, true, .rep (eSl eStr) A (subL y21 (1 : Int) (y21.length : Int))⟩ :: []) (tl := []) (by kernel_rfl) (by kernel_rfl) (by kernel_rfl) ?_ ?_
     ·exact
       Obls.p (fun R' w' hw hs hd => of_move ((hs 6 rfl).trans h6)) <|
       Obls.p (fun R' w' hw hs hd => by have a0 : R' 48 = wl_6 := hd.g 0 rfl; have ra0 := (f_wl_6.fr hw).eq a0; exact of_slice_sl_lo ra0 rfl Tryz.underlying25 Tryz.sizeOf9 e34) <|
       Obls.p (fun R' w' hw hs hd => by have a0 : Rep (eSl eStr) A w' (R' 49) (subL y21 (1 : Int) (y21.length : Int)) := hd.g 0 rfl; exact of_assign a0) <|
       Obls.nil
     intro R w hw hs hF'
     replace h5 := (hs 5 rfl).trans h5
     replace h7 := (hs 7 rfl).trans h7
     obtain ⟨u35, h6, f_u35⟩ : ∃ u, R 6 = u ∧ Rep (eSl eStr) A w u (subL y21 (1 : Int) (y21.length : Int)) := ⟨_, rfl, hF' 2 _ _ rfl rfl rfl⟩
     replace f_wl_5 := f_wl_5.fr hw
     replace hO := hO.fr hw
     replace hA := hA.fr hw.size
     replace hF := hF.trans hw
     clear hs hF' hw
     refine seqR_nil ?_
     exact Exists.intro k (And.intro (Nat.lt_succ_self k) ⟨_, _, _, _, wl_5, u35, hr, hA, hF, hAA, hO, h5, h6, h7, f_wl_5, f_u35⟩)
    ·have hr := cnd_f c33 hr
     refine HT.seq ?_
     obtain ⟨e36, hr⟩ := ck_some hr
     obtain ⟨e37, hr⟩ := ck_some hr
     refine HT.draw (by kernel_rfl) (l := ⟨_, true, .raw wl_5⟩ :: ⟨_, true, .rep (eSl eStr) A (subL y20 (1 : Int) (y20.length : Int))⟩ :: ⟨_, true, .raw wl_6⟩ :: ⟨_, true, .rep (eSl eStr) A (subL y21 (1 : Int) (y21.length : Int))⟩ :: ⟨_, true, .rep (eSl eStr) A (subL y20 (1 : Int) (y20.length : Int))⟩ :: ⟨_, true, .rep (eSl eStr) A (subL y21 (1 : Int) (y21.length : Int))⟩ :: []) (tl := []) (by kernel_rfl) (by kernel_rfl) (by kernel_rfl) (by kernel_rfl) ?_ ?_
     ·exact
       Obls.p (fun R' w' hw hs hd => of_move ((hs 5 rfl).trans h5)) <|
       Obls.p (fun R' w' hw hs hd => by have a0 : R' 24 = wl_5 := hd.g 0 rfl; have ra0 := (f_wl_5.fr hw).eq a0; exact of_slice_sl_lo ra0 rfl Tryz.underlying25 Tryz.sizeOf9 e36) <|
       Obls.p (fun R' w' hw hs hd => of_move ((hs 6 rfl).trans h6)) <|
       Obls.p (fun R' w' hw hs hd => by have a0 : R' 26 = wl_6 := hd.g 0 rfl; have ra0 := (f_wl_6.fr hw).eq a0; exact of_slice_sl_lo ra0 rfl Tryz.underlying25 Tryz.sizeOf9 e37) <|
       Obls.p (fun R' w' hw hs hd => by have a0 : Rep (eSl eStr) A w' (R' 25) (subL y20 (1 : Int) (y20.length : Int)) := hd.g 0 rfl; exact of_assign a0) <|
       Obls.p (fun R' w' hw hs hd => by have a0 : Rep (eSl eStr) A w' (R' 27) (subL y21 (1 : Int) (y21.length : Int)) := hd.g 0 rfl; exact of_assign a0) <|
       Obls.nil
     intro R w hw hs hF'
     replace h7 := (hs 7 rfl).trans h7
     obtain ⟨u38, h5, f_u38⟩ : ∃ u, R 5 = u ∧ Rep (eSl eStr) A w u (subL y20 (1 : Int) (y20.length : Int)) := ⟨_, rfl, hF' 4 _ _ rfl rfl rfl⟩
     obtain ⟨u39, h6, f_u39⟩ : ∃ u, R 6 = u ∧ Rep (eSl eStr) A w u (subL y21 (1 : Int) (y21.length : Int)) := ⟨_, rfl, hF' 5 _ _ rfl rfl rfl⟩
     replace hO := hO.fr hw
     replace hA := hA.fr hw.size
     replace hF := hF.trans hw
     clear hs hF' hw
     refine seqR_nil ?_
     obtain ⟨e40, hr⟩ := ck_some hr
     refine HT.text (l := ⟨_, true, .raw (.int .i64 y22)⟩ :: ⟨_, true, .raw (.int .i64 (y22 + (1 : Int)))⟩ :: ⟨_, true, .raw (.int .i64 (y22 + (1 : Int)))⟩ :: []) (tl := []) (by kernel_rfl) (by kernel_rfl) (by kernel_rfl) ?_ ?_
     ·exact
       Obls.p (fun R' w' hw hs hd => of_move ((hs 7 rfl).trans h7)) <|
       Obls.p (fun R' w' hw hs hd => by have a0 : R' 28 = .int .i64 y22 := hd.g 0 rfl; exact of_add a0 rfl e40) <|
       Obls.p (fun R' w' hw hs hd => by have a0 : R' 29 = .int .i64 (y22 + (1 : Int)) := hd.g 0 rfl; exact of_assign a0) <|
       Obls.nil
     intro R w hw hs hF'
     replace h5 := (hs 5 rfl).trans h5
     replace h6 := (hs 6 rfl).trans h6
     have h7 : R 7 = .int .i64 (y22 + (1 : Int)) := hF' 2 _ _ rfl rfl rfl
     replace f_u38 := f_u38.fr hw
     replace f_u39 := f_u39.fr hw
     replace hO := hO.fr hw
     replace hA := hA.fr hw.size
     replace hF := hF.trans hw
     clear hs hF' hw
     refine seqR_nil ?_
     exact Exists.intro k (And.intro (Nat.lt_succ_self k) ⟨_, _, _, _, u38, u39, hr, hA, hF, hAA, hO, h5, h6, h7, f_u38, f_u39⟩)
  ·have hr := cnd_f c25 hr
   refine HT.exit ?_
   obtain rfl := Option.some.inj hr
   exact Exists.intro _ ⟨_, rfl, hA, hF, hAA, hO, h7⟩
 rintro R w ⟨A, s19, es, hA, hF, hAA, hO, h7⟩
 obtain rfl := es.symm
 refine HT.seq ?_
 refine HT.text (l := ⟨_, true, .raw (.int .i64 s19)⟩ :: ⟨_, true, .raw (.int .i64 s19)⟩ :: []) (tl := []) (by kernel_rfl) (by kernel_rfl) (by kernel_rfl) ?_ ?_
 ·exact
   Obls.p (fun R' w' hw hs hd => of_move ((hs 7 rfl).trans h7)) <|
   Obls.p (fun R' w' hw hs hd => by have a0 : R' 50 = .int .i64 s19 := hd.g 0 rfl; exact of_assign a0) <|
   Obls.nil
 intro R w hw hs hF'
 have h4 : R 4 = .int .i64 s19 := hF' 1 _ _ rfl rfl rfl
 replace hO := hO.fr hw
 replace hA := hA.fr hw.size
 replace hF := hF.trans hw
 clear hs hF' hw
 refine seqR_nil ?_
 refine HT.ret ?_
 obtain rfl := Option.some.inj hr
 exact ⟨.inr rfl, [R 4], ⟨rfl, trivial⟩, h4, hF⟩
def M_impl_overlap (fu : Nat) (p0 : List (List UInt8)) (p1 : List (List UInt8)) : Option Int :=
 cl true (M_impl_CommonGrams fu p0 p1) fun x1 =>
 some x1
theorem M_impl_overlap_ok {fu : Nat} {A : Av} {p0 : List (List UInt8)} {p1 : List (List UInt8)} {r : Int} (hr : M_impl_overlap fu p0 p1 = some r) {w : World} {v0 : Value} {v1 : Value} (hA : AvOK A w) (h0 : Rep (eSl eStr) A w v0 p0) (h1 : Rep (eSl eStr) A w v1 p1) :
  Calls Tryz.prog 48 #[v0, v1] w fun e w' => ∃ v, e = .returned v ∧ (v = .int .i64 r ∧ Fr w w') := by
 unfold M_impl_overlap at hr
 obtain ⟨w0, hw0⟩ : ∃ w0, w0 = w := ⟨_, rfl⟩
 have hF : Fr w0 w := hw0 ▸ Fr.refl _
 rw [show Fr w = Fr w0 from hw0 ▸ rfl]
 clear hw0
 refine calls_of_HT2 [.tmp 4] Tryz.func48 Tryz.ntmps48 (by decide) rfl rfl (Nat.le_of_ble_eq_true rfl) ?_
 intro R hR
 have f_v0 := h0
 replace h0 : R 0 = v0 := hR 0 _ rfl
 have f_v1 := h1
 replace h1 : R 1 = v1 := hR 1 _ rfl
 clear hR
 refine HT.seq ?_
 refine HT.text (l := ⟨_, true, .raw (.int .i64 (0 : Int))⟩ :: []) (tl := []) (by kernel_rfl) (by kernel_rfl) (by kernel_rfl) ?_ ?_
 ·exact
   Obls.p (fun R' w' hw hs hd => of_assign rfl) <|
   Obls.nil
 intro R w hw hs hF'
 replace h0 := (hs 0 rfl).trans h0
 replace h1 := (hs 1 rfl).trans h1
 replace f_v0 := f_v0.fr hw
 replace f_v1 := f_v1.fr hw
 replace hA := hA.fr hw.size
 replace hF := hF.trans hw
 clear hs hF' hw
 refine seqR_nil ?_
 refine HT.seq ?_
 obtain ⟨x1, q2, hr⟩ := cl_some hr
 refine HT.text (l := ⟨_, true, .raw v0⟩ :: ⟨_, true, .raw v1⟩ :: ⟨_, true, .raw (.int .i64 x1)⟩ :: ⟨_, true, .raw (.int .i64 x1)⟩ :: []) (tl := []) (by kernel_rfl) (by kernel_rfl) (by kernel_rfl) ?_ ?_
 ·exact
   Obls.p (fun R' w' hw hs hd => of_move ((hs 0 rfl).trans h0)) <|
   Obls.p (fun R' w' hw hs hd => of_move ((hs 1 rfl).trans h1)) <|
   Obls.p (fun R' w' hw hs hd => by have a0 : R' 5 = v0 := hd.g 0 rfl; have ra0 := (f_v0.fr hw).eq a0; have a1 : R' 6 = v1 := hd.g 1 rfl; have ra1 := (f_v1.fr hw).eq a1; exact of_call Tryz.call88 (M_impl_CommonGrams_ok (q2 rfl) (hA.fr hw.size) ra0 ra1)) <|
   Obls.p (fun R' w' hw hs hd => by have a0 : R' 7 = .int .i64 x1 := hd.g 0 rfl; exact of_assign a0) <|
   Obls.nil
 intro R w hw hs hF'
 have h4 : R 4 = .int .i64 x1 := hF' 3 _ _ rfl rfl rfl
 replace hA := hA.fr hw.size
 replace hF := hF.trans hw
 clear hs hF' hw
 refine seqR_nil ?_
 refine HT.ret ?_
 obtain rfl := Option.some.inj hr
 exact ⟨.inr rfl, [R 4], ⟨rfl, trivial⟩, h4, hF⟩
def M_impl_MeetsJaccard (fu : Nat) (p0 : List (List UInt8)) (p1 : List (List UInt8)) (p2 : Int) : Option Bool :=
 cl true (M_impl_areTokenSets fu p0 p1) fun x1 =>
 cl (true && ((!x1) == false)) (M_impl_isSize fu (p0.length : Int)) fun x3 =>
 bd ((!x1) || (!x3)) fun x5 =>
 cl (true && (x5 == false)) (M_impl_isSize fu (p1.length : Int)) fun x7 =>
 bd (x5 || (!x7)) fun x9 =>
 cl (true && (x9 == false)) (M_impl_isThreshold fu p2) fun x11 =>
 bd (x9 || (!x11)) fun x13 =>
 bif x13 then (
  some false
 ) else (
  cl true (M_impl_overlap fu p0 p1) fun x16 =>
  ck (i64B ((1000 : Int) * x16)) <|
  ck (i64B ((p0.length : Int) + (p1.length : Int))) <|
  ck (i64B (((p0.length : Int) + (p1.length : Int)) - x16)) <|
  ck (i64B (p2 * (((p0.length : Int) + (p1.length : Int)) - x16))) <|
  some (decide ((p2 * (((p0.length : Int) + (p1.length : Int)) - x16)) ≤ ((1000 : Int) * x16)))
 )
theorem M_impl_MeetsJaccard_ok {fu : Nat} {A : Av} {p0 : List (List UInt8)} {p1 : List (List UInt8)} {p2 : Int} {r : Bool} (hr : M_impl_MeetsJaccard fu p0 p1 p2 = some r) {w : World} {v0 : Value} {v1 : Value} {v2 : Value} (hA : AvOK A w) (h0 : Rep (eSl eStr) A w v0 p0) (h1 : Rep (eSl eStr) A w v1 p1) (h2 : v2 = .int .i64 p2) :
  Calls Tryz.prog 12 #[v0, v1, v2] w fun e w' => ∃ v, e = .returned v ∧ (v = .bool r ∧ Fr w w') := by
 unfold M_impl_MeetsJaccard at hr
 obtain ⟨w0, hw0⟩ : ∃ w0, w0 = w := ⟨_, rfl⟩
 have hF : Fr w0 w := hw0 ▸ Fr.refl _
 rw [show Fr w = Fr w0 from hw0 ▸ rfl]
 clear hw0
 refine calls_of_HT2 [.tmp 6] Tryz.func12 Tryz.ntmps12 (by decide) rfl rfl (Nat.le_of_ble_eq_true rfl) ?_
 intro R hR
 have f_v0 := h0
 replace h0 : R 0 = v0 := hR 0 _ rfl
 have f_v1 := h1
 replace h1 : R 1 = v1 := hR 1 _ rfl
 replace h2 : R 2 = .int .i64 p2 := (hR 2 _ rfl).trans h2
 clear hR
 refine HT.seq ?_
 refine HT.text (l := ⟨_, true, .raw (.bool false)⟩ :: []) (tl := []) (by kernel_rfl) (by kernel_rfl) (by kernel_rfl) ?_ ?_
 ·exact
   Obls.p (fun R' w' hw hs hd => of_assign rfl) <|
   Obls.nil
 intro R w hw hs hF'
 replace h0 := (hs 0 rfl).trans h0
 replace h1 := (hs 1 rfl).trans h1
 replace h2 := (hs 2 rfl).trans h2
 replace f_v0 := f_v0.fr hw
 replace f_v1 := f_v1.fr hw
 replace hA := hA.fr hw.size
 replace hF := hF.trans hw
 clear hs hF' hw
 refine seqR_nil ?_
 refine HT.seq ?_
 refine HT.seq ?_
 obtain ⟨x1, q2, hr⟩ := cl_some hr
 obtain ⟨x3, q4, hr⟩ := cl_some hr
 obtain ⟨x5, q6, hr⟩ := bd_some hr
 obtain ⟨x7, q8, hr⟩ := cl_some hr
 obtain ⟨x9, q10, hr⟩ := bd_some hr
 obtain ⟨x11, q12, hr⟩ := cl_some hr
 obtain ⟨x13, q14, hr⟩ := bd_some hr
 refine HT.text (l := ⟨_, true, .raw v0⟩ :: ⟨_, true, .raw v1⟩ :: ⟨_, true, .raw (.bool x1)⟩ :: ⟨_, true, .raw (.bool (!x1))⟩ :: ⟨_, true, .raw (.bool (!x1))⟩ :: ⟨_, (true && ((!x1) == false)), .raw v0⟩ :: ⟨_, (true && ((!x1) == false)), .raw (.int .i64 (p0.length : Int))⟩ :: ⟨_, (true && ((!x1) == false)), .raw (.bool x3)⟩ :: ⟨_, (true && ((!x1) == false)), .raw (.bool (!x3))⟩ :: ⟨_, true, .raw (.bool x5)⟩ :: ⟨_, true, .raw (.bool x5)⟩ :: ⟨_, (true && (x5 == false)), .raw v1⟩ :: ⟨_, (true && (x5 == false)), .raw (.int .i64 (p1.length : Int))⟩ :: ⟨_, (true && (x5 == false)), .raw (.bool x7)⟩ :: ⟨_, (true && (x5 == false)), .raw (.bool (!x7))⟩ :: ⟨_, true, .raw (.bool x9)⟩ :: ⟨_, true, .raw (.bool x9)⟩ :: ⟨_, (true && (x9 == false)), .raw (.int .i64 p2)⟩ :: ⟨_, (true && (x9 == false)), .raw (.bool x11)⟩ :: ⟨_, (true && (x9 == false)), .raw (.bool (!x11))⟩ :: ⟨_, true, .raw (.bool x13)⟩ :: []) (tl := []) (by kernel_rfl) (by kernel_rfl) (by kernel_rfl) ?_ ?_
 ·exact
   Obls.p (fun R' w' hw hs hd => of_move ((hs 0 rfl).trans h0)) <|
   Obls.p (fun R' w' hw hs hd => of_move ((hs 1 rfl).trans h1)) <|
   Obls.p (fun R' w' hw hs hd => by have a0 : R' 8 = v0 := hd.g 0 rfl; have ra0 := (f_v0.fr hw).eq a0; have a1 : R' 9 = v1 := hd.g 1 rfl; have ra1 := (f_v1.fr hw).eq a1; exact of_call Tryz.call45 (M_impl_areTokenSets_ok (q2 rfl) (hA.fr hw.size) ra0 ra1)) <|
   Obls.p (fun R' w' hw hs hd => by have a0 : R' 10 = .bool x1 := hd.g 0 rfl; exact of_not a0) <|
   Obls.p (fun R' w' hw hs hd => by have a0 : R' 11 = .bool (!x1) := hd.g 0 rfl; exact of_move a0) <|
   Obls.cons (Obl.grd 4 false _ _ _ rfl rfl rfl rfl rfl (by kernel_rfl) fun hg R' w' hw hs hd => by have a0 : R' 0 = v0 := (hs 0 rfl).trans h0; exact of_move a0) <|
   Obls.cons (Obl.grd 4 false _ _ _ rfl rfl rfl rfl rfl (by kernel_rfl) fun hg R' w' hw hs hd => by have a0 : R' 13 = v0 := hd 0 _ _ _ rfl rfl rfl rfl hg; have ra0 := (f_v0.fr hw).eq a0; exact of_len_sl (aT := #[]) ra0 Tryz.underlying25) <|
   Obls.cons (Obl.grd 4 false _ _ _ rfl rfl rfl rfl rfl (by kernel_rfl) fun hg R' w' hw hs hd => by have a0 : R' 14 = .int .i64 (p0.length : Int) := hd 0 _ _ _ rfl rfl rfl rfl hg; exact of_call Tryz.call46 (M_impl_isSize_ok (q4 hg) (hA.fr hw.size) a0)) <|
   Obls.cons (Obl.grd 4 false _ _ _ rfl rfl rfl rfl rfl (by kernel_rfl) fun hg R' w' hw hs hd => by have a0 : R' 15 = .bool x3 := hd 0 _ _ _ rfl rfl rfl rfl hg; exact of_not a0) <|
   Obls.p (fun R' w' hw hs hd => by have a0 : R' 12 = .bool (!x1) := hd.g 0 rfl; exact of_pick (!x1) a0 (fun hc => by show _ = Value.bool x5; rw [q6, hc]; exact rfl) (fun hc => by have a2 : R' 16 = .bool (!x3) := hd 1 _ _ _ rfl rfl rfl rfl (g_and rfl (beq_of hc)); show _ = Value.bool x5; rw [q6, hc]; exact a2)) <|
   Obls.p (fun R' w' hw hs hd => by have a0 : R' 17 = .bool x5 := hd.g 0 rfl; exact of_move a0) <|
   Obls.cons (Obl.grd 10 false _ _ _ rfl rfl rfl rfl rfl (by kernel_rfl) fun hg R' w' hw hs hd => by have a0 : R' 1 = v1 := (hs 1 rfl).trans h1; exact of_move a0) <|
   Obls.cons (Obl.grd 10 false _ _ _ rfl rfl rfl rfl rfl (by kernel_rfl) fun hg R' w' hw hs hd => by have a0 : R' 19 = v1 := hd 0 _ _ _ rfl rfl rfl rfl hg; have ra0 := (f_v1.fr hw).eq a0; exact of_len_sl (aT := #[]) ra0 Tryz.underlying25) <|
   Obls.cons (Obl.grd 10 false _ _ _ rfl rfl rfl rfl rfl (by kernel_rfl) fun hg R' w' hw hs hd => by have a0 : R' 20 = .int .i64 (p1.length : Int) := hd 0 _ _ _ rfl rfl rfl rfl hg; exact of_call Tryz.call46 (M_impl_isSize_ok (q8 hg) (hA.fr hw.size) a0)) <|
   Obls.cons (Obl.grd 10 false _ _ _ rfl rfl rfl rfl rfl (by kernel_rfl) fun hg R' w' hw hs hd => by have a0 : R' 21 = .bool x7 := hd 0 _ _ _ rfl rfl rfl rfl hg; exact of_not a0) <|
   Obls.p (fun R' w' hw hs hd => by have a0 : R' 18 = .bool x5 := hd.g 0 rfl; exact of_pick x5 a0 (fun hc => by show _ = Value.bool x9; rw [q10, hc]; exact rfl) (fun hc => by have a2 : R' 22 = .bool (!x7) := hd 1 _ _ _ rfl rfl rfl rfl (g_and rfl (beq_of hc)); show _ = Value.bool x9; rw [q10, hc]; exact a2)) <|
   Obls.p (fun R' w' hw hs hd => by have a0 : R' 23 = .bool x9 := hd.g 0 rfl; exact of_move a0) <|
   Obls.cons (Obl.grd 16 false _ _ _ rfl rfl rfl rfl rfl (by kernel_rfl) fun hg R' w' hw hs hd => by have a0 : R' 2 = .int .i64 p2 := (hs 2 rfl).trans h2; exact of_move a0) <|
   Obls.cons (Obl.grd 16 false _ _ _ rfl rfl rfl rfl rfl (by kernel_rfl) fun hg R' w' hw hs hd => by have a0 : R' 25 = .int .i64 p2 := hd 0 _ _ _ rfl rfl rfl rfl hg; exact of_call Tryz.call47 (M_impl_isThreshold_ok (q12 hg) (hA.fr hw.size) a0)) <|
   Obls.cons (Obl.grd 16 false _ _ _ rfl rfl rfl rfl rfl (by kernel_rfl) fun hg R' w' hw hs hd => by have a0 : R' 26 = .bool x11 := hd 0 _ _ _ rfl rfl rfl rfl hg; exact of_not a0) <|
   Obls.p (fun R' w' hw hs hd => by have a0 : R' 24 = .bool x9 := hd.g 0 rfl; exact of_pick x9 a0 (fun hc => by show _ = Value.bool x13; rw [q14, hc]; exact rfl) (fun hc => by have a2 : R' 27 = .bool (!x11) := hd 1 _ _ _ rfl rfl rfl rfl (g_and rfl (beq_of hc)); show _ = Value.bool x13; rw [q14, hc]; exact a2)) <|
   Obls.nil
 intro R w hw hs hF'
 replace h0 := (hs 0 rfl).trans h0
 replace h1 := (hs 1 rfl).trans h1
 replace h2 := (hs 2 rfl).trans h2
 have h28 : R 28 = .bool x13 := hF' 20 _ _ rfl rfl rfl
 replace f_v0 := f_v0.fr hw
 replace f_v1 := f_v1.fr hw
 replace hA := hA.fr hw.size
 replace hF := hF.trans hw
 clear hs hF' hw
 refine seqR_nil ?_
 refine HT.cond x13 h28 (fun c15 => ?_) (fun c15 => ?_)
 ·have hr := cnd_t c15 hr
  refine HT.seq ?_
  refine HT.text (l := ⟨_, true, .raw (.bool false)⟩ :: []) (tl := []) (by kernel_rfl) (by kernel_rfl) (by kernel_rfl) ?_ ?_
  ·exact
    Obls.p (fun R' w' hw hs hd => of_assign rfl) <|
    Obls.nil
  intro R w hw hs hF'
  have h6 : R 6 = .bool false := hF' 0 _ _ rfl rfl rfl
  replace hA := hA.fr hw.size
  replace hF := hF.trans hw
  clear hs hF' hw
  refine seqR_nil ?_
  refine HT.ret ?_
  obtain rfl := Option.some.inj hr
  exact ⟨.inr rfl, [R 6], ⟨rfl, trivial⟩, h6, hF⟩
 ·have hr := cnd_f c15 hr
  refine HT.skip ?_
  refine HT.seq ?_
  obtain ⟨x16, q17, hr⟩ := cl_some hr
  refine HT.text (l := ⟨_, true, .raw v0⟩ :: ⟨_, true, .raw v1⟩ :: ⟨_, true, .raw (.int .i64 x16)⟩ :: ⟨_, true, .raw (.int .i64 x16)⟩ :: []) (tl := []) (by kernel_rfl) (by kernel_rfl) (by kernel_rfl) ?_ ?_
  ·exact
    Obls.p (fun R' w' hw hs hd => of_move ((hs 0 rfl).trans h0)) <|
    Obls.p (fun R' w' hw hs hd => of_move ((hs 1 rfl).trans h1)) <|
    Obls.p (fun R' w' hw hs hd => by have a0 : R' 29 = v0 := hd.g 0 rfl; have ra0 := (f_v0.fr hw).eq a0; have a1 : R' 30 = v1 := hd.g 1 rfl; have ra1 := (f_v1.fr hw).eq a1; exact of_call Tryz.call48 (M_impl_overlap_ok (q17 rfl) (hA.fr hw.size) ra0 ra1)) <|
    Obls.p (fun R' w' hw hs hd => by have a0 : R' 31 = .int .i64 x16 := hd.g 0 rfl; exact of_assign a0) <|
    Obls.nil
  intro R w hw hs hF'
  replace h0 := (hs 0 rfl).trans h0
  replace h1 := (hs 1 rfl).trans h1
  replace h2 := (hs 2 rfl).trans h2
  have h7 : R 7 = .int .i64 x16 := hF' 3 _ _ rfl rfl rfl
  replace f_v0 := f_v0.fr hw
  replace f_v1 := f_v1.fr hw
  replace hA := hA.fr hw.size
  replace hF := hF.trans hw
  clear hs hF' hw
  refine seqR_nil ?_
  refine HT.seq ?_
  obtain ⟨e18, hr⟩ := ck_some hr
  obtain ⟨e19, hr⟩ := ck_some hr
  obtain ⟨e20, hr⟩ := ck_some hr
  obtain ⟨e21, hr⟩ := ck_some hr
  refine HT.text (l := ⟨_, true, .raw (.int .i64 x16)⟩ :: ⟨_, true, .raw (.int .i64 ((1000 : Int) * x16))⟩ :: ⟨_, true, .raw (.int .i64 p2)⟩ :: ⟨_, true, .raw v0⟩ :: ⟨_, true, .raw (.int .i64 (p0.length : Int))⟩ :: ⟨_, true, .raw v1⟩ :: ⟨_, true, .raw (.int .i64 (p1.length : Int))⟩ :: ⟨_, true, .raw (.int .i64 ((p0.length : Int) + (p1.length : Int)))⟩ :: ⟨_, true, .raw (.int .i64 x16)⟩ :: ⟨_, true, .raw (.int .i64 (((p0.length : Int) + (p1.length : Int)) - x16))⟩ :: ⟨_, true, .raw (.int .i64 (p2 * (((p0.length : Int) + (p1.length : Int)) - x16)))⟩ :: ⟨_, true, .raw (.bool (decide ((p2 * (((p0.length : Int) + (p1.length : Int)) - x16)) ≤ ((1000 : Int) * x16))))⟩ :: ⟨_, true, .raw (.bool (decide ((p2 * (((p0.length : Int) + (p1.length : Int)) - x16)) ≤ ((1000 : Int) * x16))))⟩ :: []) (tl := []) (by kernel_rfl) (by kernel_rfl) (by kernel_rfl) ?_ ?_
  ·exact
    Obls.p (fun R' w' hw hs hd => of_move ((hs 7 rfl).trans h7)) <|
    Obls.p (fun R' w' hw hs hd => by have a1 : R' 32 = .int .i64 x16 := hd.g 0 rfl; exact of_mul rfl a1 e18) <|
    Obls.p (fun R' w' hw hs hd => of_move ((hs 2 rfl).trans h2)) <|
    Obls.p (fun R' w' hw hs hd => of_move ((hs 0 rfl).trans h0)) <|
    Obls.p (fun R' w' hw hs hd => by have a0 : R' 35 = v0 := hd.g 0 rfl; have ra0 := (f_v0.fr hw).eq a0; exact of_len_sl (aT := #[]) ra0 Tryz.underlying25) <|
    Obls.p (fun R' w' hw hs hd => of_move ((hs 1 rfl).trans h1)) <|
    Obls.p (fun R' w' hw hs hd => by have a0 : R' 37 = v1 := hd.g 0 rfl; have ra0 := (f_v1.fr hw).eq a0; exact of_len_sl (aT := #[]) ra0 Tryz.underlying25) <|
    Obls.p (fun R' w' hw hs hd => by have a0 : R' 36 = .int .i64 (p0.length : Int) := hd.g 0 rfl; have a1 : R' 38 = .int .i64 (p1.length : Int) := hd.g 1 rfl; exact of_add a0 a1 e19) <|
    Obls.p (fun R' w' hw hs hd => of_move ((hs 7 rfl).trans h7)) <|
    Obls.p (fun R' w' hw hs hd => by have a0 : R' 39 = .int .i64 ((p0.length : Int) + (p1.length : Int)) := hd.g 0 rfl; have a1 : R' 40 = .int .i64 x16 := hd.g 1 rfl; exact of_sub a0 a1 e20) <|
    Obls.p (fun R' w' hw hs hd => by have a0 : R' 34 = .int .i64 p2 := hd.g 0 rfl; have a1 : R' 41 = .int .i64 (((p0.length : Int) + (p1.length : Int)) - x16) := hd.g 1 rfl; exact of_mul a0 a1 e21) <|
    Obls.p (fun R' w' hw hs hd => by have a0 : R' 33 = .int .i64 ((1000 : Int) * x16) := hd.g 0 rfl; have a1 : R' 42 = .int .i64 (p2 * (((p0.length : Int) + (p1.length : Int)) - x16)) := hd.g 1 rfl; exact of_geq a0 a1) <|
    Obls.p (fun R' w' hw hs hd => by have a0 : R' 43 = .bool (decide ((p2 * (((p0.length : Int) + (p1.length : Int)) - x16)) ≤ ((1000 : Int) * x16))) := hd.g 0 rfl; exact of_assign a0) <|
    Obls.nil
  intro R w hw hs hF'
  have h6 : R 6 = .bool (decide ((p2 * (((p0.length : Int) + (p1.length : Int)) - x16)) ≤ ((1000 : Int) * x16))) := hF' 12 _ _ rfl rfl rfl
  replace hA := hA.fr hw.size
  replace hF := hF.trans hw
  clear hs hF' hw
  refine seqR_nil ?_
  refine HT.ret ?_
  obtain rfl := Option.some.inj hr
  exact ⟨.inr rfl, [R 6], ⟨rfl, trivial⟩, h6, hF⟩
def M_spec_l5Sets (fu : Nat) (p0 : List (List UInt8)) (p1 : List (List UInt8)) : Option Bool :=
 cl true (M_spec_IsTokenSet fu p0) fun x1 =>
 cl (true && (x1 == true)) (M_spec_IsTokenSet fu p1) fun x3 =>
 bd (x1 && x3) fun x5 =>
 some x5
theorem M_spec_l5Sets_ok {fu : Nat} {A : Av} {p0 : List (List UInt8)} {p1 : List (List UInt8)} {r : Bool} (hr : M_spec_l5Sets fu p0 p1 = some r) {w : World} {v0 : Value} {v1 : Value} (hA : AvOK A w) (h0 : Rep (eSl eStr) A w v0 p0) (h1 : Rep (eSl eStr) A w v1 p1) :
  Calls Tryz.prog 49 #[v0, v1] w fun e w' => ∃ v, e = .returned v ∧ (v = .bool r ∧ Fr w w') := by
 unfold M_spec_l5Sets at hr
 obtain ⟨w0, hw0⟩ : ∃ w0, w0 = w := ⟨_, rfl⟩
 have hF : Fr w0 w := hw0 ▸ Fr.refl _
 rw [show Fr w = Fr w0 from hw0 ▸ rfl]
 clear hw0
 refine calls_of_HT2 [.tmp 4] Tryz.func49 Tryz.ntmps49 (by decide) rfl rfl (Nat.le_of_ble_eq_true rfl) ?_
 intro R hR
 have f_v0 := h0
 replace h0 : R 0 = v0 := hR 0 _ rfl
 have f_v1 := h1
 replace h1 : R 1 = v1 := hR 1 _ rfl
 clear hR
 refine HT.seq ?_
 refine HT.text (l := ⟨_, true, .raw (.bool false)⟩ :: []) (tl := []) (by kernel_rfl) (by kernel_rfl) (by kernel_rfl) ?_ ?_
 ·exact
   Obls.p (fun R' w' hw hs hd => of_assign rfl) <|
   Obls.nil
 intro R w hw hs hF'
 replace h0 := (hs 0 rfl).trans h0
 replace h1 := (hs 1 rfl).trans h1
 replace f_v0 := f_v0.fr hw
 replace f_v1 := f_v1.fr hw
 replace hA := hA.fr hw.size
 replace hF := hF.trans hw
 clear hs hF' hw
 refine seqR_nil ?_
 refine HT.seq ?_
 obtain ⟨x1, q2, hr⟩ := cl_some hr
 obtain ⟨x3, q4, hr⟩ := cl_some hr
 obtain ⟨x5, q6, hr⟩ := bd_some hr
 refine HT.text (l := ⟨_, true, .raw v0⟩ :: ⟨_, true, .raw (.bool x1)⟩ :: ⟨_, true, .raw (.bool x1)⟩ :: ⟨_, (true && (x1 == true)), .raw v1⟩ :: ⟨_, (true && (x1 == true)), .raw (.bool x3)⟩ :: ⟨_, true, .raw (.bool x5)⟩ :: ⟨_, true, .raw (.bool x5)⟩ :: []) (tl := []) (by kernel_rfl) (by kernel_rfl) (by kernel_rfl) ?_ ?_
 ·exact
   Obls.p (fun R' w' hw hs hd => of_move ((hs 0 rfl).trans h0)) <|
   Obls.p (fun R' w' hw hs hd => by have a0 : R' 5 = v0 := hd.g 0 rfl; have ra0 := (f_v0.fr hw).eq a0; exact of_call Tryz.call20 (M_spec_IsTokenSet_ok (q2 rfl) (hA.fr hw.size) ra0)) <|
   Obls.p (fun R' w' hw hs hd => by have a0 : R' 6 = .bool x1 := hd.g 0 rfl; exact of_move a0) <|
   Obls.cons (Obl.grd 2 true _ _ _ rfl rfl rfl rfl rfl (by kernel_rfl) fun hg R' w' hw hs hd => by have a0 : R' 1 = v1 := (hs 1 rfl).trans h1; exact of_move a0) <|
   Obls.cons (Obl.grd 2 true _ _ _ rfl rfl rfl rfl rfl (by kernel_rfl) fun hg R' w' hw hs hd => by have a0 : R' 8 = v1 := hd 0 _ _ _ rfl rfl rfl rfl hg; have ra0 := (f_v1.fr hw).eq a0; exact of_call Tryz.call20 (M_spec_IsTokenSet_ok (q4 hg) (hA.fr hw.size) ra0)) <|
   Obls.p (fun R' w' hw hs hd => by have a0 : R' 7 = .bool x1 := hd.g 0 rfl; exact of_pick x1 a0 (fun hc => by have a1 : R' 9 = .bool x3 := hd 1 _ _ _ rfl rfl rfl rfl (g_and rfl (beq_of hc)); show _ = Value.bool x5; rw [q6, hc]; exact a1) (fun hc => by show _ = Value.bool x5; rw [q6, hc]; exact rfl)) <|
   Obls.p (fun R' w' hw hs hd => by have a0 : R' 10 = .bool x5 := hd.g 0 rfl; exact of_assign a0) <|
   Obls.nil
 intro R w hw hs hF'
 have h4 : R 4 = .bool x5 := hF' 6 _ _ rfl rfl rfl
 replace hA := hA.fr hw.size
 replace hF := hF.trans hw
 clear hs hF' hw
 refine seqR_nil ?_
 refine HT.ret ?_
 obtain rfl := Option.some.inj hr
 exact ⟨.inr rfl, [R 4], ⟨rfl, trivial⟩, h4, hF⟩
def M_spec_UniteTokens_L0 (fu : Nat) (p0 : List (List UInt8)) : Nat → Int → (List (List UInt8)) → Option (List (List UInt8))
 | 0, _, _ => none
 | k + 1, y5, y6 =>
  bif (decide (y5 < (p0.length : Int))) then (
   ck (inR y5 p0.length) <|
   cl true (M_spec_l3Put fu y6 (gtD p0 y5) false) fun x9 =>
   ck (i64B (y5 + (1 : Int))) <|
   M_spec_UniteTokens_L0 fu p0 k (y5 + (1 : Int)) x9
  ) else (
   some y6
  )
def M_spec_UniteTokens_L1 (fu : Nat) (p1 : List (List UInt8)) : Nat → Int → (List (List UInt8)) → Option (List (List UInt8))
 | 0, _, _ => none
 | k + 1, y16, y17 =>
  bif (decide (y16 < (p1.length : Int))) then (
   ck (inR y16 p1.length) <|
   cl true (M_spec_l3Put fu y17 (gtD p1 y16) false) fun x20 =>
   ck (i64B (y16 + (1 : Int))) <|
   M_spec_UniteTokens_L1 fu p1 k (y16 + (1 : Int)) x20
  ) else (
   some y17
  )
def M_spec_UniteTokens (fu : Nat) (p0 : List (List UInt8)) (p1 : List (List UInt8)) : Option (List (List UInt8)) :=
 cl true (M_spec_UniteTokens_L0 fu p0 fu (0 : Int) ([] : List (List UInt8))) fun s4 =>
 cl true (M_spec_UniteTokens_L1 fu p1 fu (0 : Int) s4) fun s15 =>
 some s15
theorem M_spec_UniteTokens_ok {fu : Nat} {A0 : Av} {p0 : List (List UInt8)} {p1 : List (List UInt8)} {r : List (List UInt8)} (hr : M_spec_UniteTokens fu p0 p1 = some r) {w : World} {v0 : Value} {v1 : Value} (hA : AvOK A0 w) (h0 : Rep (eSl eStr) A0 w v0 p0) (h1 : Rep (eSl eStr) A0 w v1 p1) :
  Calls Tryz.prog 51 #[v0, v1] w fun e w' => ∃ v, e = .returned v ∧ ((Res.vec w.heap.size 9 eStr r).ok (addA A0 v) v w' ∧ Fr w w') := by
 unfold M_spec_UniteTokens at hr
 obtain ⟨w0, hw0⟩ : ∃ w0, w0 = w := ⟨_, rfl⟩
 have hF : Fr w0 w := hw0 ▸ Fr.refl _
 have hA0 : ∀ b o, A0 b o → b < w0.heap.size := fun b o h => hw0 ▸ hA b o h
 have hA00 : AvOK A0 w0 := hA0
 rw [show w.heap.size = w0.heap.size from hw0 ▸ rfl]
 rw [show Fr w = Fr w0 from hw0 ▸ rfl]
 clear hw0
 obtain ⟨A, hAe⟩ : ∃ A, A = A0 := ⟨_, rfl⟩
 have hAA : ∀ b o, A0 b o → A b o := fun b o h => hAe ▸ h
 replace hA : AvOK A w := hAe ▸ hA
 have hO : IniOK [] A w := IniOK.nil
 refine calls_of_HT2 [.tmp 4] Tryz.func51 Tryz.ntmps51 (by decide) rfl rfl (Nat.le_of_ble_eq_true rfl) ?_
 intro R hR
 have f_v0 : Rep (eSl eStr) A w v0 p0 := hAe ▸ h0
 replace h0 : R 0 = v0 := hR 0 _ rfl
 have f_v1 : Rep (eSl eStr) A w v1 p1 := hAe ▸ h1
 replace h1 : R 1 = v1 := hR 1 _ rfl
 clear hR hAe
 refine HT.seq ?_
 refine HT.text (l := ⟨_, true, .any⟩ :: []) (tl := []) (by kernel_rfl) (by kernel_rfl) (by kernel_rfl) ?_ ?_
 ·exact
   Obls.p (fun R' w' hw hs hd => of_assign trivial) <|
   Obls.nil
 intro R w hw hs hF'
 replace h0 := (hs 0 rfl).trans h0
 replace h1 := (hs 1 rfl).trans h1
 replace f_v0 := f_v0.fr hw
 replace f_v1 := f_v1.fr hw
 replace hO := hO.fr hw
 replace hA := hA.fr hw.size
 replace hF := hF.trans hw
 clear hs hF' hw
 refine seqR_nil ?_
 refine HT.seq ?_
 refine HT.textR [] (⟨_, true, [], some (.vec w0.heap.size 9 eStr ([] : List (List UInt8))), true, fun A => .any⟩ :: ⟨_, true, [0], some (.vec w0.heap.size 9 eStr ([] : List (List UInt8))), true, fun A => .any⟩ :: []) (by kernel_rfl) (by kernel_rfl) (Wf.mk' (by kernel_rfl) (UAll.cons ust_any (UAll.cons ust_any (UAll.nil))) (by kernel_rfl) (by kernel_rfl)) hO hA ?_ ?_
 ·exact
   OblsR.cons (OblR.made _ rfl rfl rfl rfl fun A' R' w' ho hd => by exact made_build [] (E := eStr) trivial Tryz.underlying25 Tryz.sizeOf9 Tryz.zeroValue9 rfl rfl rfl (Nat.le_trans hF.size ho.ch.size)) <|
   OblsR.cons (OblR.took 0 _ _ rfl rfl rfl rfl rfl fun A' R' w' ho hd u hok hav hin hop hds => by exact took_assign (hop _ _ rfl rfl rfl rfl).symm hok hav) <|
   OblsR.nil
 intro done ρ σ A R w hdn hI
 replace h0 : R 0 = v0 := (hI.reg rfl).trans h0
 replace h1 : R 1 = v1 := (hI.reg rfl).trans h1
 obtain ⟨u1, e_u1⟩ : ∃ u, ρ 1 = u := ⟨_, rfl⟩
 have h5 : R 5 = u1 := (hI.opvR hdn 1 1 rfl rfl rfl rfl rfl).symm.trans e_u1
 replace f_v0 := f_v0.stp hI.stp
 replace f_v1 := f_v1.stp hI.stp
 replace hAA := hI.low' hAA hA0 (hO.ge (trivial))
 replace hF : Fr w0 w := hF.tr hI.ch (hO.ge (trivial))
 replace hO : IniOK [ob u1 (.vec w0.heap.size 9 eStr ([] : List (List UInt8)))] A w := hI.left hdn [(1, ob u1 (.vec w0.heap.size 9 eStr ([] : List (List UInt8))))] ⟨rfl, rfl, e_u1, rfl, rfl, trivial⟩
 replace hA := hI.avok
 clear hI
 refine HT.seq ?_
 refine HT.seq ?_
 refine HT.text (l := ⟨_, true, .raw (.int .i64 (0 : Int))⟩ :: []) (tl := []) (by kernel_rfl) (by kernel_rfl) (by kernel_rfl) ?_ ?_
 ·exact
   Obls.p (fun R' w' hw hs hd => of_assign rfl) <|
   Obls.nil
 intro R w hw hs hF'
 replace h0 := (hs 0 rfl).trans h0
 replace h1 := (hs 1 rfl).trans h1
 replace h5 := (hs 5 rfl).trans h5
 have h6 : R 6 = .int .i64 (0 : Int) := hF' 0 _ _ rfl rfl rfl
 replace f_v0 := f_v0.fr hw
 replace f_v1 := f_v1.fr hw
 replace hO := hO.fr hw
 replace hA := hA.fr hw.size
 replace hF := hF.trans hw
 clear hs hF' hw
 refine seqR_nil ?_
 obtain ⟨rl2, q3, hr⟩ := cl_some hr
 replace q3 := q3 rfl
 refine HT.cut0 (fun R w => ∃ A : Av, ∃ (s4 : (List (List UInt8))) (uo_u1 : Value), rl2 = s4 ∧ AvOK A w ∧ Fr w0 w ∧ (∀ b o, A0 b o → A b o) ∧ IniOK [ob uo_u1 (.vec w0.heap.size 9 eStr s4)] A w ∧ R 1 = v1 ∧ R 5 = uo_u1 ∧ Rep (eSl eStr) A w v1 p1) ?_ ?_
 ·refine HT.block ?_
  refine HT.loop (fun k R w => ∃ A : Av, ∃ (y5 : Int) (y6 : List (List UInt8)) (ul_u1 : Value), M_spec_UniteTokens_L0 fu p0 k y5 y6 = some rl2 ∧ AvOK A w ∧ Fr w0 w ∧ (∀ b o, A0 b o → A b o) ∧ IniOK [ob ul_u1 (.vec w0.heap.size 9 eStr y6)] A w ∧ R 0 = v0 ∧ R 1 = v1 ∧ R 5 = ul_u1 ∧ R 6 = .int .i64 y5 ∧ Rep (eSl eStr) A w v0 p0 ∧ Rep (eSl eStr) A w v1 p1) fu ⟨_, _, _, u1, q3, hA, hF, hAA, hO, h0, h1, h5, h6, f_v0, f_v1⟩ ?_
  have hr0 := hr; clear hr q3
  rintro k R w ⟨A, y5, y6, ul_u1, hr, hA, hF, hAA, hO, h0, h1, h5, h6, f_v0, f_v1⟩
  rcases k with _ | k
  ·cases (show none = some _ from hr)
  rw [M_spec_UniteTokens_L0] at hr
  refine HT.seq ?_
  refine HT.seq ?_
  refine HT.text (l := ⟨_, true, .raw (.int .i64 y5)⟩ :: ⟨_, true, .raw v0⟩ :: ⟨_, true, .raw (.int .i64 (p0.length : Int))⟩ :: ⟨_, true, .raw (.bool (decide (y5 < (p0.length : Int))))⟩ :: []) (tl := []) (by kernel_rfl) (by kernel_rfl) (by kernel_rfl) ?_ ?_
  ·exact
    Obls.p (fun R' w' hw hs hd => of_move ((hs 6 rfl).trans h6)) <|
    Obls.p (fun R' w' hw hs hd => of_move ((hs 0 rfl).trans h0)) <|
    Obls.p (fun R' w' hw hs hd => by have a0 : R' 10 = v0 := hd.g 0 rfl; have ra0 := (f_v0.fr hw).eq a0; exact of_len_sl (aT := #[]) ra0 Tryz.underlying25) <|
    Obls.p (fun R' w' hw hs hd => by have a0 : R' 9 = .int .i64 y5 := hd.g 0 rfl; have a1 : R' 11 = .int .i64 (p0.length : Int) := hd.g 1 rfl; exact of_lss a0 a1) <|
    Obls.nil
  intro R w hw hs hF'
  replace h0 := (hs 0 rfl).trans h0
  replace h1 := (hs 1 rfl).trans h1
  replace h5 := (hs 5 rfl).trans h5
  replace h6 := (hs 6 rfl).trans h6
  have h12 : R 12 = .bool (decide (y5 < (p0.length : Int))) := hF' 3 _ _ rfl rfl rfl
  replace f_v0 := f_v0.fr hw
  replace f_v1 := f_v1.fr hw
  replace hO := hO.fr hw
  replace hA := hA.fr hw.size
  replace hF := hF.trans hw
  clear hs hF' hw
  refine seqR_nil ?_
  refine HT.cond (decide (y5 < (p0.length : Int))) h12 (fun c7 => ?_) (fun c7 => ?_)
  ·have hr := cnd_t c7 hr
   refine HT.skip ?_
   refine HT.seq ?_
   refine HT.block ?_
   obtain ⟨e8, hr⟩ := ck_some hr
   obtain ⟨x9, q10, hr⟩ := cl_some hr
   refine HT.textR [ob ul_u1 (.vec w0.heap.size 9 eStr y6)] (⟨_, true, [], none, true, fun A => .raw ul_u1⟩ :: ⟨_, true, [], none, true, fun A => .raw v0⟩ :: ⟨_, true, [], none, true, fun A => .raw (.int .i64 y5)⟩ :: ⟨_, true, [], none, true, fun A => .qtr eStr A (gtD p0 y5)⟩ :: ⟨_, true, [], none, true, fun A => .rep eStr A (gtD p0 y5)⟩ :: ⟨_, true, [0], some (.vec w0.heap.size 9 eStr x9), true, fun A => .any⟩ :: ⟨_, true, [6], some (.vec w0.heap.size 9 eStr x9), true, fun A => .any⟩ :: []) (by kernel_rfl) (by kernel_rfl) (Wf.mk' (by kernel_rfl) (UAll.cons ust_raw (UAll.cons ust_raw (UAll.cons ust_raw (UAll.cons ust_qtr (UAll.cons ust_rep (UAll.cons ust_any (UAll.cons ust_any (UAll.nil)))))))) (by kernel_rfl) (by kernel_rfl)) hO hA ?_ ?_
   ·exact
     OblsR.p (fun A' R' w' ho hd => of_move ((ho.old 5 rfl).trans h5)) <|
     OblsR.p (fun A' R' w' ho hd => of_move ((ho.old 0 rfl).trans h0)) <|
     OblsR.p (fun A' R' w' ho hd => of_move ((ho.old 6 rfl).trans h6)) <|
     OblsR.p (fun A' R' w' ho hd => by have a0 : R' 16 = v0 := hd.g 0 rfl; have a1 : R' 17 = .int .i64 y5 := hd.g 1 rfl; have ra0 := (f_v0.stp ho.stp).eq a0; exact of_indexAddr ra0 a1 Tryz.underlying25 Tryz.sizeOf9 e8) <|
     OblsR.p (fun A' R' w' ho hd => by have a0 : QRep eStr A' w' (R' 18) (gtD p0 y5) := hd.g 0 rfl; exact (of_load a0.ptr Tryz.isAgg9 Tryz.sizeOf9)) <|
     OblsR.cons (OblR.took 0 _ _ rfl rfl rfl rfl rfl fun A' R' w' ho hd u hok hav hin hop hds => by have a0 : R' 15 = ul_u1 := hd.g 0 rfl; have a1 : Rep eStr A' w' (R' 19) (gtD p0 y5) := hd.g 1 rfl; have hu0 : evalR R' (.tmp 15) = u := a0.trans (hin _ rfl).symm; exact took_callm Tryz.call56 hav (by simp only [List.map, hu0]; exact M_spec_l3Put_ok (q10 rfl) (ho.av.sub _) (fun b o h => h.2) (Nat.le_trans hF.size ho.ch.size) (Vec.flat hok (fun _ _ _ _ _ h => h)) (a1.less fun b o h => h.1) rfl)) <|
     OblsR.cons (OblR.took 6 _ _ rfl rfl rfl rfl rfl fun A' R' w' ho hd u hok hav hin hop hds => by exact took_assign (hop _ _ rfl rfl rfl rfl).symm hok hav) <|
     OblsR.nil
   intro done ρ σ A R w hdn hI
   replace h0 : R 0 = v0 := (hI.reg rfl).trans h0
   replace h1 : R 1 = v1 := (hI.reg rfl).trans h1
   replace h6 : R 6 = .int .i64 y5 := (hI.reg rfl).trans h6
   obtain ⟨u11, e_u11⟩ : ∃ u, ρ 7 = u := ⟨_, rfl⟩
   have h5 : R 5 = u11 := (hI.opvR hdn 7 6 rfl rfl rfl rfl rfl).symm.trans e_u11
   replace f_v0 := f_v0.stp hI.stp
   replace f_v1 := f_v1.stp hI.stp
   replace hAA := hI.low' hAA hA0 (hO.ge (⟨rfl, trivial⟩))
   replace hF : Fr w0 w := hF.tr hI.ch (hO.ge (⟨rfl, trivial⟩))
   replace hO : IniOK [ob u11 (.vec w0.heap.size 9 eStr x9)] A w := hI.left hdn [(7, ob u11 (.vec w0.heap.size 9 eStr x9))] ⟨rfl, rfl, e_u11, rfl, rfl, trivial⟩
   replace hA := hI.avok
   clear hI
   obtain ⟨e12, hr⟩ := ck_some hr
   refine HT.text (l := ⟨_, true, .raw (.int .i64 y5)⟩ :: ⟨_, true, .raw (.int .i64 (y5 + (1 : Int)))⟩ :: ⟨_, true, .raw (.int .i64 (y5 + (1 : Int)))⟩ :: []) (tl := []) (by kernel_rfl) (by kernel_rfl) (by kernel_rfl) ?_ ?_
   ·exact
     Obls.p (fun R' w' hw hs hd => of_move ((hs 6 rfl).trans h6)) <|
     Obls.p (fun R' w' hw hs hd => by have a0 : R' 13 = .int .i64 y5 := hd.g 0 rfl; exact of_add a0 rfl e12) <|
     Obls.p (fun R' w' hw hs hd => by have a0 : R' 14 = .int .i64 (y5 + (1 : Int)) := hd.g 0 rfl; exact of_assign a0) <|
     Obls.nil
   intro R w hw hs hF'
   replace h0 := (hs 0 rfl).trans h0
   replace h1 := (hs 1 rfl).trans h1
   replace h5 := (hs 5 rfl).trans h5
   have h6 : R 6 = .int .i64 (y5 + (1 : Int)) := hF' 2 _ _ rfl rfl rfl
   replace f_v0 := f_v0.fr hw
   replace f_v1 := f_v1.fr hw
   replace hO := hO.fr hw
   replace hA := hA.fr hw.size
   replace hF := hF.trans hw
   clear hs hF' hw
   refine seqR_nil ?_
   exact Exists.intro k (And.intro (Nat.lt_succ_self k) ⟨_, _, _, u11, hr, hA, hF, hAA, hO, h0, h1, h5, h6, f_v0, f_v1⟩)
  ·have hr := cnd_f c7 hr
   refine HT.exit ?_
   obtain rfl := Option.some.inj hr
   exact Exists.intro _ ⟨_, ul_u1, rfl, hA, hF, hAA, hO, h1, h5, f_v1⟩
 rintro R w ⟨A, s4, uo_u1, es, hA, hF, hAA, hO, h1, h5, f_v1⟩
 obtain rfl := es.symm
 refine HT.seq ?_
 refine HT.seq ?_
 refine HT.text (l := ⟨_, true, .raw (.int .i64 (0 : Int))⟩ :: []) (tl := []) (by kernel_rfl) (by kernel_rfl) (by kernel_rfl) ?_ ?_
 ·exact
   Obls.p (fun R' w' hw hs hd => of_assign rfl) <|
   Obls.nil
 intro R w hw hs hF'
 replace h1 := (hs 1 rfl).trans h1
 replace h5 := (hs 5 rfl).trans h5
 have h7 : R 7 = .int .i64 (0 : Int) := hF' 0 _ _ rfl rfl rfl
 replace f_v1 := f_v1.fr hw
 replace hO := hO.fr hw
 replace hA := hA.fr hw.size
 replace hF := hF.trans hw
 clear hs hF' hw
 refine seqR_nil ?_
 obtain ⟨rl13, q14, hr⟩ := cl_some hr
 replace q14 := q14 rfl
 refine HT.cut0 (fun R w => ∃ A : Av, ∃ (s15 : (List (List UInt8))) (uo_uo_u1 : Value), rl13 = s15 ∧ AvOK A w ∧ Fr w0 w ∧ (∀ b o, A0 b o → A b o) ∧ IniOK [ob uo_uo_u1 (.vec w0.heap.size 9 eStr s15)] A w ∧ R 5 = uo_uo_u1) ?_ ?_
 ·refine HT.block ?_
  refine HT.loop (fun k R w => ∃ A : Av, ∃ (y16 : Int) (y17 : List (List UInt8)) (ul_uo_u1 : Value), M_spec_UniteTokens_L1 fu p1 k y16 y17 = some rl13 ∧ AvOK A w ∧ Fr w0 w ∧ (∀ b o, A0 b o → A b o) ∧ IniOK [ob ul_uo_u1 (.vec w0.heap.size 9 eStr y17)] A w ∧ R 1 = v1 ∧ R 5 = ul_uo_u1 ∧ R 7 = .int .i64 y16 ∧ Rep (eSl eStr) A w v1 p1) fu ⟨_, _, _, uo_u1, q14, hA, hF, hAA, hO, h1, h5, h7, f_v1⟩ ?_
  have hr0 := hr; clear hr q14
  rintro k R w ⟨A, y16, y17, ul_uo_u1, hr, hA, hF, hAA, hO, h1, h5, h7, f_v1⟩
  rcases k with _ | k
  ·cases (show none = some _ from hr)
  rw [M_spec_UniteTokens_L1] at hr
  refine HT.seq ?_
  refine HT.seq ?_
  refine HT.text (l := ⟨_, true, .raw (.int .i64 y16)⟩ :: ⟨_, true, .raw v1⟩ :: ⟨_, true, .raw (.int .i64 (p1.length : Int))⟩ :: ⟨_, true, .raw (.bool (decide (y16 < (p1.length : Int))))⟩ :: []) (tl := []) (by kernel_rfl) (by kernel_rfl) (by kernel_rfl) ?_ ?_
  ·exact
    Obls.p (fun R' w' hw hs hd => of_move ((hs 7 rfl).trans h7)) <|
    Obls.p (fun R' w' hw hs hd => of_move ((hs 1 rfl).trans h1)) <|
    Obls.p (fun R' w' hw hs hd => by have a0 : R' 22 = v1 := hd.g 0 rfl; have ra0 := (f_v1.fr hw).eq a0; exact of_len_sl (aT := #[]) ra0 Tryz.underlying25) <|
    Obls.p (fun R' w' hw hs hd => by have a0 : R' 21 = .int .i64 y16 := hd.g 0 rfl; have a1 : R' 23 = .int .i64 (p1.length : Int) := hd.g 1 rfl; exact of_lss a0 a1) <|
    Obls.nil
  intro R w hw hs hF'
  replace h1 := (hs 1 rfl).trans h1
  replace h5 := (hs 5 rfl).trans h5
  replace h7 := (hs 7 rfl).trans h7
  have h24 : R 24 = .bool (decide (y16 < (p1.length : Int))) := hF' 3 _ _ rfl rfl rfl
  replace f_v1 := f_v1.fr hw
  replace hO := hO.fr hw
  replace hA := hA.fr hw.size
  replace hF := hF.trans hw
  clear hs hF' hw
  refine seqR_nil ?_
  refine HT.cond (decide (y16 < (p1.length : Int))) h24 (fun c18 => ?_) (fun c18 => ?_)
  ·have hr := cnd_t c18 hr
   refine HT.skip ?_
   refine HT.seq ?_
   refine HT.block ?_
   obtain ⟨e19, hr⟩ := ck_some hr
   obtain ⟨x20, q21, hr⟩ := cl_some hr
   refine HT.textR [ob ul_uo_u1 (.vec w0.heap.size 9 eStr y17)] (⟨_, true, [], none, true, fun A => .raw ul_uo_u1⟩ :: ⟨_, true, [], none, true, fun A => .raw v1⟩ :: ⟨_, true, [], none, true, fun A => .raw (.int .i64 y16)⟩ :: ⟨_, true, [], none, true, fun A => .qtr eStr A (gtD p1 y16)⟩ :: ⟨_, true, [], none, true, fun A => .rep eStr A (gtD p1 y16)⟩ :: ⟨_, true, [0], some (.vec w0.heap.size 9 eStr x20), true, fun A => .any⟩ :: ⟨_, true, [6], some (.vec w0.heap.size 9 eStr x20), true, fun A => .any⟩ :: []) (by kernel_rfl) (by kernel_rfl) (Wf.mk' (by kernel_rfl) (UAll.cons ust_raw (UAll.cons ust_raw (UAll.cons ust_raw (UAll.cons ust_qtr (UAll.cons ust_rep (UAll.cons ust_any (UAll.cons ust_any (UAll.nil)))))))) (by kernel_rfl) (by kernel_rfl)) hO hA ?_ ?_
   ·exact
     OblsR.p (fun A' R' w' ho hd => of_move ((ho.old 5 rfl).trans h5)) <|
     OblsR.p (fun A' R' w' ho hd => of_move ((ho.old 1 rfl).trans h1)) <|
     OblsR.p (fun A' R' w' ho hd => of_move ((ho.old 7 rfl).trans h7)) <|
     OblsR.p (fun A' R' w' ho hd => by have a0 : R' 28 = v1 := hd.g 0 rfl; have a1 : R' 29 = .int .i64 y16 := hd.g 1 rfl; have ra0 := (f_v1.stp ho.stp).eq a0; exact of_indexAddr ra0 a1 Tryz.underlying25 Tryz.sizeOf9 e19) <|
     OblsR.p (fun A' R' w' ho hd => by have a0 : QRep eStr A' w' (R' 30) (gtD p1 y16) := hd.g 0 rfl; exact (of_load a0.ptr Tryz.isAgg9 Tryz.sizeOf9)) <|
     OblsR.cons (OblR.took 0 _ _ rfl rfl rfl rfl rfl fun A' R' w' ho hd u hok hav hin hop hds => by have a0 : R' 27 = ul_uo_u1 := hd.g 0 rfl; have a1 : Rep eStr A' w' (R' 31) (gtD p1 y16) := hd.g 1 rfl; have hu0 : evalR R' (.tmp 27) = u := a0.trans (hin _ rfl).symm; exact took_callm Tryz.call56 hav (by simp only [List.map, hu0]; exact M_spec_l3Put_ok (q21 rfl) (ho.av.sub _) (fun b o h => h.2) (Nat.le_trans hF.size ho.ch.size) (Vec.flat hok (fun _ _ _ _ _ h => h)) (a1.less fun b o h => h.1) rfl)) <|
     OblsR.cons (OblR.took 6 _ _ rfl rfl rfl rfl rfl fun A' R' w' ho hd u hok hav hin hop hds => by exact took_assign (hop _ _ rfl rfl rfl rfl).symm hok hav) <|
     OblsR.nil
   intro done ρ σ A R w hdn hI
   replace h1 : R 1 = v1 := (hI.reg rfl).trans h1
   replace h7 : R 7 = .int .i64 y16 := (hI.reg rfl).trans h7
   obtain ⟨u22, e_u22⟩ : ∃ u, ρ 7 = u := ⟨_, rfl⟩
   have h5 : R 5 = u22 := (hI.opvR hdn 7 6 rfl rfl rfl rfl rfl).symm.trans e_u22
   replace f_v1 := f_v1.stp hI.stp
   replace hAA := hI.low' hAA hA0 (hO.ge (⟨rfl, trivial⟩))
   replace hF : Fr w0 w := hF.tr hI.ch (hO.ge (⟨rfl, trivial⟩))
   replace hO : IniOK [ob u22 (.vec w0.heap.size 9 eStr x20)] A w := hI.left hdn [(7, ob u22 (.vec w0.heap.size 9 eStr x20))] ⟨rfl, rfl, e_u22, rfl, rfl, trivial⟩
   replace hA := hI.avok
   clear hI
   obtain ⟨e23, hr⟩ := ck_some hr
   refine HT.text (l := ⟨_, true, .raw (.int .i64 y16)⟩ :: ⟨_, true, .raw (.int .i64 (y16 + (1 : Int)))⟩ :: ⟨_, true, .raw (.int .i64 (y16 + (1 : Int)))⟩ :: []) (tl := []) (by kernel_rfl) (by kernel_rfl) (by kernel_rfl) ?_ ?_
   ·exact
     Obls.p (fun R' w' hw hs hd => of_move ((hs 7 rfl).trans h7)) <|
     Obls.p (fun R' w' hw hs hd => by have a0 : R' 25 = .int .i64 y16 := hd.g 0 rfl; exact of_add a0 rfl e23) <|
     Obls.p (fun R' w' hw hs hd => by have a0 : R' 26 = .int .i64 (y16 + (1 : Int)) := hd.g 0 rfl; exact of_assign a0) <|
     Obls.nil
   intro R w hw hs hF'
   replace h1 := (hs 1 rfl).trans h1
   replace h5 := (hs 5 rfl).trans h5
   have h7 : R 7 = .int .i64 (y16 + (1 : Int)) := hF' 2 _ _ rfl rfl rfl
   replace f_v1 := f_v1.fr hw
   replace hO := hO.fr hw
   replace hA := hA.fr hw.size
   replace hF := hF.trans hw
   clear hs hF' hw
   refine seqR_nil ?_
   exact Exists.intro k (And.intro (Nat.lt_succ_self k) ⟨_, _, _, u22, hr, hA, hF, hAA, hO, h1, h5, h7, f_v1⟩)
  ·have hr := cnd_f c18 hr
   refine HT.exit ?_
   obtain rfl := Option.some.inj hr
   exact Exists.intro _ ⟨_, ul_uo_u1, rfl, hA, hF, hAA, hO, h5⟩
 rintro R w ⟨A, s15, uo_uo_u1, es, hA, hF, hAA, hO, h5⟩
 obtain rfl := es.symm
 refine HT.seq ?_
 refine HT.text (l := ⟨_, true, .raw uo_uo_u1⟩ :: ⟨_, true, .raw uo_uo_u1⟩ :: []) (tl := []) (by kernel_rfl) (by kernel_rfl) (by kernel_rfl) ?_ ?_
 ·exact
   Obls.p (fun R' w' hw hs hd => of_move ((hs 5 rfl).trans h5)) <|
   Obls.p (fun R' w' hw hs hd => by have a0 : R' 33 = uo_uo_u1 := hd.g 0 rfl; exact of_assign a0) <|
   Obls.nil
 intro R w hw hs hF'
 have h4 : R 4 = uo_uo_u1 := hF' 1 _ _ rfl rfl rfl
 replace hO := hO.fr hw
 replace hA := hA.fr hw.size
 replace hF := hF.trans hw
 clear hs hF' hw
 refine seqR_nil ?_
 refine HT.ret ?_
 obtain rfl := Option.some.inj hr
 exact ⟨.inr rfl, [R 4], ⟨rfl, trivial⟩, (own_post (hO.ok 0 _ rfl) hAA h4), hF⟩
theorem M_spec_UniteTokens_okR {fu : Nat} {A0 : Av} {p0 : List (List UInt8)} {p1 : List (List UInt8)} {r : List (List UInt8)} (hr : M_spec_UniteTokens fu p0 p1 = some r) {w : World} {v0 : Value} {v1 : Value} (hA : AvOK A0 w) (h0 : Rep (eSl eStr) A0 w v0 p0) (h1 : Rep (eSl eStr) A0 w v1 p1) :
  Calls Tryz.prog 51 #[v0, v1] w fun e w' => ∃ v, e = .returned v ∧ (Rep (eSl eStr) A0 w' v r ∧ Fr w w') := by
 refine Calls.mono (M_spec_UniteTokens_ok hr hA h0 h1) ?_
 rintro e w' ⟨v, he, hv, hf⟩
 exact ⟨v, he, vec_rep hv (fun b o h => .inl h) hA, hf⟩
def M_spec_MeetsJaccard (fu : Nat) (p0 : List (List UInt8)) (p1 : List (List UInt8)) (p2 : Int) : Option Bool :=
 cl true (M_spec_l5Sets fu p0 p1) fun x1 =>
 cl (true && ((!x1) == false)) (M_spec_l5Good fu (p0.length : Int) (p1.length : Int) p2) fun x3 =>
 bd ((!x1) || (!x3)) fun x5 =>
 bif x5 then (
  some false
 ) else (
  cl true (M_spec_CommonTokens fu p0 p1) fun x8 =>
  ck (i64B ((1000 : Int) * (x8.length : Int))) <|
  cl true (M_spec_UniteTokens fu p0 p1) fun x11 =>
  ck (i64B (p2 * (x11.length : Int))) <|
  some (decide ((p2 * (x11.length : Int)) ≤ ((1000 : Int) * (x8.length : Int))))
 )
theorem M_spec_MeetsJaccard_ok {fu : Nat} {A : Av} {p0 : List (List UInt8)} {p1 : List (List UInt8)} {p2 : Int} {r : Bool} (hr : M_spec_MeetsJaccard fu p0 p1 p2 = some r) {w : World} {v0 : Value} {v1 : Value} {v2 : Value} (hA : AvOK A w) (h0 : Rep (eSl eStr) A w v0 p0) (h1 : Rep (eSl eStr) A w v1 p1) (h2 : v2 = .int .i64 p2) :
  Calls Tryz.prog 13 #[v0, v1, v2] w fun e w' => ∃ v, e = .returned v ∧ (v = .bool r ∧ Fr w w') := by
 unfold M_spec_MeetsJaccard at hr
 obtain ⟨w0, hw0⟩ : ∃ w0, w0 = w := ⟨_, rfl⟩
 have hF : Fr w0 w := hw0 ▸ Fr.refl _
 rw [show Fr w = Fr w0 from hw0 ▸ rfl]
 clear hw0
 refine calls_of_HT2 [.tmp 6] Tryz.func13 Tryz.ntmps13 (by decide) rfl rfl (Nat.le_of_ble_eq_true rfl) ?_
 intro R hR
 have f_v0 := h0
 replace h0 : R 0 = v0 := hR 0 _ rfl
 have f_v1 := h1
 replace h1 : R 1 = v1 := hR 1 _ rfl
 replace h2 : R 2 = .int .i64 p2 := (hR 2 _ rfl).trans h2
 clear hR
 refine HT.seq ?_
 refine HT.text (l := ⟨_, true, .raw (.bool false)⟩ :: []) (tl := []) (by kernel_rfl) (by kernel_rfl) (by kernel_rfl) ?_ ?_
 ·exact
   Obls.p (fun R' w' hw hs hd => of_assign rfl) <|
   Obls.nil
 intro R w hw hs hF'
 replace h0 := (hs 0 rfl).trans h0
 replace h1 := (hs 1 rfl).trans h1
 replace h2 := (hs 2 rfl).trans h2
 replace f_v0 := f_v0.fr hw
 replace f_v1 := f_v1.fr hw
 replace hA := hA.fr hw.size
 replace hF := hF.trans hw
 clear hs hF' hw
 refine seqR_nil ?_
 refine HT.seq ?_
 refine HT.seq ?_
 obtain ⟨x1, q2, hr⟩ := cl_some hr
 obtain ⟨x3, q4, hr⟩ := cl_some hr
 obtain ⟨x5, q6, hr⟩ := bd_some hr
 refine HT.text (l := ⟨_, true, .raw v0⟩ :: ⟨_, true, .raw v1⟩ :: ⟨_, true, .raw (.bool x1)⟩ :: ⟨_, true, .raw (.bool (!x1))⟩ :: ⟨_, true, .raw (.bool (!x1))⟩ :: ⟨_, (true && ((!x1) == false)), .raw v0⟩ :: ⟨_, (true && ((!x1) == false)), .raw (.int .i64 (p0.length : Int))⟩ :: ⟨_, (true && ((!x1) == false)), .raw v1⟩ :: ⟨_, (true && ((!x1) == false)), .raw (.int .i64 (p1.length : Int))⟩ :: ⟨_, (true && ((!x1) == false)), .raw (.int .i64 p2)⟩ :: ⟨_, (true && ((!x1) == false)), .raw (.bool x3)⟩ :: ⟨_, (true && ((!x1) == false)), .raw (.bool (!x3))⟩ :: ⟨_, true, .raw (.bool x5)⟩ :: []) (tl := []) (by kernel_rfl) (by kernel_rfl) (by kernel_rfl) ?_ ?_
 ·exact
   Obls.p (fun R' w' hw hs hd => of_move ((hs 0 rfl).trans h0)) <|
   Obls.p (fun R' w' hw hs hd => of_move ((hs 1 rfl).trans h1)) <|
   Obls.p (fun R' w' hw hs hd => by have a0 : R' 7 = v0 := hd.g 0 rfl; have ra0 := (f_v0.fr hw).eq a0; have a1 : R' 8 = v1 := hd.g 1 rfl; have ra1 := (f_v1.fr hw).eq a1; exact of_call Tryz.call49 (M_spec_l5Sets_ok (q2 rfl) (hA.fr hw.size) ra0 ra1)) <|
   Obls.p (fun R' w' hw hs hd => by have a0 : R' 9 = .bool x1 := hd.g 0 rfl; exact of_not a0) <|
   Obls.p (fun R' w' hw hs hd => by have a0 : R' 10 = .bool (!x1) := hd.g 0 rfl; exact of_move a0) <|
   Obls.cons (Obl.grd 4 false _ _ _ rfl rfl rfl rfl rfl (by kernel_rfl) fun hg R' w' hw hs hd => by have a0 : R' 0 = v0 := (hs 0 rfl).trans h0; exact of_move a0) <|
   Obls.cons (Obl.grd 4 false _ _ _ rfl rfl rfl rfl rfl (by kernel_rfl) fun hg R' w' hw hs hd => by have a0 : R' 12 = v0 := hd 0 _ _ _ rfl rfl rfl rfl hg; have ra0 := (f_v0.fr hw).eq a0; exact of_len_sl (aT := #[]) ra0 Tryz.underlying25) <|
   Obls.cons (Obl.grd 4 false _ _ _ rfl rfl rfl rfl rfl (by kernel_rfl) fun hg R' w' hw hs hd => by have a0 : R' 1 = v1 := (hs 1 rfl).trans h1; exact of_move a0) <|
   Obls.cons (Obl.grd 4 false _ _ _ rfl rfl rfl rfl rfl (by kernel_rfl) fun hg R' w' hw hs hd => by have a0 : R' 14 = v1 := hd 0 _ _ _ rfl rfl rfl rfl hg; have ra0 := (f_v1.fr hw).eq a0; exact of_len_sl (aT := #[]) ra0 Tryz.underlying25) <|
   Obls.cons (Obl.grd 4 false _ _ _ rfl rfl rfl rfl rfl (by kernel_rfl) fun hg R' w' hw hs hd => by have a0 : R' 2 = .int .i64 p2 := (hs 2 rfl).trans h2; exact of_move a0) <|
   Obls.cons (Obl.grd 4 false _ _ _ rfl rfl rfl rfl rfl (by kernel_rfl) fun hg R' w' hw hs hd => by have a0 : R' 13 = .int .i64 (p0.length : Int) := hd 0 _ _ _ rfl rfl rfl rfl hg; have a1 : R' 15 = .int .i64 (p1.length : Int) := hd 1 _ _ _ rfl rfl rfl rfl hg; have a2 : R' 16 = .int .i64 p2 := hd 2 _ _ _ rfl rfl rfl rfl hg; exact of_call Tryz.call50 (M_spec_l5Good_ok (q4 hg) (hA.fr hw.size) a0 a1 a2)) <|
   Obls.cons (Obl.grd 4 false _ _ _ rfl rfl rfl rfl rfl (by kernel_rfl) fun hg R' w' hw hs hd => by have a0 : R' 17 = .bool x3 := hd 0 _ _ _ rfl rfl rfl rfl hg; exact of_not a0) <|
   Obls.p (fun R' w' hw hs hd => by have a0 : R' 11 = .bool (!x1) := hd.g 0 rfl; exact of_pick (!x1) a0 (fun hc => by show _ = Value.bool x5; rw [q6, hc]; exact rfl) (fun hc => by have a2 : R' 18 = .bool (!x3) := hd 1 _ _ _ rfl rfl rfl rfl (g_and rfl (beq_of hc)); show _ = Value.bool x5; rw [q6, hc]; exact a2)) <|
   Obls.nil
 intro R w hw hs hF'
 replace h0 := (hs 0 rfl).trans h0
 replace h1 := (hs 1 rfl).trans h1
 replace h2 := (hs 2 rfl).trans h2
 have h19 : R 19 = .bool x5 := hF' 12 _ _ rfl rfl rfl
 replace f_v0 := f_v0.fr hw
 replace f_v1 := f_v1.fr hw
 replace hA := hA.fr hw.size
 replace hF := hF.trans hw
 clear hs hF' hw
 refine seqR_nil ?_
 refine HT.cond x5 h19 (fun c7 => ?_) (fun c7 => ?_)
 ·have hr := cnd_t c7 hr
  refine HT.seq ?_
  refine HT.text (l := ⟨_, true, .raw (.bool false)⟩ :: []) (tl := []) (by kernel_rfl) (by kernel_rfl) (by kernel_rfl) ?_ ?_
  ·exact
    Obls.p (fun R' w' hw hs hd => of_assign rfl) <|
    Obls.nil
  intro R w hw hs hF'
  have h6 : R 6 = .bool false := hF' 0 _ _ rfl rfl rfl
  replace hA := hA.fr hw.size
  replace hF := hF.trans hw
  clear hs hF' hw
  refine seqR_nil ?_
  refine HT.ret ?_
  obtain rfl := Option.some.inj hr
  exact ⟨.inr rfl, [R 6], ⟨rfl, trivial⟩, h6, hF⟩
 ·have hr := cnd_f c7 hr
  refine HT.skip ?_
  refine HT.seq ?_
  obtain ⟨x8, q9, hr⟩ := cl_some hr
  obtain ⟨e10, hr⟩ := ck_some hr
  obtain ⟨x11, q12, hr⟩ := cl_some hr
  obtain ⟨e13, hr⟩ := ck_some hr
  refine HT.text (l := ⟨_, true, .raw v0⟩ :: ⟨_, true, .raw v1⟩ :: ⟨_, true, .rep (eSl eStr) A x8⟩ :: ⟨_, true, .raw (.int .i64 (x8.length : Int))⟩ :: ⟨_, true, .raw (.int .i64 ((1000 : Int) * (x8.length : Int)))⟩ :: ⟨_, true, .raw (.int .i64 p2)⟩ :: ⟨_, true, .raw v0⟩ :: ⟨_, true, .raw v1⟩ :: ⟨_, true, .rep (eSl eStr) A x11⟩ :: ⟨_, true, .raw (.int .i64 (x11.length : Int))⟩ :: ⟨_, true, .raw (.int .i64 (p2 * (x11.length : Int)))⟩ :: ⟨_, true, .raw (.bool (decide ((p2 * (x11.length : Int)) ≤ ((1000 : Int) * (x8.length : Int)))))⟩ :: ⟨_, true, .raw (.bool (decide ((p2 * (x11.length : Int)) ≤ ((1000 : Int) * (x8.length : Int)))))⟩ :: []) (tl := []) (by kernel_rfl) (by kernel_rfl) (by kernel_rfl) ?_ ?_
  ·exact
    Obls.p (fun R' w' hw hs hd => of_move ((hs 0 rfl).trans h0)) <|
    Obls.p (fun R' w' hw hs hd => of_move ((hs 1 rfl).trans h1)) <|
    Obls.p (fun R' w' hw hs hd => by have a0 : R' 20 = v0 := hd.g 0 rfl; have ra0 := (f_v0.fr hw).eq a0; have a1 : R' 21 = v1 := hd.g 1 rfl; have ra1 := (f_v1.fr hw).eq a1; exact of_call Tryz.call21 (M_spec_CommonTokens_okR (q9 rfl) (hA.fr hw.size) ra0 ra1)) <|
    Obls.p (fun R' w' hw hs hd => by have a0 : Rep (eSl eStr) A w' (R' 22) x8 := hd.g 0 rfl; exact of_len_sl (aT := #[]) a0 Tryz.underlying25) <|
    Obls.p (fun R' w' hw hs hd => by have a1 : R' 23 = .int .i64 (x8.length : Int) := hd.g 0 rfl; exact of_mul rfl a1 e10) <|
    Obls.p (fun R' w' hw hs hd => of_move ((hs 2 rfl).trans h2)) <|
    Obls.p (fun R' w' hw hs hd => of_move ((hs 0 rfl).trans h0)) <|
    Obls.p (fun R' w' hw hs hd => of_move ((hs 1 rfl).trans h1)) <|
    Obls.p (fun R' w' hw hs hd => by have a0 : R' 26 = v0 := hd.g 0 rfl; have ra0 := (f_v0.fr hw).eq a0; have a1 : R' 27 = v1 := hd.g 1 rfl; have ra1 := (f_v1.fr hw).eq a1; exact of_call Tryz.call51 (M_spec_UniteTokens_okR (q12 rfl) (hA.fr hw.size) ra0 ra1)) <|
    Obls.p (fun R' w' hw hs hd => by have a0 : Rep (eSl eStr) A w' (R' 28) x11 := hd.g 0 rfl; exact of_len_sl (aT := #[]) a0 Tryz.underlying25) <|
    Obls.p (fun R' w' hw hs hd => by have a0 : R' 25 = .int .i64 p2 := hd.g 0 rfl; have a1 : R' 29 = .int .i64 (x11.length : Int) := hd.g 1 rfl; exact of_mul a0 a1 e13) <|
    Obls.p (fun R' w' hw hs hd => by have a0 : R' 24 = .int .i64 ((1000 : Int) * (x8.length : Int)) := hd.g 0 rfl; have a1 : R' 30 = .int .i64 (p2 * (x11.length : Int)) := hd.g 1 rfl; exact of_geq a0 a1) <|
    Obls.p (fun R' w' hw hs hd => by have a0 : R' 31 = .bool (decide ((p2 * (x11.length : Int)) ≤ ((1000 : Int) * (x8.length : Int)))) := hd.g 0 rfl; exact of_assign a0) <|
    Obls.nil
  intro R w hw hs hF'
  have h6 : R 6 = .bool (decide ((p2 * (x11.length : Int)) ≤ ((1000 : Int) * (x8.length : Int)))) := hF' 12 _ _ rfl rfl rfl
  replace hA := hA.fr hw.size
  replace hF := hF.trans hw
  clear hs hF' hw
  refine seqR_nil ?_
  refine HT.ret ?_
  obtain rfl := Option.some.inj hr
  exact ⟨.inr rfl, [R 6], ⟨rfl, trivial⟩, h6, hF⟩
def M_impl_MinOverlap (fu : Nat) (p0 : Int) (p1 : Int) (p2 : Int) : Option Int :=
 cl true (M_impl_isSize fu p0) fun x1 =>
 cl (true && ((!x1) == false)) (M_impl_isSize fu p1) fun x3 =>
 bd ((!x1) || (!x3)) fun x5 =>
 cl (true && (x5 == false)) (M_impl_isThreshold fu p2) fun x7 =>
 bd (x5 || (!x7)) fun x9 =>
 bif x9 then (
  some (-1 : Int)
 ) else (
  ck (i64B (p0 + p1)) <|
  ck (i64B (p2 * (p0 + p1))) <|
  ck (i64B ((1000 : Int) + p2)) <|
  cl true (M_impl_ceilDiv fu (p2 * (p0 + p1)) ((1000 : Int) + p2)) fun x15 =>
  some x15
 )
theorem M_impl_MinOverlap_ok {fu : Nat} {A : Av} {p0 : Int} {p1 : Int} {p2 : Int} {r : Int} (hr : M_impl_MinOverlap fu p0 p1 p2 = some r) {w : World} {v0 : Value} {v1 : Value} {v2 : Value} (hA : AvOK A w) (h0 : v0 = .int .i64 p0) (h1 : v1 = .int .i64 p1) (h2 : v2 = .int .i64 p2) :
  Calls Tryz.prog 16 #[v0, v1, v2] w fun e w' => ∃ v, e = .returned v ∧ (v = .int .i64 r ∧ Fr w w') := by
 unfold M_impl_MinOverlap at hr
 obtain ⟨w0, hw0⟩ : ∃ w0, w0 = w := ⟨_, rfl⟩
 have hF : Fr w0 w := hw0 ▸ Fr.refl _
 rw [show Fr w = Fr w0 from hw0 ▸ rfl]
 clear hw0
 refine calls_of_HT2 [.tmp 6] Tryz.func16 Tryz.ntmps16 (by decide) rfl rfl (Nat.le_of_ble_eq_true rfl) ?_
 intro R hR
 replace h0 : R 0 = .int .i64 p0 := (hR 0 _ rfl).trans h0
 replace h1 : R 1 = .int .i64 p1 := (hR 1 _ rfl).trans h1
 replace h2 : R 2 = .int .i64 p2 := (hR 2 _ rfl).trans h2
 clear hR
 refine HT.seq ?_
 refine HT.text (l := ⟨_, true, .raw (.int .i64 (0 : Int))⟩ :: []) (tl := []) (by kernel_rfl) (by kernel_rfl) (by kernel_rfl) ?_ ?_
 ·exact
   Obls.p (fun R' w' hw hs hd => of_assign rfl) <|
   Obls.nil
 intro R w hw hs hF'
 replace h0 := (hs 0 rfl).trans h0
 replace h1 := (hs 1 rfl).trans h1
 replace h2 := (hs 2 rfl).trans h2
 replace hA := hA.fr hw.size
 replace hF := hF.trans hw
 clear hs hF' hw
 refine seqR_nil ?_
 refine HT.seq ?_
 refine HT.seq ?_
 obtain ⟨x1, q2, hr⟩ := cl_some hr
 obtain ⟨x3, q4, hr⟩ := cl_some hr
 obtain ⟨x5, q6, hr⟩ := bd_some hr
 obtain ⟨x7, q8, hr⟩ := cl_some hr
 obtain ⟨x9, q10, hr⟩ := bd_some hr
 refine HT.text (l := ⟨_, true, .raw (.int .i64 p0)⟩ :: ⟨_, true, .raw (.bool x1)⟩ :: ⟨_, true, .raw (.bool (!x1))⟩ :: ⟨_, true, .raw (.bool (!x1))⟩ :: ⟨_, (true && ((!x1) == false)), .raw (.int .i64 p1)⟩ :: ⟨_, (true && ((!x1) == false)), .raw (.bool x3)⟩ :: ⟨_, (true && ((!x1) == false)), .raw (.bool (!x3))⟩ :: ⟨_, true, .raw (.bool x5)⟩ :: ⟨_, true, .raw (.bool x5)⟩ :: ⟨_, (true && (x5 == false)), .raw (.int .i64 p2)⟩ :: ⟨_, (true && (x5 == false)), .raw (.bool x7)⟩ :: ⟨_, (true && (x5 == false)), .raw (.bool (!x7))⟩ :: ⟨_, true, .raw (.bool x9)⟩ :: []) (tl := []) (by kernel_rfl) (by kernel_rfl) (by kernel_rfl) ?_ ?_
 ·exact
   Obls.p (fun R' w' hw hs hd => of_move ((hs 0 rfl).trans h0)) <|
   Obls.p (fun R' w' hw hs hd => by have a0 : R' 7 = .int .i64 p0 := hd.g 0 rfl; exact of_call Tryz.call46 (M_impl_isSize_ok (q2 rfl) (hA.fr hw.size) a0)) <|
   Obls.p (fun R' w' hw hs hd => by have a0 : R' 8 = .bool x1 := hd.g 0 rfl; exact of_not a0) <|
   Obls.p (fun R' w' hw hs hd => by have a0 : R' 9 = .bool (!x1) := hd.g 0 rfl; exact of_move a0) <|
   Obls.cons (Obl.grd 3 false _ _ _ rfl rfl rfl rfl rfl (by kernel_rfl) fun hg R' w' hw hs hd => by have a0 : R' 1 = .int .i64 p1 := (hs 1 rfl).trans h1; exact of_move a0) <|
   Obls.cons (Obl.grd 3 false _ _ _ rfl rfl rfl rfl rfl (by kernel_rfl) fun hg R' w' hw hs hd => by have a0 : R' 11 = .int .i64 p1 := hd 0 _ _ _ rfl rfl rfl rfl hg; exact of_call Tryz.call46 (M_impl_isSize_ok (q4 hg) (hA.fr hw.size) a0)) <|
   Obls.cons (Obl.grd 3 false _ _ _ rfl rfl rfl rfl rfl (by kernel_rfl) fun hg R' w' hw hs hd => by have a0 : R' 12 = .bool x3 := hd 0 _ _ _ rfl rfl rfl rfl hg; exact of_not a0) <|
   Obls.p (fun R' w' hw hs hd => by have a0 : R' 10 = .bool (!x1) := hd.g 0 rfl; exact of_pick (!x1) a0 (fun hc => by show _ = Value.bool x5; rw [q6, hc]; exact rfl) (fun hc => by have a2 : R' 13 = .bool (!x3) := hd 1 _ _ _ rfl rfl rfl rfl (g_and rfl (beq_of hc)); show _ = Value.bool x5; rw [q6, hc]; exact a2)) <|
   Obls.p (fun R' w' hw hs hd => by have a0 : R' 14 = .bool x5 := hd.g 0 rfl; exact of_move a0) <|
   Obls.cons (Obl.grd 8 false _ _ _ rfl rfl rfl rfl rfl (by kernel_rfl) fun hg R' w' hw hs hd => by have a0 : R' 2 = .int .i64 p2 := (hs 2 rfl).trans h2; exact of_move a0) <|
   Obls.cons (Obl.grd 8 false _ _ _ rfl rfl rfl rfl rfl (by kernel_rfl) fun hg R' w' hw hs hd => by have a0 : R' 16 = .int .i64 p2 := hd 0 _ _ _ rfl rfl rfl rfl hg; exact of_call Tryz.call47 (M_impl_isThreshold_ok (q8 hg) (hA.fr hw.size) a0)) <|
   Obls.cons (Obl.grd 8 false _ _ _ rfl rfl rfl rfl rfl (by kernel_rfl) fun hg R' w' hw hs hd => by have a0 : R' 17 = .bool x7 := hd 0 _ _ _ rfl rfl rfl rfl hg; exact of_not a0) <|
   Obls.p (fun R' w' hw hs hd => by have a0 : R' 15 = .bool x5 := hd.g 0 rfl; exact of_pick x5 a0 (fun hc => by show _ = Value.bool x9; rw [q10, hc]; exact rfl) (fun hc => by have a2 : R' 18 = .bool (!x7) := hd 1 _ _ _ rfl rfl rfl rfl (g_and rfl (beq_of hc)); show _ = Value.bool x9; rw [q10, hc]; exact a2)) <|
   Obls.nil
 intro R w hw hs hF'
 replace h0 := (hs 0 rfl).trans h0
 replace h1 := (hs 1 rfl).trans h1
 replace h2 := (hs 2 rfl).trans h2
 have h19 : R 19 = .bool x9 := hF' 12 _ _ rfl rfl rfl
 replace hA := hA.fr hw.size
 replace hF := hF.trans hw
 clear hs hF' hw
 refine seqR_nil ?_
 refine HT.cond x9 h19 (fun c11 => ?_) (fun c11 => ?_)
 ·have hr := cnd_t c11 hr
  refine HT.seq ?_
  refine HT.text (l := ⟨_, true, .raw (.int .i64 (-1 : Int))⟩ :: []) (tl := []) (by kernel_rfl) (by kernel_rfl) (by kernel_rfl) ?_ ?_
  ·exact
    Obls.p (fun R' w' hw hs hd => of_assign rfl) <|
    Obls.nil
  intro R w hw hs hF'
  have h6 : R 6 = .int .i64 (-1 : Int) := hF' 0 _ _ rfl rfl rfl
  replace hA := hA.fr hw.size
  replace hF := hF.trans hw
  clear hs hF' hw
  refine seqR_nil ?_
  refine HT.ret ?_
  obtain rfl := Option.some.inj hr
  exact ⟨.inr rfl, [R 6], ⟨rfl, trivial⟩, h6, hF⟩
 ·have hr := cnd_f c11 hr
  refine HT.skip ?_
  refine HT.seq ?_
  obtain ⟨e12, hr⟩ := ck_some hr
  obtain ⟨e13, hr⟩ := ck_some hr
  obtain ⟨e14, hr⟩ := ck_some hr
  obtain ⟨x15, q16, hr⟩ := cl_some hr
  refine HT.text (l := ⟨_, true, .raw (.int .i64 p2)⟩ :: ⟨_, true, .raw (.int .i64 p0)⟩ :: ⟨_, true, .raw (.int .i64 p1)⟩ :: ⟨_, true, .raw (.int .i64 (p0 + p1))⟩ :: ⟨_, true, .raw (.int .i64 (p2 * (p0 + p1)))⟩ :: ⟨_, true, .raw (.int .i64 p2)⟩ :: ⟨_, true, .raw (.int .i64 ((1000 : Int) + p2))⟩ :: ⟨_, true, .raw (.int .i64 x15)⟩ :: ⟨_, true, .raw (.int .i64 x15)⟩ :: []) (tl := []) (by kernel_rfl) (by kernel_rfl) (by kernel_rfl) ?_ ?_
  ·exact
    Obls.p (fun R' w' hw hs hd => of_move ((hs 2 rfl).trans h2)) <|
    Obls.p (fun R' w' hw hs hd => of_move ((hs 0 rfl).trans h0)) <|
    Obls.p (fun R' w' hw hs hd => of_move ((hs 1 rfl).trans h1)) <|
    Obls.p (fun R' w' hw hs hd => by have a0 : R' 21 = .int .i64 p0 := hd.g 0 rfl; have a1 : R' 22 = .int .i64 p1 := hd.g 1 rfl; exact of_add a0 a1 e12) <|
    Obls.p (fun R' w' hw hs hd => by have a0 : R' 20 = .int .i64 p2 := hd.g 0 rfl; have a1 : R' 23 = .int .i64 (p0 + p1) := hd.g 1 rfl; exact of_mul a0 a1 e13) <|
    Obls.p (fun R' w' hw hs hd => of_move ((hs 2 rfl).trans h2)) <|
    Obls.p (fun R' w' hw hs hd => by have a1 : R' 25 = .int .i64 p2 := hd.g 0 rfl; exact of_add rfl a1 e14) <|
    Obls.p (fun R' w' hw hs hd => by have a0 : R' 24 = .int .i64 (p2 * (p0 + p1)) := hd.g 0 rfl; have a1 : R' 26 = .int .i64 ((1000 : Int) + p2) := hd.g 1 rfl; exact of_call Tryz.call52 (M_impl_ceilDiv_ok (q16 rfl) (hA.fr hw.size) a0 a1)) <|
    Obls.p (fun R' w' hw hs hd => by have a0 : R' 27 = .int .i64 x15 := hd.g 0 rfl; exact of_assign a0) <|
    Obls.nil
  intro R w hw hs hF'
  have h6 : R 6 = .int .i64 x15 := hF' 8 _ _ rfl rfl rfl
  replace hA := hA.fr hw.size
  replace hF := hF.trans hw
  clear hs hF' hw
  refine seqR_nil ?_
  refine HT.ret ?_
  obtain rfl := Option.some.inj hr
  exact ⟨.inr rfl, [R 6], ⟨rfl, trivial⟩, h6, hF⟩
end Go.Proofs.YtkebpojbbfnehaaGreat
