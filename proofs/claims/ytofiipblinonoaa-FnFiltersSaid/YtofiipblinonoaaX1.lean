/- Printed by dec.py: plain functions and the proofs that the code computes them. No statement of the seat is proved here. -/
import Derived.Test.YtofiipblinonoaaTqs
namespace Go.Proofs.Ytofiipblinonoaa
open Go.RowKit
set_option linter.unusedVariables false
set_option maxRecDepth 100000
set_option maxHeartbeats 4000000
def M_laws_big (fu : Nat) (p0 : List Int) : Option Bool :=
 some (decide ((1048576 : Int) < (p0.length : Int)))
theorem M_laws_big_ok {fu : Nat} {A : Av} {p0 : List Int} {r : Bool} (hr : M_laws_big fu p0 = some r) {w : World} {v0 : Value} (hA : AvOK A w) (h0 : Rep (eSl (eInt .u8)) A w v0 p0) :
  Calls Try.prog 22 #[v0] w fun e w' => ∃ v, e = .returned v ∧ (v = .bool r ∧ Fr w w') := by
 unfold M_laws_big at hr
 obtain ⟨w0, hw0⟩ : ∃ w0, w0 = w := ⟨_, rfl⟩
 have hF : Fr w0 w := hw0 ▸ Fr.refl _
 rw [show Fr w = Fr w0 from hw0 ▸ rfl]
 clear hw0
 refine calls_of_HT2 [.tmp 2] Try.func22 Try.ntmps22 (by decide) rfl rfl (Nat.le_of_ble_eq_true rfl) ?_
 intro R hR
 have f_v0 := h0
 replace h0 : R 0 = v0 := hR 0 _ rfl
 clear hR
 refine HT.seq ?_
 refine HT.text (l := ⟨_, true, .raw (.bool false)⟩ :: []) (tl := []) (by kernel_rfl) (by kernel_rfl) (by kernel_rfl) ?_ ?_
 ·exact
   Obls.p (fun R' w' hw hs hd => of_assign rfl) <|
   Obls.nil
 intro R w hw hs hF'
 replace h0 := (hs 0 rfl).trans h0
 replace f_v0 := f_v0.fr hw
 replace hA := hA.fr hw.size
 replace hF := hF.trans hw
 clear hs hF' hw
 refine seqR_nil ?_
 refine HT.seq ?_
 refine HT.text (l := ⟨_, true, .raw v0⟩ :: ⟨_, true, .raw (.int .i64 (p0.length : Int))⟩ :: ⟨_, true, .raw (.bool (decide ((1048576 : Int) < (p0.length : Int))))⟩ :: ⟨_, true, .raw (.bool (decide ((1048576 : Int) < (p0.length : Int))))⟩ :: []) (tl := []) (by kernel_rfl) (by kernel_rfl) (by kernel_rfl) ?_ ?_
 ·exact
   Obls.p (fun R' w' hw hs hd => of_move ((hs 0 rfl).trans h0)) <|
   Obls.p (fun R' w' hw hs hd => by have a0 : R' 3 = v0 := hd.g 0 rfl; have ra0 := (f_v0.fr hw).eq a0; exact of_len_sl (aT := #[]) ra0 Try.underlying33) <|
   Obls.p (fun R' w' hw hs hd => by have a0 : R' 4 = .int .i64 (p0.length : Int) := hd.g 0 rfl; exact of_gtr a0 rfl) <|
   Obls.p (fun R' w' hw hs hd => by have a0 : R' 5 = .bool (decide ((1048576 : Int) < (p0.length : Int))) := hd.g 0 rfl; exact of_assign a0) <|
   Obls.nil
 intro R w hw hs hF'
 have h2 : R 2 = .bool (decide ((1048576 : Int) < (p0.length : Int))) := hF' 3 _ _ rfl rfl rfl
 replace hA := hA.fr hw.size
 replace hF := hF.trans hw
 clear hs hF' hw
 refine seqR_nil ?_
 refine HT.ret ?_
 obtain rfl := Option.some.inj hr
 exact ⟨.inr rfl, [R 2], ⟨rfl, trivial⟩, h2, hF⟩
def M_spec_l1New_L0 (fu : Nat) (p0 : List Int) : Nat → Int → Int → Option Int
 | 0, _, _ => none
 | k + 1, y5, y6 =>
  bd ((decide (y6 < (p0.length : Int))) && (decide (y6 < (4000 : Int)))) fun x7 =>
  bif x7 then (
   ck (i64B (y5 * (131 : Int))) <|
   ck (inR y6 p0.length) <|
   ck (i64B ((y5 * (131 : Int)) + (IntKind.i64.wrap (gtD p0 y6)))) <|
   ck (i64B (((y5 * (131 : Int)) + (IntKind.i64.wrap (gtD p0 y6))) + (7 : Int))) <|
   ck (i64B (y6 + (1 : Int))) <|
   M_spec_l1New_L0 fu p0 k (bitI (fun u v => u &&& v) .i64 (((y5 * (131 : Int)) + (IntKind.i64.wrap (gtD p0 y6))) + (7 : Int)) (1073741823 : Int)) (y6 + (1 : Int))
  ) else (
   some y5
  )
def M_spec_l1New (fu : Nat) (p0 : List Int) : Option T_spec_l1Cur :=
 ck (i64B ((10101 : Int) + (p0.length : Int))) <|
 cl true (M_spec_l1New_L0 fu p0 fu ((10101 : Int) + (p0.length : Int)) (0 : Int)) fun s4 =>
 some (p0, (0 : Int), s4)
set_option linter.unusedSimpArgs false in
theorem M_spec_l1New_ok {fu : Nat} {A0 : Av} {p0 : List Int} {r : T_spec_l1Cur} (hr : M_spec_l1New fu p0 = some r) {w : World} {v0 : Value} (hA : AvOK A0 w) (h0 : Rep (eSl (eInt .u8)) A0 w v0 p0) :
  Calls Try.prog 62 #[v0] w fun e w' => ∃ v, e = .returned v ∧ (∃ (c0 : Nat) (A1 : Av), GPost A0 (fun _ => False) w [ob (.pointer (some ⟨c0, 0, none⟩)) (.box w.heap.size 108 E_spec_l1Cur r)] A1 w' ∧ (Fact.raw (.pointer (some ⟨c0, 0, none⟩))).ok v w') := by
 unfold M_spec_l1New at hr
 obtain ⟨w0, hw0⟩ : ∃ w0, w0 = w := ⟨_, rfl⟩
 have hF : Fr w0 w := hw0 ▸ Fr.refl _
 have hA0 : ∀ b o, A0 b o → b < w0.heap.size := fun b o h => hw0 ▸ hA b o h
 have hA00 : AvOK A0 w0 := hA0
 rw [show GPost A0 (fun _ => False) w = GPost A0 (fun _ => False) w0 from by rw [hw0]]
 rw [show w.heap.size = w0.heap.size from by rw [hw0]]
 clear hw0
 obtain ⟨A, hAe⟩ : ∃ A, A = A0 := ⟨_, rfl⟩
 have hAA : ∀ b o, A0 b o → A b o := fun b o h => hAe ▸ h
 replace hA : AvOK A w := hAe ▸ hA
 have hO : IniOK [] A w := IniOK.nil
 refine calls_of_HT2 [.tmp 2] Try.func62 Try.ntmps62 (by decide) rfl rfl (Nat.le_of_ble_eq_true rfl) ?_
 intro R hR
 have f_v0 : Rep (eSl (eInt .u8)) A w v0 p0 := hAe ▸ h0
 replace h0 : R 0 = v0 := hR 0 _ rfl
 clear hR hAe
 refine HT.seq ?_
 refine HT.text (l := ⟨_, true, .any⟩ :: []) (tl := []) (by kernel_rfl) (by kernel_rfl) (by kernel_rfl) ?_ ?_
 ·exact
   Obls.p (fun R' w' hw hs hd => of_assign trivial) <|
   Obls.nil
 intro R w hw hs hF'
 replace h0 := (hs 0 rfl).trans h0
 replace f_v0 := f_v0.fr hw
 replace hO := hO.fr hw
 replace hA := hA.fr hw.size
 replace hF := hF.trans hw
 clear hs hF' hw
 refine seqR_nil ?_
 refine HT.seq ?_
 obtain ⟨e1, hr⟩ := ck_some hr
 refine HT.text (l := ⟨_, true, .raw v0⟩ :: ⟨_, true, .raw (.int .i64 (p0.length : Int))⟩ :: ⟨_, true, .raw (.int .i64 ((10101 : Int) + (p0.length : Int)))⟩ :: ⟨_, true, .raw (.int .i64 ((10101 : Int) + (p0.length : Int)))⟩ :: []) (tl := []) (by kernel_rfl) (by kernel_rfl) (by kernel_rfl) ?_ ?_
 ·exact
   Obls.p (fun R' w' hw hs hd => of_move ((hs 0 rfl).trans h0)) <|
   Obls.p (fun R' w' hw hs hd => by have a0 : R' 5 = v0 := hd.g 0 rfl; have ra0 := (f_v0.fr hw).eq a0; exact of_len_sl (aT := #[]) ra0 Try.underlying33) <|
   Obls.p (fun R' w' hw hs hd => by have a1 : R' 6 = .int .i64 (p0.length : Int) := hd.g 0 rfl; exact of_add rfl a1 e1) <|
   Obls.p (fun R' w' hw hs hd => by have a0 : R' 7 = .int .i64 ((10101 : Int) + (p0.length : Int)) := hd.g 0 rfl; exact of_assign a0) <|
   Obls.nil
 intro R w hw hs hF'
 replace h0 := (hs 0 rfl).trans h0
 have h3 : R 3 = .int .i64 ((10101 : Int) + (p0.length : Int)) := hF' 3 _ _ rfl rfl rfl
 replace f_v0 := f_v0.fr hw
 replace hO := hO.fr hw
 replace hA := hA.fr hw.size
 replace hF := hF.trans hw
 clear hs hF' hw
 refine seqR_nil ?_
 refine HT.seq ?_
 refine HT.seq ?_
 refine HT.text (l := ⟨_, true, .raw (.int .i64 (0 : Int))⟩ :: []) (tl := []) (by kernel_rfl) (by kernel_rfl) (by kernel_rfl) ?_ ?_
 ·exact
   Obls.p (fun R' w' hw hs hd => of_assign rfl) <|
   Obls.nil
 intro R w hw hs hF'
 replace h0 := (hs 0 rfl).trans h0
 replace h3 := (hs 3 rfl).trans h3
 have h4 : R 4 = .int .i64 (0 : Int) := hF' 0 _ _ rfl rfl rfl
 replace f_v0 := f_v0.fr hw
 replace hO := hO.fr hw
 replace hA := hA.fr hw.size
 replace hF := hF.trans hw
 clear hs hF' hw
 refine seqR_nil ?_
 obtain ⟨rl2, q3, hr⟩ := cl_some hr
 replace q3 := q3 rfl
 refine HT.cut0 (fun R w => ∃ A : Av, ∃ (s4 : Int), rl2 = s4 ∧ AvOK A w ∧ Fr w0 w ∧ (∀ b o, A0 b o → A b o) ∧ IniOK [] A w ∧ R 0 = v0 ∧ R 3 = .int .i64 s4 ∧ Rep (eSl (eInt .u8)) A w v0 p0) ?_ ?_
 ·refine HT.block ?_
  refine HT.loop (fun k R w => ∃ A : Av, ∃ (y5 : Int) (y6 : Int), M_spec_l1New_L0 fu p0 k y5 y6 = some rl2 ∧ AvOK A w ∧ Fr w0 w ∧ (∀ b o, A0 b o → A b o) ∧ IniOK [] A w ∧ R 0 = v0 ∧ R 3 = .int .i64 y5 ∧ R 4 = .int .i64 y6 ∧ Rep (eSl (eInt .u8)) A w v0 p0) fu ⟨_, _, _, q3, hA, hF, hAA, hO, h0, h3, h4, f_v0⟩ ?_
  have hr0 := hr; clear hr q3
  rintro k R w ⟨A, y5, y6, hr, hA, hF, hAA, hO, h0, h3, h4, f_v0⟩
  rcases k with _ | k
  ·cases (show none = some _ from hr)
  rw [M_spec_l1New_L0] at hr
  refine HT.seq ?_
  refine HT.seq ?_
  obtain ⟨x7, q8, hr⟩ := bd_some hr
  refine HT.text (l := ⟨_, true, .raw (.int .i64 y6)⟩ :: ⟨_, true, .raw v0⟩ :: ⟨_, true, .raw (.int .i64 (p0.length : Int))⟩ :: ⟨_, true, .raw (.bool (decide (y6 < (p0.length : Int))))⟩ :: ⟨_, true, .raw (.bool (decide (y6 < (p0.length : Int))))⟩ :: ⟨_, (true && ((decide (y6 < (p0.length : Int))) == true)), .raw (.int .i64 y6)⟩ :: ⟨_, (true && ((decide (y6 < (p0.length : Int))) == true)), .raw (.bool (decide (y6 < (4000 : Int))))⟩ :: ⟨_, true, .raw (.bool x7)⟩ :: []) (tl := []) (by kernel_rfl) (by kernel_rfl) (by kernel_rfl) ?_ ?_
  ·exact
    Obls.p (fun R' w' hw hs hd => of_move ((hs 4 rfl).trans h4)) <|
    Obls.p (fun R' w' hw hs hd => of_move ((hs 0 rfl).trans h0)) <|
    Obls.p (fun R' w' hw hs hd => by have a0 : R' 9 = v0 := hd.g 0 rfl; have ra0 := (f_v0.fr hw).eq a0; exact of_len_sl (aT := #[]) ra0 Try.underlying33) <|
    Obls.p (fun R' w' hw hs hd => by have a0 : R' 8 = .int .i64 y6 := hd.g 0 rfl; have a1 : R' 10 = .int .i64 (p0.length : Int) := hd.g 1 rfl; exact of_lss a0 a1) <|
    Obls.p (fun R' w' hw hs hd => by have a0 : R' 11 = .bool (decide (y6 < (p0.length : Int))) := hd.g 0 rfl; exact of_move a0) <|
    Obls.cons (Obl.grd 4 true _ _ _ rfl rfl rfl rfl rfl (by kernel_rfl) fun hg R' w' hw hs hd => by have a0 : R' 4 = .int .i64 y6 := (hs 4 rfl).trans h4; exact of_move a0) <|
    Obls.cons (Obl.grd 4 true _ _ _ rfl rfl rfl rfl rfl (by kernel_rfl) fun hg R' w' hw hs hd => by have a0 : R' 13 = .int .i64 y6 := hd 0 _ _ _ rfl rfl rfl rfl hg; exact of_lss a0 rfl) <|
    Obls.p (fun R' w' hw hs hd => by have a0 : R' 12 = .bool (decide (y6 < (p0.length : Int))) := hd.g 0 rfl; exact of_pick (decide (y6 < (p0.length : Int))) a0 (fun hc => by have a1 : R' 14 = .bool (decide (y6 < (4000 : Int))) := hd 1 _ _ _ rfl rfl rfl rfl (g_and rfl (beq_of hc)); show _ = Value.bool x7; rw [q8, hc]; exact a1) (fun hc => by show _ = Value.bool x7; rw [q8, hc]; exact rfl)) <|
    Obls.nil
  intro R w hw hs hF'
  replace h0 := (hs 0 rfl).trans h0
  replace h3 := (hs 3 rfl).trans h3
  replace h4 := (hs 4 rfl).trans h4
  have h15 : R 15 = .bool x7 := hF' 7 _ _ rfl rfl rfl
  replace f_v0 := f_v0.fr hw
  replace hO := hO.fr hw
  replace hA := hA.fr hw.size
  replace hF := hF.trans hw
  clear hs hF' hw
  refine seqR_nil ?_
  refine HT.cond x7 h15 (fun c9 => ?_) (fun c9 => ?_)
  ·have hr := cnd_t c9 hr
   refine HT.skip ?_
   refine HT.seq ?_
   refine HT.block ?_
   obtain ⟨e10, hr⟩ := ck_some hr
   obtain ⟨e11, hr⟩ := ck_some hr
   obtain ⟨e12, hr⟩ := ck_some hr
   obtain ⟨e13, hr⟩ := ck_some hr
   refine HT.text (l := ⟨_, true, .raw (.int .i64 y5)⟩ :: ⟨_, true, .raw (.int .i64 (y5 * (131 : Int)))⟩ :: ⟨_, true, .raw v0⟩ :: ⟨_, true, .raw (.int .i64 y6)⟩ :: ⟨_, true, .qtr (eInt .u8) A (gtD p0 y6)⟩ :: ⟨_, true, .raw (.int .u8 (gtD p0 y6))⟩ :: ⟨_, true, .raw (.int .i64 (IntKind.i64.wrap (gtD p0 y6)))⟩ :: ⟨_, true, .raw (.int .i64 ((y5 * (131 : Int)) + (IntKind.i64.wrap (gtD p0 y6))))⟩ :: ⟨_, true, .raw (.int .i64 (((y5 * (131 : Int)) + (IntKind.i64.wrap (gtD p0 y6))) + (7 : Int)))⟩ :: ⟨_, true, .raw (.int .i64 (bitI (fun u v => u &&& v) .i64 (((y5 * (131 : Int)) + (IntKind.i64.wrap (gtD p0 y6))) + (7 : Int)) (1073741823 : Int)))⟩ :: ⟨_, true, .raw (.int .i64 (bitI (fun u v => u &&& v) .i64 (((y5 * (131 : Int)) + (IntKind.i64.wrap (gtD p0 y6))) + (7 : Int)) (1073741823 : Int)))⟩ :: []) (tl := []) (by kernel_rfl) (by kernel_rfl) (by kernel_rfl) ?_ ?_
   ·exact
     Obls.p (fun R' w' hw hs hd => of_move ((hs 3 rfl).trans h3)) <|
     Obls.p (fun R' w' hw hs hd => by have a0 : R' 18 = .int .i64 y5 := hd.g 0 rfl; exact of_mul a0 rfl e10) <|
     Obls.p (fun R' w' hw hs hd => of_move ((hs 0 rfl).trans h0)) <|
     Obls.p (fun R' w' hw hs hd => of_move ((hs 4 rfl).trans h4)) <|
     Obls.p (fun R' w' hw hs hd => by have a0 : R' 20 = v0 := hd.g 0 rfl; have a1 : R' 21 = .int .i64 y6 := hd.g 1 rfl; have ra0 := (f_v0.fr hw).eq a0; exact of_indexAddr ra0 a1 Try.underlying33 Try.sizeOf5 e11) <|
     Obls.p (fun R' w' hw hs hd => by have a0 : QRep (eInt .u8) A w' (R' 22) (gtD p0 y6) := hd.g 0 rfl; exact OpF.int (of_load a0.ptr Try.isAgg5 Try.sizeOf5)) <|
     Obls.p (fun R' w' hw hs hd => by have a0 : R' 23 = .int .u8 (gtD p0 y6) := hd.g 0 rfl; exact of_conv_int a0 Try.underlying5 Try.underlying3) <|
     Obls.p (fun R' w' hw hs hd => by have a0 : R' 19 = .int .i64 (y5 * (131 : Int)) := hd.g 0 rfl; have a1 : R' 24 = .int .i64 (IntKind.i64.wrap (gtD p0 y6)) := hd.g 1 rfl; exact of_add a0 a1 e12) <|
     Obls.p (fun R' w' hw hs hd => by have a0 : R' 25 = .int .i64 ((y5 * (131 : Int)) + (IntKind.i64.wrap (gtD p0 y6))) := hd.g 0 rfl; exact of_add a0 rfl e13) <|
     Obls.p (fun R' w' hw hs hd => by have a0 : R' 26 = .int .i64 (((y5 * (131 : Int)) + (IntKind.i64.wrap (gtD p0 y6))) + (7 : Int)) := hd.g 0 rfl; exact of_and a0 rfl) <|
     Obls.p (fun R' w' hw hs hd => by have a0 : R' 27 = .int .i64 (bitI (fun u v => u &&& v) .i64 (((y5 * (131 : Int)) + (IntKind.i64.wrap (gtD p0 y6))) + (7 : Int)) (1073741823 : Int)) := hd.g 0 rfl; exact of_assign a0) <|
     Obls.nil
   intro R w hw hs hF'
   replace h0 := (hs 0 rfl).trans h0
   replace h4 := (hs 4 rfl).trans h4
   have h3 : R 3 = .int .i64 (bitI (fun u v => u &&& v) .i64 (((y5 * (131 : Int)) + (IntKind.i64.wrap (gtD p0 y6))) + (7 : Int)) (1073741823 : Int)) := hF' 10 _ _ rfl rfl rfl
   replace f_v0 := f_v0.fr hw
   replace hO := hO.fr hw
   replace hA := hA.fr hw.size
   replace hF := hF.trans hw
   clear hs hF' hw
   refine seqR_nil ?_
   obtain ⟨e14, hr⟩ := ck_some hr
   refine HT.text (l := ⟨_, true, .raw (.int .i64 y6)⟩ :: ⟨_, true, .raw (.int .i64 (y6 + (1 : Int)))⟩ :: ⟨_, true, .raw (.int .i64 (y6 + (1 : Int)))⟩ :: []) (tl := []) (by kernel_rfl) (by kernel_rfl) (by kernel_rfl) ?_ ?_
   ·exact
     Obls.p (fun R' w' hw hs hd => of_move ((hs 4 rfl).trans h4)) <|
     Obls.p (fun R' w' hw hs hd => by have a0 : R' 16 = .int .i64 y6 := hd.g 0 rfl; exact of_add a0 rfl e14) <|
     Obls.p (fun R' w' hw hs hd => by have a0 : R' 17 = .int .i64 (y6 + (1 : Int)) := hd.g 0 rfl; exact of_assign a0) <|
     Obls.nil
   intro R w hw hs hF'
   replace h0 := (hs 0 rfl).trans h0
   replace h3 := (hs 3 rfl).trans h3
   have h4 : R 4 = .int .i64 (y6 + (1 : Int)) := hF' 2 _ _ rfl rfl rfl
   replace f_v0 := f_v0.fr hw
   replace hO := hO.fr hw
   replace hA := hA.fr hw.size
   replace hF := hF.trans hw
   clear hs hF' hw
   refine seqR_nil ?_
   exact Exists.intro k (And.intro (Nat.lt_succ_self k) ⟨_, _, _, hr, hA, hF, hAA, hO, h0, h3, h4, f_v0⟩)
  ·have hr := cnd_f c9 hr
   refine HT.exit ?_
   obtain rfl := Option.some.inj hr
   exact Exists.intro _ ⟨_, rfl, hA, hF, hAA, hO, h0, h3, f_v0⟩
 rintro R w ⟨A, s4, es, hA, hF, hAA, hO, h0, h3, f_v0⟩
 obtain rfl := es.symm
 refine HT.seq ?_
 refine SG.of ?_
 refine SG.textR [] (⟨_, true, [], none, true, fun A => .raw v0⟩ :: ⟨_, true, [], none, true, fun A => .raw (.int .i64 s4)⟩ :: ⟨_, true, [], none, true, fun A => .rep E_spec_l1Cur A (p0, (0 : Int), s4)⟩ :: ⟨_, true, [], some (.box w0.heap.size 108 E_spec_l1Cur (p0, (0 : Int), s4)), true, fun A => .any⟩ :: []) 4 rfl rfl rfl (by kernel_rfl) (by kernel_rfl) (Wf.mk' (by kernel_rfl) (UAll.cons ust_raw (UAll.cons ust_raw (UAll.cons ust_rep (UAll.cons ust_any (UAll.nil))))) (by kernel_rfl) (by kernel_rfl)) hO hA (trivial) ?_ ?_
 ·exact
   OblsR.p (fun A' R' w' ho hd => of_move ((ho.old 0 rfl).trans h0)) <|
   OblsR.p (fun A' R' w' ho hd => of_move ((ho.old 3 rfl).trans h3)) <|
   OblsR.p (fun A' R' w' ho hd => by have a0 : R' 28 = v0 := hd.g 0 rfl; have ra0 := (f_v0.stp ho.stp).eq a0; have a1 : R' 29 = .int .i64 s4 := hd.g 1 rfl; obtain ⟨c15a, c15n, c15c, c15, c15r⟩ := rep_sl_val ra0; exact of_build_raw (v := .agg #[.slice c15a c15n c15c, .int .i64 0, .int .i64 s4]) (by simp [execOp, Instr.build, evalR, c15, a1, underlying, Try.underlying108, Try.zeroValue108, Try.sizeOf3, Try.sizeOf33, go_sem, Instr.fill]) ⟨_, rfl, rep_pr c15r (rep_pr rep1_int rep1_int)⟩) <|
   OblsR.cons (OblR.made _ rfl rfl rfl rfl fun A' R' w' ho hd => by have a0 : Rep E_spec_l1Cur A' w' (R' 30) (p0, (0 : Int), s4) := hd.g 0 rfl; exact made_box a0 (Nat.le_trans hF.size ho.ch.size)) <|
   OblsR.nil
 intro done ρ σ A R w hdn hI
 obtain ⟨b31_15, e_b31_15⟩ := hI.boxv hdn 3 rfl rfl
 have h31 : R 31 = (.pointer (some ⟨b31_15, 0, none⟩)) := (hI.opvR hdn 3 3 rfl rfl rfl rfl rfl).symm.trans e_b31_15
 replace hAA := hI.low' hAA hA0 (hO.ge (trivial))
 replace hF : Fr w0 w := hF.tr hI.ch (hO.ge (trivial))
 replace hO : IniOK [ob (.pointer (some ⟨b31_15, 0, none⟩)) (.box w0.heap.size 108 E_spec_l1Cur (p0, (0 : Int), s4))] A w := hI.left hdn [(3, ob (.pointer (some ⟨b31_15, 0, none⟩)) (.box w0.heap.size 108 E_spec_l1Cur (p0, (0 : Int), s4)))] ⟨rfl, rfl, e_b31_15, rfl, rfl, trivial⟩
 replace hA := hI.avok
 clear hI
 refine SG.textR [ob (.pointer (some ⟨b31_15, 0, none⟩)) (.box w0.heap.size 108 E_spec_l1Cur (p0, (0 : Int), s4))] (⟨_, true, [], none, true, fun A => .any⟩ :: ⟨_, true, [], none, true, fun A => .any⟩ :: ⟨_, true, [], none, true, fun A => .any⟩ :: ⟨_, true, [], none, true, fun A => .raw (.pointer (some ⟨b31_15, 0, none⟩))⟩ :: ⟨_, true, [], none, true, fun A => .raw (.pointer (some ⟨b31_15, 0, none⟩))⟩ :: []) 5 rfl rfl rfl (by kernel_rfl) (by kernel_rfl) (Wf.mk' (by kernel_rfl) (UAll.cons ust_any (UAll.cons ust_any (UAll.cons ust_any (UAll.cons ust_raw (UAll.cons ust_raw (UAll.nil)))))) (by kernel_rfl) (by kernel_rfl)) hO hA (⟨⟨rfl, rfl, rfl, trivial⟩, ⟨⟨rfl, rfl, rfl, trivial⟩, ⟨⟨rfl, rfl, rfl, trivial⟩, ⟨⟨rfl, rfl, rfl, h31⟩, trivial⟩⟩⟩⟩) ?_ ?_
 ·exact
   OblsR.p (fun A' R' w' ho hd => by have a0 : R' 31 = (.pointer (some ⟨b31_15, 0, none⟩)) := hd.g 0 rfl; exact of_assign a0) <|
   OblsR.nil
 intro done ρ σ A R w hdn hI
 have z17 := hI.inivR 0 rfl
 have h2 : R 2 = (.pointer (some ⟨b31_15, 0, none⟩)) := hI.fact hdn (i := 4) rfl rfl rfl
 replace hAA := hI.low' hAA hA0 (hO.ge (⟨rfl, trivial⟩))
 replace hF : Fr w0 w := hF.tr hI.ch (hO.ge (⟨rfl, trivial⟩))
 replace hO : IniOK [ob (.pointer (some ⟨b31_15, 0, none⟩)) (.box w0.heap.size 108 E_spec_l1Cur (p0, (0 : Int), s4))] A w := hI.left hdn [(0, ob (.pointer (some ⟨b31_15, 0, none⟩)) (.box w0.heap.size 108 E_spec_l1Cur (p0, (0 : Int), s4)))] ⟨rfl, rfl, z17, rfl, rfl, trivial⟩
 replace hA := hI.avok
 clear hI
 refine SG.fin rfl ?_
 refine HT.ret ?_
 obtain rfl := Option.some.inj hr
 obtain ⟨A1, hA1, hG1⟩ := GPost.of hO hA hAA (fun k hk => .inl (hO.ge (⟨rfl, trivial⟩) k hk)) (hF.ch (fun _ => False))
 exact ⟨.inr rfl, [R 2], ⟨rfl, trivial⟩, b31_15, A1, hG1, h2⟩
def M_spec_l1Byte (fu : Nat) (p0 : T_spec_l1Cur) : Option (Int × T_spec_l1Cur) :=
 ck (decide (0 ≤ (33 : Int))) <|
 ck (decide (0 ≤ (45 : Int))) <|
 bif (decide (p0.2.1 < (p0.1.length : Int))) then (
  ck (inR p0.2.1 p0.1.length) <|
  some ((bitI (fun u v => u &&& v) .i64 (IntKind.i64.wrap ((bitI (fun u v => u &&& v) .i64 (bitI (fun u v => u ^^^ v) .i64 ((IntKind.i64.wrap ((IntKind.i64.wrap (p0.2.2 * (6364136223846793005 : Int))) + (1442695040888963407 : Int))) / 2 ^ min (33 : Int).toNat 64) ((IntKind.i64.wrap ((IntKind.i64.wrap (p0.2.2 * (6364136223846793005 : Int))) + (1442695040888963407 : Int))) / 2 ^ min (45 : Int).toNat 64)) (255 : Int)) + (IntKind.i64.wrap (gtD p0.1 p0.2.1)))) (255 : Int)), (p0.1, (IntKind.i64.wrap (p0.2.1 + (1 : Int))), (IntKind.i64.wrap ((IntKind.i64.wrap (p0.2.2 * (6364136223846793005 : Int))) + (1442695040888963407 : Int)))))
 ) else (
  some ((bitI (fun u v => u &&& v) .i64 (bitI (fun u v => u ^^^ v) .i64 ((IntKind.i64.wrap ((IntKind.i64.wrap (p0.2.2 * (6364136223846793005 : Int))) + (1442695040888963407 : Int))) / 2 ^ min (33 : Int).toNat 64) ((IntKind.i64.wrap ((IntKind.i64.wrap (p0.2.2 * (6364136223846793005 : Int))) + (1442695040888963407 : Int))) / 2 ^ min (45 : Int).toNat 64)) (255 : Int)), (p0.1, p0.2.1, (IntKind.i64.wrap ((IntKind.i64.wrap (p0.2.2 * (6364136223846793005 : Int))) + (1442695040888963407 : Int)))))
 )
theorem M_spec_l1Byte_ok {fu : Nat} {Aq : Av} {p0 : T_spec_l1Cur} {r : Int × T_spec_l1Cur} (hr : M_spec_l1Byte fu p0 = some r) {w : World} {v0 : Value} {b0 B0 : Nat} (hA : AvOK Aq w) (h0 : v0 = .pointer (some ⟨b0, 0, none⟩)) (hO0 : IniOK [ob (.pointer (some ⟨b0, 0, none⟩)) (.box B0 108 E_spec_l1Cur p0)] Aq w) :
  Calls Try.prog 101 #[v0] w fun e w' => ∃ v, e = .returned v ∧ (∃ (A1 : Av), GPost (subS Aq (ownsB (.pointer (some ⟨b0, 0, none⟩)))) (ownsB (.pointer (some ⟨b0, 0, none⟩))) w [ob (.pointer (some ⟨b0, 0, none⟩)) (.box B0 108 E_spec_l1Cur r.2)] A1 w' ∧ (Fact.raw (.int .i64 r.1)).ok v w') := by
 unfold M_spec_l1Byte at hr
 obtain ⟨w0, hw0⟩ : ∃ w0, w0 = w := ⟨_, rfl⟩
 have hF : Ch (ownsB (.pointer (some ⟨b0, 0, none⟩))) w0 w := hw0 ▸ Ch.refl _ _
 obtain ⟨A0, hA0e⟩ : ∃ A0, A0 = subS Aq (ownsB (.pointer (some ⟨b0, 0, none⟩))) := ⟨_, rfl⟩
 have hA0 : ∀ b o, A0 b o → b < w0.heap.size := fun b o h => hw0 ▸ hA b o (hA0e ▸ h : subS Aq _ b o).1
 have hN : ∀ b o, A0 b o → ¬ (ownsB (.pointer (some ⟨b0, 0, none⟩))) b := fun b o h => (hA0e ▸ h : subS Aq _ b o).2
 have hA00 : AvOK A0 w0 := hA0
 rw [show GPost (subS Aq (ownsB (.pointer (some ⟨b0, 0, none⟩)))) (ownsB (.pointer (some ⟨b0, 0, none⟩))) w = GPost A0 (ownsB (.pointer (some ⟨b0, 0, none⟩))) w0 from by rw [hA0e, hw0]]
 clear hw0
 obtain ⟨A, hAe⟩ : ∃ A, A = Aq := ⟨_, rfl⟩
 have hAA : ∀ b o, A0 b o → A b o := fun b o h => hAe ▸ (hA0e ▸ h : subS Aq _ b o).1
 replace hA : AvOK A w := hAe ▸ hA
 have hO : IniOK [ob (.pointer (some ⟨b0, 0, none⟩)) (.box B0 108 E_spec_l1Cur p0)] A w := hAe ▸ hO0
 clear hA0e hO0
 refine calls_of_HT2 [.tmp 2] Try.func101 Try.ntmps101 (by decide) rfl rfl (Nat.le_of_ble_eq_true rfl) ?_
 intro R hR
 replace h0 : R 0 = .pointer (some ⟨b0, 0, none⟩) := (hR 0 _ rfl).trans h0
 clear hR hAe
 refine HT.seq ?_
 refine HT.text (l := ⟨_, true, .raw (.int .i64 (0 : Int))⟩ :: []) (tl := []) (by kernel_rfl) (by kernel_rfl) (by kernel_rfl) ?_ ?_
 ·exact
   Obls.p (fun R' w' hw hs hd => of_assign rfl) <|
   Obls.nil
 intro R w hw hs hF'
 replace h0 := (hs 0 rfl).trans h0
 replace hO := hO.fr hw
 replace hA := hA.fr hw.size
 replace hF := hF.tr (hw.ch noB) fun _ h => False.elim h
 clear hs hF' hw
 refine seqR_nil ?_
 refine HT.seq ?_
 refine HT.textR [ob (.pointer (some ⟨b0, 0, none⟩)) (.box B0 108 E_spec_l1Cur p0)] (⟨_, true, [], none, true, fun A => .raw (.pointer (some ⟨b0, 0, none⟩))⟩ :: ⟨_, true, [], none, true, fun A => .raw (.pointer (some ⟨b0, 0, none⟩))⟩ :: ⟨_, true, [], none, true, fun A => .raw (.pointer (some ⟨b0, 0, none⟩))⟩ :: ⟨_, true, [], none, true, fun A => .raw (.pointer (some ⟨b0, 2, none⟩))⟩ :: ⟨_, true, [], none, true, fun A => .raw (.int .i64 p0.2.2)⟩ :: ⟨_, true, [], none, true, fun A => .raw (.int .i64 (IntKind.i64.wrap (p0.2.2 * (6364136223846793005 : Int))))⟩ :: ⟨_, true, [], none, true, fun A => .raw (.int .i64 (IntKind.i64.wrap ((IntKind.i64.wrap (p0.2.2 * (6364136223846793005 : Int))) + (1442695040888963407 : Int))))⟩ :: ⟨_, true, [], none, true, fun A => .raw (.pointer (some ⟨b0, 0, none⟩))⟩ :: ⟨_, true, [], none, true, fun A => .raw (.pointer (some ⟨b0, 2, none⟩))⟩ :: ⟨_, true, [0], some (.box B0 108 E_spec_l1Cur (p0.1, p0.2.1, (IntKind.i64.wrap ((IntKind.i64.wrap (p0.2.2 * (6364136223846793005 : Int))) + (1442695040888963407 : Int))))), false, fun A => .any⟩ :: []) (by kernel_rfl) (by kernel_rfl) (Wf.mk' (by kernel_rfl) (UAll.cons ust_raw (UAll.cons ust_raw (UAll.cons ust_raw (UAll.cons ust_raw (UAll.cons ust_raw (UAll.cons ust_raw (UAll.cons ust_raw (UAll.cons ust_raw (UAll.cons ust_raw (UAll.cons ust_any (UAll.nil))))))))))) (by kernel_rfl) (by kernel_rfl)) hO hA ?_ ?_
 ·exact
   OblsR.p (fun A' R' w' ho hd => of_move ((ho.old 0 rfl).trans h0)) <|
   OblsR.p (fun A' R' w' ho hd => of_move ((ho.old 0 rfl).trans h0)) <|
   OblsR.p (fun A' R' w' ho hd => by have a0 : R' 5 = (.pointer (some ⟨b0, 0, none⟩)) := hd.g 0 rfl; exact of_nilCheck a0) <|
   OblsR.p (fun A' R' w' ho hd => by have a0 : R' 6 = (.pointer (some ⟨b0, 0, none⟩)) := hd.g 0 rfl; exact of_fieldAddr_raw a0 ff_108_2 Try.sizeOf3 (by decide) rfl) <|
   OblsR.p (fun A' R' w' ho hd => by have a0 : R' 7 = (.pointer (some ⟨b0, 2, none⟩)) := hd.g 0 rfl; exact OpF.int (of_load_box (ho.rd 0 _ rfl rfl) a0 fl_spec_l1Cur_2 rfl Try.isAgg3 Try.sizeOf3)) <|
   OblsR.p (fun A' R' w' ho hd => by have a0 : R' 8 = .int .i64 p0.2.2 := hd.g 0 rfl; exact of_mul_w a0 rfl) <|
   OblsR.p (fun A' R' w' ho hd => by have a0 : R' 9 = .int .i64 (IntKind.i64.wrap (p0.2.2 * (6364136223846793005 : Int))) := hd.g 0 rfl; exact of_add_w a0 rfl) <|
   OblsR.p (fun A' R' w' ho hd => by have a0 : R' 4 = (.pointer (some ⟨b0, 0, none⟩)) := hd.g 0 rfl; exact of_nilCheck a0) <|
   OblsR.p (fun A' R' w' ho hd => by have a0 : R' 11 = (.pointer (some ⟨b0, 0, none⟩)) := hd.g 0 rfl; exact of_fieldAddr_raw a0 ff_108_2 Try.sizeOf3 (by decide) rfl) <|
   OblsR.cons (OblR.took 0 _ _ rfl rfl rfl rfl rfl fun A' R' w' ho hd u hok hav hin hop hds => by have a0 : R' 12 = (.pointer (some ⟨b0, 2, none⟩)) := hd.g 0 rfl; have a1 : R' 10 = .int .i64 (IntKind.i64.wrap ((IntKind.i64.wrap (p0.2.2 * (6364136223846793005 : Int))) + (1442695040888963407 : Int))) := hd.g 1 rfl; exact took_store (rep_int.eq a1) a0 (hin _ rfl) hok hav fs_spec_l1Cur_2 Try.sizeOf3 rfl) <|
   OblsR.nil
 intro done ρ σ A R w hdn hI
 replace h0 : R 0 = (.pointer (some ⟨b0, 0, none⟩)) := (hI.reg rfl).trans h0
 have z1 := hI.inivR 0 rfl
 have z2 := (hI.opnR hdn 10 9 rfl rfl rfl rfl rfl).trans z1
 replace hAA := hI.lowK hAA hA0 hN (hO.geK (⟨.inr (fun k h => .inr h), trivial⟩))
 replace hF : Ch (ownsB (.pointer (some ⟨b0, 0, none⟩))) w0 w := hF.tr hI.ch (hO.geK (⟨.inr (fun k h => .inr h), trivial⟩))
 replace hO : IniOK [ob (.pointer (some ⟨b0, 0, none⟩)) (.box B0 108 E_spec_l1Cur (p0.1, p0.2.1, (IntKind.i64.wrap ((IntKind.i64.wrap (p0.2.2 * (6364136223846793005 : Int))) + (1442695040888963407 : Int)))))] A w := hI.left hdn [(10, ob (.pointer (some ⟨b0, 0, none⟩)) (.box B0 108 E_spec_l1Cur (p0.1, p0.2.1, (IntKind.i64.wrap ((IntKind.i64.wrap (p0.2.2 * (6364136223846793005 : Int))) + (1442695040888963407 : Int))))))] ⟨rfl, rfl, z2, rfl, rfl, trivial⟩
 replace hA := hI.avok
 clear hI
 refine HT.seq ?_
 obtain ⟨e3, hr⟩ := ck_some hr
 obtain ⟨e4, hr⟩ := ck_some hr
 refine HT.draw (by kernel_rfl) (l := ⟨_, true, .raw (.pointer (some ⟨b0, 0, none⟩))⟩ :: ⟨_, true, .raw (.pointer (some ⟨b0, 0, none⟩))⟩ :: ⟨_, true, .raw (.pointer (some ⟨b0, 2, none⟩))⟩ :: ⟨_, true, .raw (.int .i64 (IntKind.i64.wrap ((IntKind.i64.wrap (p0.2.2 * (6364136223846793005 : Int))) + (1442695040888963407 : Int))))⟩ :: ⟨_, true, .raw (.int .i64 ((IntKind.i64.wrap ((IntKind.i64.wrap (p0.2.2 * (6364136223846793005 : Int))) + (1442695040888963407 : Int))) / 2 ^ min (33 : Int).toNat 64))⟩ :: ⟨_, true, .raw (.pointer (some ⟨b0, 0, none⟩))⟩ :: ⟨_, true, .raw (.pointer (some ⟨b0, 0, none⟩))⟩ :: ⟨_, true, .raw (.pointer (some ⟨b0, 2, none⟩))⟩ :: ⟨_, true, .raw (.int .i64 (IntKind.i64.wrap ((IntKind.i64.wrap (p0.2.2 * (6364136223846793005 : Int))) + (1442695040888963407 : Int))))⟩ :: ⟨_, true, .raw (.int .i64 ((IntKind.i64.wrap ((IntKind.i64.wrap (p0.2.2 * (6364136223846793005 : Int))) + (1442695040888963407 : Int))) / 2 ^ min (45 : Int).toNat 64))⟩ :: ⟨_, true, .raw (.int .i64 (bitI (fun u v => u ^^^ v) .i64 ((IntKind.i64.wrap ((IntKind.i64.wrap (p0.2.2 * (6364136223846793005 : Int))) + (1442695040888963407 : Int))) / 2 ^ min (33 : Int).toNat 64) ((IntKind.i64.wrap ((IntKind.i64.wrap (p0.2.2 * (6364136223846793005 : Int))) + (1442695040888963407 : Int))) / 2 ^ min (45 : Int).toNat 64)))⟩ :: ⟨_, true, .raw (.int .i64 (bitI (fun u v => u &&& v) .i64 (bitI (fun u v => u ^^^ v) .i64 ((IntKind.i64.wrap ((IntKind.i64.wrap (p0.2.2 * (6364136223846793005 : Int))) + (1442695040888963407 : Int))) / 2 ^ min (33 : Int).toNat 64) ((IntKind.i64.wrap ((IntKind.i64.wrap (p0.2.2 * (6364136223846793005 : Int))) + (1442695040888963407 : Int))) / 2 ^ min (45 : Int).toNat 64)) (255 : Int)))⟩ :: ⟨_, true, .raw (.int .i64 (bitI (fun u v => u &&& v) .i64 (bitI (fun u v => u ^^^ v) .i64 ((IntKind.i64.wrap ((IntKind.i64.wrap (p0.2.2 * (6364136223846793005 : Int))) + (1442695040888963407 : Int))) / 2 ^ min (33 : Int).toNat 64) ((IntKind.i64.wrap ((IntKind.i64.wrap (p0.2.2 * (6364136223846793005 : Int))) + (1442695040888963407 : Int))) / 2 ^ min (45 : Int).toNat 64)) (255 : Int)))⟩ :: []) (tl := []) (by kernel_rfl) (by kernel_rfl) (by kernel_rfl) (by kernel_rfl) ?_ ?_
 ·exact
   Obls.p (fun R' w' hw hs hd => of_move ((hs 0 rfl).trans h0)) <|
   Obls.p (fun R' w' hw hs hd => by have a0 : R' 13 = (.pointer (some ⟨b0, 0, none⟩)) := hd.g 0 rfl; exact of_nilCheck a0) <|
   Obls.p (fun R' w' hw hs hd => by have a0 : R' 14 = (.pointer (some ⟨b0, 0, none⟩)) := hd.g 0 rfl; exact of_fieldAddr_raw a0 ff_108_2 Try.sizeOf3 (by decide) rfl) <|
   Obls.p (fun R' w' hw hs hd => by have a0 : R' 15 = (.pointer (some ⟨b0, 2, none⟩)) := hd.g 0 rfl; exact OpF.int (of_load_box ((hO.fr hw).ok 0 _ rfl).1 a0 fl_spec_l1Cur_2 rfl Try.isAgg3 Try.sizeOf3)) <|
   Obls.p (fun R' w' hw hs hd => by have a0 : R' 16 = .int .i64 (IntKind.i64.wrap ((IntKind.i64.wrap (p0.2.2 * (6364136223846793005 : Int))) + (1442695040888963407 : Int))) := hd.g 0 rfl; exact of_shr a0 rfl e3) <|
   Obls.p (fun R' w' hw hs hd => of_move ((hs 0 rfl).trans h0)) <|
   Obls.p (fun R' w' hw hs hd => by have a0 : R' 18 = (.pointer (some ⟨b0, 0, none⟩)) := hd.g 0 rfl; exact of_nilCheck a0) <|
   Obls.p (fun R' w' hw hs hd => by have a0 : R' 19 = (.pointer (some ⟨b0, 0, none⟩)) := hd.g 0 rfl; exact of_fieldAddr_raw a0 ff_108_2 Try.sizeOf3 (by decide) rfl) <|
   Obls.p (fun R' w' hw hs hd => by have a0 : R' 20 = (.pointer (some ⟨b0, 2, none⟩)) := hd.g 0 rfl; exact OpF.int (of_load_box ((hO.fr hw).ok 0 _ rfl).1 a0 fl_spec_l1Cur_2 rfl Try.isAgg3 Try.sizeOf3)) <|
   Obls.p (fun R' w' hw hs hd => by have a0 : R' 21 = .int .i64 (IntKind.i64.wrap ((IntKind.i64.wrap (p0.2.2 * (6364136223846793005 : Int))) + (1442695040888963407 : Int))) := hd.g 0 rfl; exact of_shr a0 rfl e4) <|
   Obls.p (fun R' w' hw hs hd => by have a0 : R' 17 = .int .i64 ((IntKind.i64.wrap ((IntKind.i64.wrap (p0.2.2 * (6364136223846793005 : Int))) + (1442695040888963407 : Int))) / 2 ^ min (33 : Int).toNat 64) := hd.g 0 rfl; have a1 : R' 22 = .int .i64 ((IntKind.i64.wrap ((IntKind.i64.wrap (p0.2.2 * (6364136223846793005 : Int))) + (1442695040888963407 : Int))) / 2 ^ min (45 : Int).toNat 64) := hd.g 1 rfl; exact of_xor a0 a1) <|
   Obls.p (fun R' w' hw hs hd => by have a0 : R' 23 = .int .i64 (bitI (fun u v => u ^^^ v) .i64 ((IntKind.i64.wrap ((IntKind.i64.wrap (p0.2.2 * (6364136223846793005 : Int))) + (1442695040888963407 : Int))) / 2 ^ min (33 : Int).toNat 64) ((IntKind.i64.wrap ((IntKind.i64.wrap (p0.2.2 * (6364136223846793005 : Int))) + (1442695040888963407 : Int))) / 2 ^ min (45 : Int).toNat 64)) := hd.g 0 rfl; exact of_and a0 rfl) <|
   Obls.p (fun R' w' hw hs hd => by have a0 : R' 24 = .int .i64 (bitI (fun u v => u &&& v) .i64 (bitI (fun u v => u ^^^ v) .i64 ((IntKind.i64.wrap ((IntKind.i64.wrap (p0.2.2 * (6364136223846793005 : Int))) + (1442695040888963407 : Int))) / 2 ^ min (33 : Int).toNat 64) ((IntKind.i64.wrap ((IntKind.i64.wrap (p0.2.2 * (6364136223846793005 : Int))) + (1442695040888963407 : Int))) / 2 ^ min (45 : Int).toNat 64)) (255 : Int)) := hd.g 0 rfl; exact of_assign a0) <|
   Obls.nil
 intro R w hw hs hF'
 replace h0 := (hs 0 rfl).trans h0
 have h3 : R 3 = .int .i64 (bitI (fun u v => u &&& v) .i64 (bitI (fun u v => u ^^^ v) .i64 ((IntKind.i64.wrap ((IntKind.i64.wrap (p0.2.2 * (6364136223846793005 : Int))) + (1442695040888963407 : Int))) / 2 ^ min (33 : Int).toNat 64) ((IntKind.i64.wrap ((IntKind.i64.wrap (p0.2.2 * (6364136223846793005 : Int))) + (1442695040888963407 : Int))) / 2 ^ min (45 : Int).toNat 64)) (255 : Int)) := hF' 12 _ _ rfl rfl rfl
 replace hO := hO.fr hw
 replace hA := hA.fr hw.size
 replace hF := hF.tr (hw.ch noB) fun _ h => False.elim h
 clear hs hF' hw
 refine seqR_nil ?_
 refine HT.seq ?_
 refine HT.seq ?_
 refine HT.draw (by kernel_rfl) (l := ⟨_, true, .raw (.pointer (some ⟨b0, 0, none⟩))⟩ :: ⟨_, true, .raw (.pointer (some ⟨b0, 0, none⟩))⟩ :: ⟨_, true, .raw (.pointer (some ⟨b0, 1, none⟩))⟩ :: ⟨_, true, .raw (.int .i64 p0.2.1)⟩ :: ⟨_, true, .raw (.pointer (some ⟨b0, 0, none⟩))⟩ :: ⟨_, true, .raw (.pointer (some ⟨b0, 0, none⟩))⟩ :: ⟨_, true, .raw (.pointer (some ⟨b0, 0, none⟩))⟩ :: ⟨_, true, .rep (eSl (eInt .u8)) A p0.1⟩ :: ⟨_, true, .raw (.int .i64 (p0.1.length : Int))⟩ :: ⟨_, true, .raw (.bool (decide (p0.2.1 < (p0.1.length : Int))))⟩ :: []) (tl := []) (by kernel_rfl) (by kernel_rfl) (by kernel_rfl) (by kernel_rfl) ?_ ?_
 ·exact
   Obls.p (fun R' w' hw hs hd => of_move ((hs 0 rfl).trans h0)) <|
   Obls.p (fun R' w' hw hs hd => by have a0 : R' 25 = (.pointer (some ⟨b0, 0, none⟩)) := hd.g 0 rfl; exact of_nilCheck a0) <|
   Obls.p (fun R' w' hw hs hd => by have a0 : R' 26 = (.pointer (some ⟨b0, 0, none⟩)) := hd.g 0 rfl; exact of_fieldAddr_raw a0 ff_108_1 Try.sizeOf3 (by decide) rfl) <|
   Obls.p (fun R' w' hw hs hd => by have a0 : R' 27 = (.pointer (some ⟨b0, 1, none⟩)) := hd.g 0 rfl; exact OpF.int (of_load_box ((hO.fr hw).ok 0 _ rfl).1 a0 fl_spec_l1Cur_1 rfl Try.isAgg3 Try.sizeOf3)) <|
   Obls.p (fun R' w' hw hs hd => of_move ((hs 0 rfl).trans h0)) <|
   Obls.p (fun R' w' hw hs hd => by have a0 : R' 29 = (.pointer (some ⟨b0, 0, none⟩)) := hd.g 0 rfl; exact of_nilCheck a0) <|
   Obls.p (fun R' w' hw hs hd => by have a0 : R' 30 = (.pointer (some ⟨b0, 0, none⟩)) := hd.g 0 rfl; exact of_fieldAddr_raw a0 ff_108_0 Try.sizeOf33 (by decide) rfl) <|
   Obls.p (fun R' w' hw hs hd => by have a0 : R' 31 = (.pointer (some ⟨b0, 0, none⟩)) := hd.g 0 rfl; exact (of_load_box ((hO.fr hw).ok 0 _ rfl).1 a0 fl_spec_l1Cur_0 rfl Try.isAgg33 Try.sizeOf33)) <|
   Obls.p (fun R' w' hw hs hd => by have a0 : Rep (eSl (eInt .u8)) A w' (R' 32) p0.1 := hd.g 0 rfl; exact of_len_sl (aT := #[]) a0 Try.underlying33) <|
   Obls.p (fun R' w' hw hs hd => by have a0 : R' 28 = .int .i64 p0.2.1 := hd.g 0 rfl; have a1 : R' 33 = .int .i64 (p0.1.length : Int) := hd.g 1 rfl; exact of_lss a0 a1) <|
   Obls.nil
 intro R w hw hs hF'
 replace h0 := (hs 0 rfl).trans h0
 replace h3 := (hs 3 rfl).trans h3
 have h34 : R 34 = .bool (decide (p0.2.1 < (p0.1.length : Int))) := hF' 9 _ _ rfl rfl rfl
 replace hO := hO.fr hw
 replace hA := hA.fr hw.size
 replace hF := hF.tr (hw.ch noB) fun _ h => False.elim h
 clear hs hF' hw
 refine seqR_nil ?_
 refine HT.cond (decide (p0.2.1 < (p0.1.length : Int))) h34 (fun c5 => ?_) (fun c5 => ?_)
 ·have hr := cnd_t c5 hr
  refine HT.seq ?_
  obtain ⟨e6, hr⟩ := ck_some hr
  refine HT.draw (by kernel_rfl) (l := ⟨_, true, .raw (.int .i64 (bitI (fun u v => u &&& v) .i64 (bitI (fun u v => u ^^^ v) .i64 ((IntKind.i64.wrap ((IntKind.i64.wrap (p0.2.2 * (6364136223846793005 : Int))) + (1442695040888963407 : Int))) / 2 ^ min (33 : Int).toNat 64) ((IntKind.i64.wrap ((IntKind.i64.wrap (p0.2.2 * (6364136223846793005 : Int))) + (1442695040888963407 : Int))) / 2 ^ min (45 : Int).toNat 64)) (255 : Int)))⟩ :: ⟨_, true, .raw (.pointer (some ⟨b0, 0, none⟩))⟩ :: ⟨_, true, .raw (.pointer (some ⟨b0, 0, none⟩))⟩ :: ⟨_, true, .raw (.pointer (some ⟨b0, 0, none⟩))⟩ :: ⟨_, true, .rep (eSl (eInt .u8)) A p0.1⟩ :: ⟨_, true, .raw (.pointer (some ⟨b0, 0, none⟩))⟩ :: ⟨_, true, .raw (.pointer (some ⟨b0, 0, none⟩))⟩ :: ⟨_, true, .raw (.pointer (some ⟨b0, 1, none⟩))⟩ :: ⟨_, true, .raw (.int .i64 p0.2.1)⟩ :: ⟨_, true, .qtr (eInt .u8) A (gtD p0.1 p0.2.1)⟩ :: ⟨_, true, .raw (.int .u8 (gtD p0.1 p0.2.1))⟩ :: ⟨_, true, .raw (.int .i64 (IntKind.i64.wrap (gtD p0.1 p0.2.1)))⟩ :: ⟨_, true, .raw (.int .i64 (IntKind.i64.wrap ((bitI (fun u v => u &&& v) .i64 (bitI (fun u v => u ^^^ v) .i64 ((IntKind.i64.wrap ((IntKind.i64.wrap (p0.2.2 * (6364136223846793005 : Int))) + (1442695040888963407 : Int))) / 2 ^ min (33 : Int).toNat 64) ((IntKind.i64.wrap ((IntKind.i64.wrap (p0.2.2 * (6364136223846793005 : Int))) + (1442695040888963407 : Int))) / 2 ^ min (45 : Int).toNat 64)) (255 : Int)) + (IntKind.i64.wrap (gtD p0.1 p0.2.1)))))⟩ :: ⟨_, true, .raw (.int .i64 (bitI (fun u v => u &&& v) .i64 (IntKind.i64.wrap ((bitI (fun u v => u &&& v) .i64 (bitI (fun u v => u ^^^ v) .i64 ((IntKind.i64.wrap ((IntKind.i64.wrap (p0.2.2 * (6364136223846793005 : Int))) + (1442695040888963407 : Int))) / 2 ^ min (33 : Int).toNat 64) ((IntKind.i64.wrap ((IntKind.i64.wrap (p0.2.2 * (6364136223846793005 : Int))) + (1442695040888963407 : Int))) / 2 ^ min (45 : Int).toNat 64)) (255 : Int)) + (IntKind.i64.wrap (gtD p0.1 p0.2.1)))) (255 : Int)))⟩ :: ⟨_, true, .raw (.int .i64 (bitI (fun u v => u &&& v) .i64 (IntKind.i64.wrap ((bitI (fun u v => u &&& v) .i64 (bitI (fun u v => u ^^^ v) .i64 ((IntKind.i64.wrap ((IntKind.i64.wrap (p0.2.2 * (6364136223846793005 : Int))) + (1442695040888963407 : Int))) / 2 ^ min (33 : Int).toNat 64) ((IntKind.i64.wrap ((IntKind.i64.wrap (p0.2.2 * (6364136223846793005 : Int))) + (1442695040888963407 : Int))) / 2 ^ min (45 : Int).toNat 64)) (255 : Int)) + (IntKind.i64.wrap (gtD p0.1 p0.2.1)))) (255 : Int)))⟩ :: []) (tl := []) (by kernel_rfl) (by kernel_rfl) (by kernel_rfl) (by kernel_rfl) ?_ ?_
  ·exact
    Obls.p (fun R' w' hw hs hd => of_move ((hs 3 rfl).trans h3)) <|
    Obls.p (fun R' w' hw hs hd => of_move ((hs 0 rfl).trans h0)) <|
    Obls.p (fun R' w' hw hs hd => by have a0 : R' 36 = (.pointer (some ⟨b0, 0, none⟩)) := hd.g 0 rfl; exact of_nilCheck a0) <|
    Obls.p (fun R' w' hw hs hd => by have a0 : R' 37 = (.pointer (some ⟨b0, 0, none⟩)) := hd.g 0 rfl; exact of_fieldAddr_raw a0 ff_108_0 Try.sizeOf33 (by decide) rfl) <|
    Obls.p (fun R' w' hw hs hd => by have a0 : R' 38 = (.pointer (some ⟨b0, 0, none⟩)) := hd.g 0 rfl; exact (of_load_box ((hO.fr hw).ok 0 _ rfl).1 a0 fl_spec_l1Cur_0 rfl Try.isAgg33 Try.sizeOf33)) <|
    Obls.p (fun R' w' hw hs hd => of_move ((hs 0 rfl).trans h0)) <|
    Obls.p (fun R' w' hw hs hd => by have a0 : R' 40 = (.pointer (some ⟨b0, 0, none⟩)) := hd.g 0 rfl; exact of_nilCheck a0) <|
    Obls.p (fun R' w' hw hs hd => by have a0 : R' 41 = (.pointer (some ⟨b0, 0, none⟩)) := hd.g 0 rfl; exact of_fieldAddr_raw a0 ff_108_1 Try.sizeOf3 (by decide) rfl) <|
    Obls.p (fun R' w' hw hs hd => by have a0 : R' 42 = (.pointer (some ⟨b0, 1, none⟩)) := hd.g 0 rfl; exact OpF.int (of_load_box ((hO.fr hw).ok 0 _ rfl).1 a0 fl_spec_l1Cur_1 rfl Try.isAgg3 Try.sizeOf3)) <|
    Obls.p (fun R' w' hw hs hd => by have a0 : Rep (eSl (eInt .u8)) A w' (R' 39) p0.1 := hd.g 0 rfl; have a1 : R' 43 = .int .i64 p0.2.1 := hd.g 1 rfl; exact of_indexAddr a0 a1 Try.underlying33 Try.sizeOf5 e6) <|
    Obls.p (fun R' w' hw hs hd => by have a0 : QRep (eInt .u8) A w' (R' 44) (gtD p0.1 p0.2.1) := hd.g 0 rfl; exact OpF.int (of_load a0.ptr Try.isAgg5 Try.sizeOf5)) <|
    Obls.p (fun R' w' hw hs hd => by have a0 : R' 45 = .int .u8 (gtD p0.1 p0.2.1) := hd.g 0 rfl; exact of_conv_int a0 Try.underlying5 Try.underlying3) <|
    Obls.p (fun R' w' hw hs hd => by have a0 : R' 35 = .int .i64 (bitI (fun u v => u &&& v) .i64 (bitI (fun u v => u ^^^ v) .i64 ((IntKind.i64.wrap ((IntKind.i64.wrap (p0.2.2 * (6364136223846793005 : Int))) + (1442695040888963407 : Int))) / 2 ^ min (33 : Int).toNat 64) ((IntKind.i64.wrap ((IntKind.i64.wrap (p0.2.2 * (6364136223846793005 : Int))) + (1442695040888963407 : Int))) / 2 ^ min (45 : Int).toNat 64)) (255 : Int)) := hd.g 0 rfl; have a1 : R' 46 = .int .i64 (IntKind.i64.wrap (gtD p0.1 p0.2.1)) := hd.g 1 rfl; exact of_add_w a0 a1) <|
    Obls.p (fun R' w' hw hs hd => by have a0 : R' 47 = .int .i64 (IntKind.i64.wrap ((bitI (fun u v => u &&& v) .i64 (bitI (fun u v => u ^^^ v) .i64 ((IntKind.i64.wrap ((IntKind.i64.wrap (p0.2.2 * (6364136223846793005 : Int))) + (1442695040888963407 : Int))) / 2 ^ min (33 : Int).toNat 64) ((IntKind.i64.wrap ((IntKind.i64.wrap (p0.2.2 * (6364136223846793005 : Int))) + (1442695040888963407 : Int))) / 2 ^ min (45 : Int).toNat 64)) (255 : Int)) + (IntKind.i64.wrap (gtD p0.1 p0.2.1)))) := hd.g 0 rfl; exact of_and a0 rfl) <|
    Obls.p (fun R' w' hw hs hd => by have a0 : R' 48 = .int .i64 (bitI (fun u v => u &&& v) .i64 (IntKind.i64.wrap ((bitI (fun u v => u &&& v) .i64 (bitI (fun u v => u ^^^ v) .i64 ((IntKind.i64.wrap ((IntKind.i64.wrap (p0.2.2 * (6364136223846793005 : Int))) + (1442695040888963407 : Int))) / 2 ^ min (33 : Int).toNat 64) ((IntKind.i64.wrap ((IntKind.i64.wrap (p0.2.2 * (6364136223846793005 : Int))) + (1442695040888963407 : Int))) / 2 ^ min (45 : Int).toNat 64)) (255 : Int)) + (IntKind.i64.wrap (gtD p0.1 p0.2.1)))) (255 : Int)) := hd.g 0 rfl; exact of_assign a0) <|
    Obls.nil
  intro R w hw hs hF'
  replace h0 := (hs 0 rfl).trans h0
  have h3 : R 3 = .int .i64 (bitI (fun u v => u &&& v) .i64 (IntKind.i64.wrap ((bitI (fun u v => u &&& v) .i64 (bitI (fun u v => u ^^^ v) .i64 ((IntKind.i64.wrap ((IntKind.i64.wrap (p0.2.2 * (6364136223846793005 : Int))) + (1442695040888963407 : Int))) / 2 ^ min (33 : Int).toNat 64) ((IntKind.i64.wrap ((IntKind.i64.wrap (p0.2.2 * (6364136223846793005 : Int))) + (1442695040888963407 : Int))) / 2 ^ min (45 : Int).toNat 64)) (255 : Int)) + (IntKind.i64.wrap (gtD p0.1 p0.2.1)))) (255 : Int)) := hF' 14 _ _ rfl rfl rfl
  replace hO := hO.fr hw
  replace hA := hA.fr hw.size
  replace hF := hF.tr (hw.ch noB) fun _ h => False.elim h
  clear hs hF' hw
  refine seqR_nil ?_
  refine HT.textR [ob (.pointer (some ⟨b0, 0, none⟩)) (.box B0 108 E_spec_l1Cur (p0.1, p0.2.1, (IntKind.i64.wrap ((IntKind.i64.wrap (p0.2.2 * (6364136223846793005 : Int))) + (1442695040888963407 : Int)))))] (⟨_, true, [], none, true, fun A => .raw (.pointer (some ⟨b0, 0, none⟩))⟩ :: ⟨_, true, [], none, true, fun A => .raw (.pointer (some ⟨b0, 0, none⟩))⟩ :: ⟨_, true, [], none, true, fun A => .raw (.pointer (some ⟨b0, 0, none⟩))⟩ :: ⟨_, true, [], none, true, fun A => .raw (.pointer (some ⟨b0, 1, none⟩))⟩ :: ⟨_, true, [], none, true, fun A => .raw (.int .i64 p0.2.1)⟩ :: ⟨_, true, [], none, true, fun A => .raw (.int .i64 (IntKind.i64.wrap (p0.2.1 + (1 : Int))))⟩ :: ⟨_, true, [], none, true, fun A => .raw (.pointer (some ⟨b0, 0, none⟩))⟩ :: ⟨_, true, [], none, true, fun A => .raw (.pointer (some ⟨b0, 1, none⟩))⟩ :: ⟨_, true, [0], some (.box B0 108 E_spec_l1Cur (p0.1, (IntKind.i64.wrap (p0.2.1 + (1 : Int))), (IntKind.i64.wrap ((IntKind.i64.wrap (p0.2.2 * (6364136223846793005 : Int))) + (1442695040888963407 : Int))))), false, fun A => .any⟩ :: []) (by kernel_rfl) (by kernel_rfl) (Wf.mk' (by kernel_rfl) (UAll.cons ust_raw (UAll.cons ust_raw (UAll.cons ust_raw (UAll.cons ust_raw (UAll.cons ust_raw (UAll.cons ust_raw (UAll.cons ust_raw (UAll.cons ust_raw (UAll.cons ust_any (UAll.nil)))))))))) (by kernel_rfl) (by kernel_rfl)) hO hA ?_ ?_
  ·exact
    OblsR.p (fun A' R' w' ho hd => of_move ((ho.old 0 rfl).trans h0)) <|
    OblsR.p (fun A' R' w' ho hd => of_move ((ho.old 0 rfl).trans h0)) <|
    OblsR.p (fun A' R' w' ho hd => by have a0 : R' 50 = (.pointer (some ⟨b0, 0, none⟩)) := hd.g 0 rfl; exact of_nilCheck a0) <|
    OblsR.p (fun A' R' w' ho hd => by have a0 : R' 51 = (.pointer (some ⟨b0, 0, none⟩)) := hd.g 0 rfl; exact of_fieldAddr_raw a0 ff_108_1 Try.sizeOf3 (by decide) rfl) <|
    OblsR.p (fun A' R' w' ho hd => by have a0 : R' 52 = (.pointer (some ⟨b0, 1, none⟩)) := hd.g 0 rfl; exact OpF.int (of_load_box (ho.rd 0 _ rfl rfl) a0 fl_spec_l1Cur_1 rfl Try.isAgg3 Try.sizeOf3)) <|
    OblsR.p (fun A' R' w' ho hd => by have a0 : R' 53 = .int .i64 p0.2.1 := hd.g 0 rfl; exact of_add_w a0 rfl) <|
    OblsR.p (fun A' R' w' ho hd => by have a0 : R' 49 = (.pointer (some ⟨b0, 0, none⟩)) := hd.g 0 rfl; exact of_nilCheck a0) <|
    OblsR.p (fun A' R' w' ho hd => by have a0 : R' 55 = (.pointer (some ⟨b0, 0, none⟩)) := hd.g 0 rfl; exact of_fieldAddr_raw a0 ff_108_1 Try.sizeOf3 (by decide) rfl) <|
    OblsR.cons (OblR.took 0 _ _ rfl rfl rfl rfl rfl fun A' R' w' ho hd u hok hav hin hop hds => by have a0 : R' 56 = (.pointer (some ⟨b0, 1, none⟩)) := hd.g 0 rfl; have a1 : R' 54 = .int .i64 (IntKind.i64.wrap (p0.2.1 + (1 : Int))) := hd.g 1 rfl; exact took_store (rep_int.eq a1) a0 (hin _ rfl) hok hav fs_spec_l1Cur_1 Try.sizeOf3 rfl) <|
    OblsR.nil
  intro done ρ σ A R w hdn hI
  replace h3 : R 3 = .int .i64 (bitI (fun u v => u &&& v) .i64 (IntKind.i64.wrap ((bitI (fun u v => u &&& v) .i64 (bitI (fun u v => u ^^^ v) .i64 ((IntKind.i64.wrap ((IntKind.i64.wrap (p0.2.2 * (6364136223846793005 : Int))) + (1442695040888963407 : Int))) / 2 ^ min (33 : Int).toNat 64) ((IntKind.i64.wrap ((IntKind.i64.wrap (p0.2.2 * (6364136223846793005 : Int))) + (1442695040888963407 : Int))) / 2 ^ min (45 : Int).toNat 64)) (255 : Int)) + (IntKind.i64.wrap (gtD p0.1 p0.2.1)))) (255 : Int)) := (hI.reg rfl).trans h3
  have z7 := hI.inivR 0 rfl
  have z8 := (hI.opnR hdn 9 8 rfl rfl rfl rfl rfl).trans z7
  replace hAA := hI.lowK hAA hA0 hN (hO.geK (⟨.inr (fun k h => .inr h), trivial⟩))
  replace hF : Ch (ownsB (.pointer (some ⟨b0, 0, none⟩))) w0 w := hF.tr hI.ch (hO.geK (⟨.inr (fun k h => .inr h), trivial⟩))
  replace hO : IniOK [ob (.pointer (some ⟨b0, 0, none⟩)) (.box B0 108 E_spec_l1Cur (p0.1, (IntKind.i64.wrap (p0.2.1 + (1 : Int))), (IntKind.i64.wrap ((IntKind.i64.wrap (p0.2.2 * (6364136223846793005 : Int))) + (1442695040888963407 : Int)))))] A w := hI.left hdn [(9, ob (.pointer (some ⟨b0, 0, none⟩)) (.box B0 108 E_spec_l1Cur (p0.1, (IntKind.i64.wrap (p0.2.1 + (1 : Int))), (IntKind.i64.wrap ((IntKind.i64.wrap (p0.2.2 * (6364136223846793005 : Int))) + (1442695040888963407 : Int))))))] ⟨rfl, rfl, z8, rfl, rfl, trivial⟩
  replace hA := hI.avok
  clear hI
  refine HT.seq ?_
  refine HT.text (l := ⟨_, true, .raw (.int .i64 (bitI (fun u v => u &&& v) .i64 (IntKind.i64.wrap ((bitI (fun u v => u &&& v) .i64 (bitI (fun u v => u ^^^ v) .i64 ((IntKind.i64.wrap ((IntKind.i64.wrap (p0.2.2 * (6364136223846793005 : Int))) + (1442695040888963407 : Int))) / 2 ^ min (33 : Int).toNat 64) ((IntKind.i64.wrap ((IntKind.i64.wrap (p0.2.2 * (6364136223846793005 : Int))) + (1442695040888963407 : Int))) / 2 ^ min (45 : Int).toNat 64)) (255 : Int)) + (IntKind.i64.wrap (gtD p0.1 p0.2.1)))) (255 : Int)))⟩ :: ⟨_, true, .raw (.int .i64 (bitI (fun u v => u &&& v) .i64 (IntKind.i64.wrap ((bitI (fun u v => u &&& v) .i64 (bitI (fun u v => u ^^^ v) .i64 ((IntKind.i64.wrap ((IntKind.i64.wrap (p0.2.2 * (6364136223846793005 : Int))) + (1442695040888963407 : Int))) / 2 ^ min (33 : Int).toNat 64) ((IntKind.i64.wrap ((IntKind.i64.wrap (p0.2.2 * (6364136223846793005 : Int))) + (1442695040888963407 : Int))) / 2 ^ min (45 : Int).toNat 64)) (255 : Int)) + (IntKind.i64.wrap (gtD p0.1 p0.2.1)))) (255 : Int)))⟩ :: []) (tl := []) (by kernel_rfl) (by kernel_rfl) (by kernel_rfl) ?_ ?_
  ·exact
    Obls.p (fun R' w' hw hs hd => of_move ((hs 3 rfl).trans h3)) <|
    Obls.p (fun R' w' hw hs hd => by have a0 : R' 57 = .int .i64 (bitI (fun u v => u &&& v) .i64 (IntKind.i64.wrap ((bitI (fun u v => u &&& v) .i64 (bitI (fun u v => u ^^^ v) .i64 ((IntKind.i64.wrap ((IntKind.i64.wrap (p0.2.2 * (6364136223846793005 : Int))) + (1442695040888963407 : Int))) / 2 ^ min (33 : Int).toNat 64) ((IntKind.i64.wrap ((IntKind.i64.wrap (p0.2.2 * (6364136223846793005 : Int))) + (1442695040888963407 : Int))) / 2 ^ min (45 : Int).toNat 64)) (255 : Int)) + (IntKind.i64.wrap (gtD p0.1 p0.2.1)))) (255 : Int)) := hd.g 0 rfl; exact of_assign a0) <|
    Obls.nil
  intro R w hw hs hF'
  have h2 : R 2 = .int .i64 (bitI (fun u v => u &&& v) .i64 (IntKind.i64.wrap ((bitI (fun u v => u &&& v) .i64 (bitI (fun u v => u ^^^ v) .i64 ((IntKind.i64.wrap ((IntKind.i64.wrap (p0.2.2 * (6364136223846793005 : Int))) + (1442695040888963407 : Int))) / 2 ^ min (33 : Int).toNat 64) ((IntKind.i64.wrap ((IntKind.i64.wrap (p0.2.2 * (6364136223846793005 : Int))) + (1442695040888963407 : Int))) / 2 ^ min (45 : Int).toNat 64)) (255 : Int)) + (IntKind.i64.wrap (gtD p0.1 p0.2.1)))) (255 : Int)) := hF' 1 _ _ rfl rfl rfl
  replace hO := hO.fr hw
  replace hA := hA.fr hw.size
  replace hF := hF.tr (hw.ch noB) fun _ h => False.elim h
  clear hs hF' hw
  refine seqR_nil ?_
  refine HT.ret ?_
  obtain rfl := Option.some.inj hr
  obtain ⟨A1, hA1, hG1⟩ := GPost.of hO hA hAA (hO.geK (⟨.inr (fun k h => .inr h), trivial⟩)) hF
  exact ⟨.inr rfl, [R 2], ⟨rfl, trivial⟩, A1, hG1, h2⟩
 ·have hr := cnd_f c5 hr
  refine HT.skip ?_
  refine HT.seq ?_
  refine HT.text (l := ⟨_, true, .raw (.int .i64 (bitI (fun u v => u &&& v) .i64 (bitI (fun u v => u ^^^ v) .i64 ((IntKind.i64.wrap ((IntKind.i64.wrap (p0.2.2 * (6364136223846793005 : Int))) + (1442695040888963407 : Int))) / 2 ^ min (33 : Int).toNat 64) ((IntKind.i64.wrap ((IntKind.i64.wrap (p0.2.2 * (6364136223846793005 : Int))) + (1442695040888963407 : Int))) / 2 ^ min (45 : Int).toNat 64)) (255 : Int)))⟩ :: ⟨_, true, .raw (.int .i64 (bitI (fun u v => u &&& v) .i64 (bitI (fun u v => u ^^^ v) .i64 ((IntKind.i64.wrap ((IntKind.i64.wrap (p0.2.2 * (6364136223846793005 : Int))) + (1442695040888963407 : Int))) / 2 ^ min (33 : Int).toNat 64) ((IntKind.i64.wrap ((IntKind.i64.wrap (p0.2.2 * (6364136223846793005 : Int))) + (1442695040888963407 : Int))) / 2 ^ min (45 : Int).toNat 64)) (255 : Int)))⟩ :: []) (tl := []) (by kernel_rfl) (by kernel_rfl) (by kernel_rfl) ?_ ?_
  ·exact
    Obls.p (fun R' w' hw hs hd => of_move ((hs 3 rfl).trans h3)) <|
    Obls.p (fun R' w' hw hs hd => by have a0 : R' 57 = .int .i64 (bitI (fun u v => u &&& v) .i64 (bitI (fun u v => u ^^^ v) .i64 ((IntKind.i64.wrap ((IntKind.i64.wrap (p0.2.2 * (6364136223846793005 : Int))) + (1442695040888963407 : Int))) / 2 ^ min (33 : Int).toNat 64) ((IntKind.i64.wrap ((IntKind.i64.wrap (p0.2.2 * (6364136223846793005 : Int))) + (1442695040888963407 : Int))) / 2 ^ min (45 : Int).toNat 64)) (255 : Int)) := hd.g 0 rfl; exact of_assign a0) <|
    Obls.nil
  intro R w hw hs hF'
  have h2 : R 2 = .int .i64 (bitI (fun u v => u &&& v) .i64 (bitI (fun u v => u ^^^ v) .i64 ((IntKind.i64.wrap ((IntKind.i64.wrap (p0.2.2 * (6364136223846793005 : Int))) + (1442695040888963407 : Int))) / 2 ^ min (33 : Int).toNat 64) ((IntKind.i64.wrap ((IntKind.i64.wrap (p0.2.2 * (6364136223846793005 : Int))) + (1442695040888963407 : Int))) / 2 ^ min (45 : Int).toNat 64)) (255 : Int)) := hF' 1 _ _ rfl rfl rfl
  replace hO := hO.fr hw
  replace hA := hA.fr hw.size
  replace hF := hF.tr (hw.ch noB) fun _ h => False.elim h
  clear hs hF' hw
  refine seqR_nil ?_
  refine HT.ret ?_
  obtain rfl := Option.some.inj hr
  obtain ⟨A1, hA1, hG1⟩ := GPost.of hO hA hAA (hO.geK (⟨.inr (fun k h => .inr h), trivial⟩)) hF
  exact ⟨.inr rfl, [R 2], ⟨rfl, trivial⟩, A1, hG1, h2⟩
def M_spec_l1Below (fu : Nat) (p0 : T_spec_l1Cur) (p1 : Int) : Option (Int × T_spec_l1Cur) :=
 bif (decide (p1 ≤ (0 : Int))) then (
  some ((0 : Int), p0)
 ) else (
  bif (decide (p1 ≤ (256 : Int))) then (
   cl true (M_spec_l1Byte fu p0) fun x4 =>
   ck (p1 != 0) <|
   some ((x4.1.tmod p1), x4.2)
  ) else (
   cl true (M_spec_l1Byte fu p0) fun x9 =>
   cl true (M_spec_l1Byte fu x9.2) fun x13 =>
   cl true (M_spec_l1Byte fu x13.2) fun x17 =>
   cl true (M_spec_l1Byte fu x17.2) fun x21 =>
   ck (i64B (x9.1 * (16777216 : Int))) <|
   ck (i64B (x13.1 * (65536 : Int))) <|
   ck (i64B ((x9.1 * (16777216 : Int)) + (x13.1 * (65536 : Int)))) <|
   ck (i64B (x17.1 * (256 : Int))) <|
   ck (i64B (((x9.1 * (16777216 : Int)) + (x13.1 * (65536 : Int))) + (x17.1 * (256 : Int)))) <|
   ck (i64B ((((x9.1 * (16777216 : Int)) + (x13.1 * (65536 : Int))) + (x17.1 * (256 : Int))) + x21.1)) <|
   ck (p1 != 0) <|
   some ((((((x9.1 * (16777216 : Int)) + (x13.1 * (65536 : Int))) + (x17.1 * (256 : Int))) + x21.1).tmod p1), x21.2)
  )
 )
theorem M_spec_l1Below_ok {fu : Nat} {Aq : Av} {p0 : T_spec_l1Cur} {p1 : Int} {r : Int × T_spec_l1Cur} (hr : M_spec_l1Below fu p0 p1 = some r) {w : World} {v0 : Value} {v1 : Value} {b0 B0 : Nat} (hA : AvOK Aq w) (h0 : v0 = .pointer (some ⟨b0, 0, none⟩)) (hO0 : IniOK [ob (.pointer (some ⟨b0, 0, none⟩)) (.box B0 108 E_spec_l1Cur p0)] Aq w) (h1 : v1 = .int .i64 p1) :
  Calls Try.prog 64 #[v0, v1] w fun e w' => ∃ v, e = .returned v ∧ (∃ (A1 : Av), GPost (subS Aq (ownsB (.pointer (some ⟨b0, 0, none⟩)))) (ownsB (.pointer (some ⟨b0, 0, none⟩))) w [ob (.pointer (some ⟨b0, 0, none⟩)) (.box B0 108 E_spec_l1Cur r.2)] A1 w' ∧ (Fact.raw (.int .i64 r.1)).ok v w') := by
 unfold M_spec_l1Below at hr
 obtain ⟨w0, hw0⟩ : ∃ w0, w0 = w := ⟨_, rfl⟩
 have hF : Ch (ownsB (.pointer (some ⟨b0, 0, none⟩))) w0 w := hw0 ▸ Ch.refl _ _
 obtain ⟨A0, hA0e⟩ : ∃ A0, A0 = subS Aq (ownsB (.pointer (some ⟨b0, 0, none⟩))) := ⟨_, rfl⟩
 have hA0 : ∀ b o, A0 b o → b < w0.heap.size := fun b o h => hw0 ▸ hA b o (hA0e ▸ h : subS Aq _ b o).1
 have hN : ∀ b o, A0 b o → ¬ (ownsB (.pointer (some ⟨b0, 0, none⟩))) b := fun b o h => (hA0e ▸ h : subS Aq _ b o).2
 have hA00 : AvOK A0 w0 := hA0
 rw [show GPost (subS Aq (ownsB (.pointer (some ⟨b0, 0, none⟩)))) (ownsB (.pointer (some ⟨b0, 0, none⟩))) w = GPost A0 (ownsB (.pointer (some ⟨b0, 0, none⟩))) w0 from by rw [hA0e, hw0]]
 clear hw0
 obtain ⟨A, hAe⟩ : ∃ A, A = Aq := ⟨_, rfl⟩
 have hAA : ∀ b o, A0 b o → A b o := fun b o h => hAe ▸ (hA0e ▸ h : subS Aq _ b o).1
 replace hA : AvOK A w := hAe ▸ hA
 have hO : IniOK [ob (.pointer (some ⟨b0, 0, none⟩)) (.box B0 108 E_spec_l1Cur p0)] A w := hAe ▸ hO0
 clear hA0e hO0
 refine calls_of_HT2 [.tmp 4] Try.func64 Try.ntmps64 (by decide) rfl rfl (Nat.le_of_ble_eq_true rfl) ?_
 intro R hR
 replace h0 : R 0 = .pointer (some ⟨b0, 0, none⟩) := (hR 0 _ rfl).trans h0
 replace h1 : R 1 = .int .i64 p1 := (hR 1 _ rfl).trans h1
 clear hR hAe
 refine HT.seq ?_
 refine HT.text (l := ⟨_, true, .raw (.int .i64 (0 : Int))⟩ :: []) (tl := []) (by kernel_rfl) (by kernel_rfl) (by kernel_rfl) ?_ ?_
 ·exact
   Obls.p (fun R' w' hw hs hd => of_assign rfl) <|
   Obls.nil
 intro R w hw hs hF'
 replace h0 := (hs 0 rfl).trans h0
 replace h1 := (hs 1 rfl).trans h1
 replace hO := hO.fr hw
 replace hA := hA.fr hw.size
 replace hF := hF.tr (hw.ch noB) fun _ h => False.elim h
 clear hs hF' hw
 refine seqR_nil ?_
 refine HT.seq ?_
 refine HT.seq ?_
 refine HT.text (l := ⟨_, true, .raw (.int .i64 p1)⟩ :: ⟨_, true, .raw (.bool (decide (p1 ≤ (0 : Int))))⟩ :: []) (tl := []) (by kernel_rfl) (by kernel_rfl) (by kernel_rfl) ?_ ?_
 ·exact
   Obls.p (fun R' w' hw hs hd => of_move ((hs 1 rfl).trans h1)) <|
   Obls.p (fun R' w' hw hs hd => by have a0 : R' 9 = .int .i64 p1 := hd.g 0 rfl; exact of_leq a0 rfl) <|
   Obls.nil
 intro R w hw hs hF'
 replace h0 := (hs 0 rfl).trans h0
 replace h1 := (hs 1 rfl).trans h1
 have h10 : R 10 = .bool (decide (p1 ≤ (0 : Int))) := hF' 1 _ _ rfl rfl rfl
 replace hO := hO.fr hw
 replace hA := hA.fr hw.size
 replace hF := hF.tr (hw.ch noB) fun _ h => False.elim h
 clear hs hF' hw
 refine seqR_nil ?_
 refine HT.cond (decide (p1 ≤ (0 : Int))) h10 (fun c1 => ?_) (fun c1 => ?_)
 ·have hr := cnd_t c1 hr
  refine HT.seq ?_
  refine HT.text (l := ⟨_, true, .raw (.int .i64 (0 : Int))⟩ :: []) (tl := []) (by kernel_rfl) (by kernel_rfl) (by kernel_rfl) ?_ ?_
  ·exact
    Obls.p (fun R' w' hw hs hd => of_assign rfl) <|
    Obls.nil
  intro R w hw hs hF'
  have h4 : R 4 = .int .i64 (0 : Int) := hF' 0 _ _ rfl rfl rfl
  replace hO := hO.fr hw
  replace hA := hA.fr hw.size
  replace hF := hF.tr (hw.ch noB) fun _ h => False.elim h
  clear hs hF' hw
  refine seqR_nil ?_
  refine HT.ret ?_
  obtain rfl := Option.some.inj hr
  obtain ⟨A1, hA1, hG1⟩ := GPost.of hO hA hAA (hO.geK (⟨.inr (fun k h => .inr h), trivial⟩)) hF
  exact ⟨.inr rfl, [R 4], ⟨rfl, trivial⟩, A1, hG1, h4⟩
 ·have hr := cnd_f c1 hr
  refine HT.skip ?_
  refine HT.seq ?_
  refine HT.seq ?_
  refine HT.text (l := ⟨_, true, .raw (.int .i64 p1)⟩ :: ⟨_, true, .raw (.bool (decide (p1 ≤ (256 : Int))))⟩ :: []) (tl := []) (by kernel_rfl) (by kernel_rfl) (by kernel_rfl) ?_ ?_
  ·exact
    Obls.p (fun R' w' hw hs hd => of_move ((hs 1 rfl).trans h1)) <|
    Obls.p (fun R' w' hw hs hd => by have a0 : R' 11 = .int .i64 p1 := hd.g 0 rfl; exact of_leq a0 rfl) <|
    Obls.nil
  intro R w hw hs hF'
  replace h0 := (hs 0 rfl).trans h0
  replace h1 := (hs 1 rfl).trans h1
  have h12 : R 12 = .bool (decide (p1 ≤ (256 : Int))) := hF' 1 _ _ rfl rfl rfl
  replace hO := hO.fr hw
  replace hA := hA.fr hw.size
  replace hF := hF.tr (hw.ch noB) fun _ h => False.elim h
  clear hs hF' hw
  refine seqR_nil ?_
  refine HT.cond (decide (p1 ≤ (256 : Int))) h12 (fun c2 => ?_) (fun c2 => ?_)
  ·have hr := cnd_t c2 hr
   refine HT.seq ?_
   refine SG.of ?_
   refine SG.textR [ob (.pointer (some ⟨b0, 0, none⟩)) (.box B0 108 E_spec_l1Cur p0)] (⟨_, true, [], none, true, fun A => .raw (.pointer (some ⟨b0, 0, none⟩))⟩ :: []) 1 rfl rfl rfl (by kernel_rfl) (by kernel_rfl) (Wf.mk' (by kernel_rfl) (UAll.cons ust_raw (UAll.nil)) (by kernel_rfl) (by kernel_rfl)) hO hA (trivial) ?_ ?_
   ·exact
     OblsR.p (fun A' R' w' ho hd => of_move ((ho.old 0 rfl).trans h0)) <|
     OblsR.nil
   intro done ρ σ A R w hdn hI
   replace h1 : R 1 = .int .i64 p1 := (hI.reg rfl).trans h1
   have z3 := hI.inivR 0 rfl
   have h13 : R 13 = (.pointer (some ⟨b0, 0, none⟩)) := hI.fact hdn (i := 0) rfl rfl rfl
   replace hAA := hI.lowK hAA hA0 hN (hO.geK (⟨.inr (fun k h => .inr h), trivial⟩))
   replace hF : Ch (ownsB (.pointer (some ⟨b0, 0, none⟩))) w0 w := hF.tr hI.ch (hO.geK (⟨.inr (fun k h => .inr h), trivial⟩))
   replace hO : IniOK [ob (.pointer (some ⟨b0, 0, none⟩)) (.box B0 108 E_spec_l1Cur p0)] A w := hI.left hdn [(0, ob (.pointer (some ⟨b0, 0, none⟩)) (.box B0 108 E_spec_l1Cur p0))] ⟨rfl, rfl, z3, rfl, rfl, trivial⟩
   replace hA := hI.avok
   clear hI
   obtain ⟨x4, q5, hr⟩ := cl_some hr
   have hFz : w0.heap.size ≤ w.heap.size := hF.size
   refine SG.op 14 rfl rfl rfl rfl (call_run Try.call101 (M_spec_l1Byte_ok (q5 rfl) hA h13 (hO.sub [(0, ob (.pointer (some ⟨b0, 0, none⟩)) (.box B0 108 E_spec_l1Cur p0))] ⟨rfl, rfl, trivial⟩))) ?_
   rintro v_ w ⟨A, hG1, hv⟩ R hs hd
   have hst := stp_call hA hG1 (hO.ok 0 _ rfl).2
   replace hAA : ∀ b o, A0 b o → A b o := low_callK hAA hA0 hN (hO.geK (⟨.inr (fun k h => .inr h), trivial⟩)) 0 rfl hG1
   replace hF : Ch (ownsB (.pointer (some ⟨b0, 0, none⟩))) w0 w := hF.tr hG1.ch (fun k hk => (hO.geK (⟨.inr (fun k h => .inr h), trivial⟩)) k ⟨0, _, rfl, hk⟩)
   replace hO := GPost.next hO hA 0 rfl hG1
   replace hA := hG1.avok
   replace hO : IniOK [ob (.pointer (some ⟨b0, 0, none⟩)) (.box B0 108 E_spec_l1Cur x4.2)] A w := hO
   replace h1 := (hs 1 rfl).trans h1
   replace h13 := (hs 13 rfl).trans h13
   have h14 : R 14 = .int .i64 x4.1 := hd.trans hv
   clear hFz hG1 hv hs hd
   obtain ⟨e6, hr⟩ := ck_some hr
   refine SG.textR [ob (.pointer (some ⟨b0, 0, none⟩)) (.box B0 108 E_spec_l1Cur x4.2)] (⟨_, true, [], none, true, fun A => .raw (.pointer (some ⟨b0, 0, none⟩))⟩ :: ⟨_, true, [], none, true, fun A => .raw (.int .i64 x4.1)⟩ :: ⟨_, true, [], none, true, fun A => .raw (.int .i64 p1)⟩ :: ⟨_, true, [], none, true, fun A => .raw (.int .i64 (x4.1.tmod p1))⟩ :: ⟨_, true, [], none, true, fun A => .raw (.int .i64 (x4.1.tmod p1))⟩ :: []) 5 rfl rfl rfl (by kernel_rfl) (by kernel_rfl) (Wf.mk' (by kernel_rfl) (UAll.cons ust_raw (UAll.cons ust_raw (UAll.cons ust_raw (UAll.cons ust_raw (UAll.cons ust_raw (UAll.nil)))))) (by kernel_rfl) (by kernel_rfl)) hO hA (⟨⟨rfl, rfl, rfl, h13⟩, ⟨⟨rfl, rfl, rfl, h14⟩, trivial⟩⟩) ?_ ?_
   ·exact
     OblsR.p (fun A' R' w' ho hd => of_move ((ho.old 1 rfl).trans h1)) <|
     OblsR.p (fun A' R' w' ho hd => by have a0 : R' 14 = .int .i64 x4.1 := hd.g 0 rfl; have a1 : R' 15 = .int .i64 p1 := hd.g 1 rfl; exact of_rem a0 a1 e6) <|
     OblsR.p (fun A' R' w' ho hd => by have a0 : R' 16 = .int .i64 (x4.1.tmod p1) := hd.g 0 rfl; exact of_assign a0) <|
     OblsR.nil
   intro done ρ σ A R w hdn hI
   have z7 := hI.inivR 0 rfl
   have h4 : R 4 = .int .i64 (x4.1.tmod p1) := hI.fact hdn (i := 4) rfl rfl rfl
   replace hAA := hI.lowK hAA hA0 hN (hO.geK (⟨.inr (fun k h => .inr h), trivial⟩))
   replace hF : Ch (ownsB (.pointer (some ⟨b0, 0, none⟩))) w0 w := hF.tr hI.ch (hO.geK (⟨.inr (fun k h => .inr h), trivial⟩))
   replace hO : IniOK [ob (.pointer (some ⟨b0, 0, none⟩)) (.box B0 108 E_spec_l1Cur x4.2)] A w := hI.left hdn [(0, ob (.pointer (some ⟨b0, 0, none⟩)) (.box B0 108 E_spec_l1Cur x4.2))] ⟨rfl, rfl, z7, rfl, rfl, trivial⟩
   replace hA := hI.avok
   clear hI
   refine SG.fin rfl ?_
   refine HT.ret ?_
   obtain rfl := Option.some.inj hr
   obtain ⟨A1, hA1, hG1⟩ := GPost.of hO hA hAA (hO.geK (⟨.inr (fun k h => .inr h), trivial⟩)) hF
   exact ⟨.inr rfl, [R 4], ⟨rfl, trivial⟩, A1, hG1, h4⟩
  ·have hr := cnd_f c2 hr
   refine HT.skip ?_
   refine HT.seq ?_
   refine SG.of ?_
   refine SG.textR [ob (.pointer (some ⟨b0, 0, none⟩)) (.box B0 108 E_spec_l1Cur p0)] (⟨_, true, [], none, true, fun A => .raw (.pointer (some ⟨b0, 0, none⟩))⟩ :: []) 1 rfl rfl rfl (by kernel_rfl) (by kernel_rfl) (Wf.mk' (by kernel_rfl) (UAll.cons ust_raw (UAll.nil)) (by kernel_rfl) (by kernel_rfl)) hO hA (trivial) ?_ ?_
   ·exact
     OblsR.p (fun A' R' w' ho hd => of_move ((ho.old 0 rfl).trans h0)) <|
     OblsR.nil
   intro done ρ σ A R w hdn hI
   replace h0 : R 0 = (.pointer (some ⟨b0, 0, none⟩)) := (hI.reg rfl).trans h0
   replace h1 : R 1 = .int .i64 p1 := (hI.reg rfl).trans h1
   have z8 := hI.inivR 0 rfl
   have h17 : R 17 = (.pointer (some ⟨b0, 0, none⟩)) := hI.fact hdn (i := 0) rfl rfl rfl
   replace hAA := hI.lowK hAA hA0 hN (hO.geK (⟨.inr (fun k h => .inr h), trivial⟩))
   replace hF : Ch (ownsB (.pointer (some ⟨b0, 0, none⟩))) w0 w := hF.tr hI.ch (hO.geK (⟨.inr (fun k h => .inr h), trivial⟩))
   replace hO : IniOK [ob (.pointer (some ⟨b0, 0, none⟩)) (.box B0 108 E_spec_l1Cur p0)] A w := hI.left hdn [(0, ob (.pointer (some ⟨b0, 0, none⟩)) (.box B0 108 E_spec_l1Cur p0))] ⟨rfl, rfl, z8, rfl, rfl, trivial⟩
   replace hA := hI.avok
   clear hI
   obtain ⟨x9, q10, hr⟩ := cl_some hr
   have hFz : w0.heap.size ≤ w.heap.size := hF.size
   refine SG.op 18 rfl rfl rfl rfl (call_run Try.call101 (M_spec_l1Byte_ok (q10 rfl) hA h17 (hO.sub [(0, ob (.pointer (some ⟨b0, 0, none⟩)) (.box B0 108 E_spec_l1Cur p0))] ⟨rfl, rfl, trivial⟩))) ?_
   rintro v_ w ⟨A, hG1, hv⟩ R hs hd
   have hst := stp_call hA hG1 (hO.ok 0 _ rfl).2
   replace hAA : ∀ b o, A0 b o → A b o := low_callK hAA hA0 hN (hO.geK (⟨.inr (fun k h => .inr h), trivial⟩)) 0 rfl hG1
   replace hF : Ch (ownsB (.pointer (some ⟨b0, 0, none⟩))) w0 w := hF.tr hG1.ch (fun k hk => (hO.geK (⟨.inr (fun k h => .inr h), trivial⟩)) k ⟨0, _, rfl, hk⟩)
   replace hO := GPost.next hO hA 0 rfl hG1
   replace hA := hG1.avok
   replace hO : IniOK [ob (.pointer (some ⟨b0, 0, none⟩)) (.box B0 108 E_spec_l1Cur x9.2)] A w := hO
   replace h0 := (hs 0 rfl).trans h0
   replace h1 := (hs 1 rfl).trans h1
   replace h17 := (hs 17 rfl).trans h17
   have h18 : R 18 = .int .i64 x9.1 := hd.trans hv
   clear hFz hG1 hv hs hd
   refine SG.textR [ob (.pointer (some ⟨b0, 0, none⟩)) (.box B0 108 E_spec_l1Cur x9.2)] (⟨_, true, [], none, true, fun A => .raw (.pointer (some ⟨b0, 0, none⟩))⟩ :: ⟨_, true, [], none, true, fun A => .raw (.int .i64 x9.1)⟩ :: ⟨_, true, [], none, true, fun A => .raw (.int .i64 x9.1)⟩ :: []) 3 rfl rfl rfl (by kernel_rfl) (by kernel_rfl) (Wf.mk' (by kernel_rfl) (UAll.cons ust_raw (UAll.cons ust_raw (UAll.cons ust_raw (UAll.nil)))) (by kernel_rfl) (by kernel_rfl)) hO hA (⟨⟨rfl, rfl, rfl, h17⟩, ⟨⟨rfl, rfl, rfl, h18⟩, trivial⟩⟩) ?_ ?_
   ·exact
     OblsR.p (fun A' R' w' ho hd => by have a0 : R' 18 = .int .i64 x9.1 := hd.g 0 rfl; exact of_assign a0) <|
     OblsR.nil
   intro done ρ σ A R w hdn hI
   replace h0 : R 0 = (.pointer (some ⟨b0, 0, none⟩)) := (hI.reg rfl).trans h0
   replace h1 : R 1 = .int .i64 p1 := (hI.reg rfl).trans h1
   have z11 := hI.inivR 0 rfl
   have h5 : R 5 = .int .i64 x9.1 := hI.fact hdn (i := 2) rfl rfl rfl
   replace hAA := hI.lowK hAA hA0 hN (hO.geK (⟨.inr (fun k h => .inr h), trivial⟩))
   replace hF : Ch (ownsB (.pointer (some ⟨b0, 0, none⟩))) w0 w := hF.tr hI.ch (hO.geK (⟨.inr (fun k h => .inr h), trivial⟩))
   replace hO : IniOK [ob (.pointer (some ⟨b0, 0, none⟩)) (.box B0 108 E_spec_l1Cur x9.2)] A w := hI.left hdn [(0, ob (.pointer (some ⟨b0, 0, none⟩)) (.box B0 108 E_spec_l1Cur x9.2))] ⟨rfl, rfl, z11, rfl, rfl, trivial⟩
   replace hA := hI.avok
   clear hI
   refine SG.fin rfl ?_
   refine HT.seq ?_
   refine SG.of ?_
   refine SG.textR [ob (.pointer (some ⟨b0, 0, none⟩)) (.box B0 108 E_spec_l1Cur x9.2)] (⟨_, true, [], none, true, fun A => .raw (.pointer (some ⟨b0, 0, none⟩))⟩ :: []) 1 rfl rfl rfl (by kernel_rfl) (by kernel_rfl) (Wf.mk' (by kernel_rfl) (UAll.cons ust_raw (UAll.nil)) (by kernel_rfl) (by kernel_rfl)) hO hA (trivial) ?_ ?_
   ·exact
     OblsR.p (fun A' R' w' ho hd => of_move ((ho.old 0 rfl).trans h0)) <|
     OblsR.nil
   intro done ρ σ A R w hdn hI
   replace h0 : R 0 = (.pointer (some ⟨b0, 0, none⟩)) := (hI.reg rfl).trans h0
   replace h1 : R 1 = .int .i64 p1 := (hI.reg rfl).trans h1
   replace h5 : R 5 = .int .i64 x9.1 := (hI.reg rfl).trans h5
   have z12 := hI.inivR 0 rfl
   have h19 : R 19 = (.pointer (some ⟨b0, 0, none⟩)) := hI.fact hdn (i := 0) rfl rfl rfl
   replace hAA := hI.lowK hAA hA0 hN (hO.geK (⟨.inr (fun k h => .inr h), trivial⟩))
   replace hF : Ch (ownsB (.pointer (some ⟨b0, 0, none⟩))) w0 w := hF.tr hI.ch (hO.geK (⟨.inr (fun k h => .inr h), trivial⟩))
   replace hO : IniOK [ob (.pointer (some ⟨b0, 0, none⟩)) (.box B0 108 E_spec_l1Cur x9.2)] A w := hI.left hdn [(0, ob (.pointer (some ⟨b0, 0, none⟩)) (.box B0 108 E_spec_l1Cur x9.2))] ⟨rfl, rfl, z12, rfl, rfl, trivial⟩
   replace hA := hI.avok
   clear hI
   obtain ⟨x13, q14, hr⟩ := cl_some hr
   have hFz : w0.heap.size ≤ w.heap.size := hF.size
   refine SG.op 20 rfl rfl rfl rfl (call_run Try.call101 (M_spec_l1Byte_ok (q14 rfl) hA h19 (hO.sub [(0, ob (.pointer (some ⟨b0, 0, none⟩)) (.box B0 108 E_spec_l1Cur x9.2))] ⟨rfl, rfl, trivial⟩))) ?_
   rintro v_ w ⟨A, hG1, hv⟩ R hs hd
   have hst := stp_call hA hG1 (hO.ok 0 _ rfl).2
   replace hAA : ∀ b o, A0 b o → A b o := low_callK hAA hA0 hN (hO.geK (⟨.inr (fun k h => .inr h), trivial⟩)) 0 rfl hG1
   replace hF : Ch (ownsB (.pointer (some ⟨b0, 0, none⟩))) w0 w := hF.tr hG1.ch (fun k hk => (hO.geK (⟨.inr (fun k h => .inr h), trivial⟩)) k ⟨0, _, rfl, hk⟩)
   replace hO := GPost.next hO hA 0 rfl hG1
   replace hA := hG1.avok
   replace hO : IniOK [ob (.pointer (some ⟨b0, 0, none⟩)) (.box B0 108 E_spec_l1Cur x13.2)] A w := hO
   replace h0 := (hs 0 rfl).trans h0
   replace h1 := (hs 1 rfl).trans h1
   replace h5 := (hs 5 rfl).trans h5
   replace h19 := (hs 19 rfl).trans h19
   have h20 : R 20 = .int .i64 x13.1 := hd.trans hv
   clear hFz hG1 hv hs hd
   refine SG.textR [ob (.pointer (some ⟨b0, 0, none⟩)) (.box B0 108 E_spec_l1Cur x13.2)] (⟨_, true, [], none, true, fun A => .raw (.pointer (some ⟨b0, 0, none⟩))⟩ :: ⟨_, true, [], none, true, fun A => .raw (.int .i64 x13.1)⟩ :: ⟨_, true, [], none, true, fun A => .raw (.int .i64 x13.1)⟩ :: []) 3 rfl rfl rfl (by kernel_rfl) (by kernel_rfl) (Wf.mk' (by kernel_rfl) (UAll.cons ust_raw (UAll.cons ust_raw (UAll.cons ust_raw (UAll.nil)))) (by kernel_rfl) (by kernel_rfl)) hO hA (⟨⟨rfl, rfl, rfl, h19⟩, ⟨⟨rfl, rfl, rfl, h20⟩, trivial⟩⟩) ?_ ?_
   ·exact
     OblsR.p (fun A' R' w' ho hd => by have a0 : R' 20 = .int .i64 x13.1 := hd.g 0 rfl; exact of_assign a0) <|
     OblsR.nil
   intro done ρ σ A R w hdn hI
   replace h0 : R 0 = (.pointer (some ⟨b0, 0, none⟩)) := (hI.reg rfl).trans h0
   replace h1 : R 1 = .int .i64 p1 := (hI.reg rfl).trans h1
   replace h5 : R 5 = .int .i64 x9.1 := (hI.reg rfl).trans h5
   have z15 := hI.inivR 0 rfl
   have h6 : R 6 = .int .i64 x13.1 := hI.fact hdn (i := 2) rfl rfl rfl
   replace hAA := hI.lowK hAA hA0 hN (hO.geK (⟨.inr (fun k h => .inr h), trivial⟩))
   replace hF : Ch (ownsB (.pointer (some ⟨b0, 0, none⟩))) w0 w := hF.tr hI.ch (hO.geK (⟨.inr (fun k h => .inr h), trivial⟩))
   replace hO : IniOK [ob (.pointer (some ⟨b0, 0, none⟩)) (.box B0 108 E_spec_l1Cur x13.2)] A w := hI.left hdn [(0, ob (.pointer (some ⟨b0, 0, none⟩)) (.box B0 108 E_spec_l1Cur x13.2))] ⟨rfl, rfl, z15, rfl, rfl, trivial⟩
   replace hA := hI.avok
   clear hI
   refine SG.fin rfl ?_
   refine HT.seq ?_
   refine SG.of ?_
   refine SG.textR [ob (.pointer (some ⟨b0, 0, none⟩)) (.box B0 108 E_spec_l1Cur x13.2)] (⟨_, true, [], none, true, fun A => .raw (.pointer (some ⟨b0, 0, none⟩))⟩ :: []) 1 rfl rfl rfl (by kernel_rfl) (by kernel_rfl) (Wf.mk' (by kernel_rfl) (UAll.cons ust_raw (UAll.nil)) (by kernel_rfl) (by kernel_rfl)) hO hA (trivial) ?_ ?_
   ·exact
     OblsR.p (fun A' R' w' ho hd => of_move ((ho.old 0 rfl).trans h0)) <|
     OblsR.nil
   intro done ρ σ A R w hdn hI
   replace h0 : R 0 = (.pointer (some ⟨b0, 0, none⟩)) := (hI.reg rfl).trans h0
   replace h1 : R 1 = .int .i64 p1 := (hI.reg rfl).trans h1
   replace h5 : R 5 = .int .i64 x9.1 := (hI.reg rfl).trans h5
   replace h6 : R 6 = .int .i64 x13.1 := (hI.reg rfl).trans h6
   have z16 := hI.inivR 0 rfl
   have h21 : R 21 = (.pointer (some ⟨b0, 0, none⟩)) := hI.fact hdn (i := 0) rfl rfl rfl
   replace hAA := hI.lowK hAA hA0 hN (hO.geK (⟨.inr (fun k h => .inr h), trivial⟩))
   replace hF : Ch (ownsB (.pointer (some ⟨b0, 0, none⟩))) w0 w := hF.tr hI.ch (hO.geK (⟨.inr (fun k h => .inr h), trivial⟩))
   replace hO : IniOK [ob (.pointer (some ⟨b0, 0, none⟩)) (.box B0 108 E_spec_l1Cur x13.2)] A w := hI.left hdn [(0, ob (.pointer (some ⟨b0, 0, none⟩)) (.box B0 108 E_spec_l1Cur x13.2))] ⟨rfl, rfl, z16, rfl, rfl, trivial⟩
   replace hA := hI.avok
   clear hI
   obtain ⟨x17, q18, hr⟩ := cl_some hr
   have hFz : w0.heap.size ≤ w.heap.size := hF.size
   refine SG.op 22 rfl rfl rfl rfl (call_run Try.call101 (M_spec_l1Byte_ok (q18 rfl) hA h21 (hO.sub [(0, ob (.pointer (some ⟨b0, 0, none⟩)) (.box B0 108 E_spec_l1Cur x13.2))] ⟨rfl, rfl, trivial⟩))) ?_
   rintro v_ w ⟨A, hG1, hv⟩ R hs hd
   have hst := stp_call hA hG1 (hO.ok 0 _ rfl).2
   replace hAA : ∀ b o, A0 b o → A b o := low_callK hAA hA0 hN (hO.geK (⟨.inr (fun k h => .inr h), trivial⟩)) 0 rfl hG1
   replace hF : Ch (ownsB (.pointer (some ⟨b0, 0, none⟩))) w0 w := hF.tr hG1.ch (fun k hk => (hO.geK (⟨.inr (fun k h => .inr h), trivial⟩)) k ⟨0, _, rfl, hk⟩)
   replace hO := GPost.next hO hA 0 rfl hG1
   replace hA := hG1.avok
   replace hO : IniOK [ob (.pointer (some ⟨b0, 0, none⟩)) (.box B0 108 E_spec_l1Cur x17.2)] A w := hO
   replace h0 := (hs 0 rfl).trans h0
   replace h1 := (hs 1 rfl).trans h1
   replace h5 := (hs 5 rfl).trans h5
   replace h6 := (hs 6 rfl).trans h6
   replace h21 := (hs 21 rfl).trans h21
   have h22 : R 22 = .int .i64 x17.1 := hd.trans hv
   clear hFz hG1 hv hs hd
   refine SG.textR [ob (.pointer (some ⟨b0, 0, none⟩)) (.box B0 108 E_spec_l1Cur x17.2)] (⟨_, true, [], none, true, fun A => .raw (.pointer (some ⟨b0, 0, none⟩))⟩ :: ⟨_, true, [], none, true, fun A => .raw (.int .i64 x17.1)⟩ :: ⟨_, true, [], none, true, fun A => .raw (.int .i64 x17.1)⟩ :: []) 3 rfl rfl rfl (by kernel_rfl) (by kernel_rfl) (Wf.mk' (by kernel_rfl) (UAll.cons ust_raw (UAll.cons ust_raw (UAll.cons ust_raw (UAll.nil)))) (by kernel_rfl) (by kernel_rfl)) hO hA (⟨⟨rfl, rfl, rfl, h21⟩, ⟨⟨rfl, rfl, rfl, h22⟩, trivial⟩⟩) ?_ ?_
   ·exact
     OblsR.p (fun A' R' w' ho hd => by have a0 : R' 22 = .int .i64 x17.1 := hd.g 0 rfl; exact of_assign a0) <|
     OblsR.nil
   intro done ρ σ A R w hdn hI
   replace h0 : R 0 = (.pointer (some ⟨b0, 0, none⟩)) := (hI.reg rfl).trans h0
   replace h1 : R 1 = .int .i64 p1 := (hI.reg rfl).trans h1
   replace h5 : R 5 = .int .i64 x9.1 := (hI.reg rfl).trans h5
   replace h6 : R 6 = .int .i64 x13.1 := (hI.reg rfl).trans h6
   have z19 := hI.inivR 0 rfl
   have h7 : R 7 = .int .i64 x17.1 := hI.fact hdn (i := 2) rfl rfl rfl
   replace hAA := hI.lowK hAA hA0 hN (hO.geK (⟨.inr (fun k h => .inr h), trivial⟩))
   replace hF : Ch (ownsB (.pointer (some ⟨b0, 0, none⟩))) w0 w := hF.tr hI.ch (hO.geK (⟨.inr (fun k h => .inr h), trivial⟩))
   replace hO : IniOK [ob (.pointer (some ⟨b0, 0, none⟩)) (.box B0 108 E_spec_l1Cur x17.2)] A w := hI.left hdn [(0, ob (.pointer (some ⟨b0, 0, none⟩)) (.box B0 108 E_spec_l1Cur x17.2))] ⟨rfl, rfl, z19, rfl, rfl, trivial⟩
   replace hA := hI.avok
   clear hI
   refine SG.fin rfl ?_
   refine HT.seq ?_
   refine SG.of ?_
   refine SG.textR [ob (.pointer (some ⟨b0, 0, none⟩)) (.box B0 108 E_spec_l1Cur x17.2)] (⟨_, true, [], none, true, fun A => .raw (.pointer (some ⟨b0, 0, none⟩))⟩ :: []) 1 rfl rfl rfl (by kernel_rfl) (by kernel_rfl) (Wf.mk' (by kernel_rfl) (UAll.cons ust_raw (UAll.nil)) (by kernel_rfl) (by kernel_rfl)) hO hA (trivial) ?_ ?_
   ·exact
     OblsR.p (fun A' R' w' ho hd => of_move ((ho.old 0 rfl).trans h0)) <|
     OblsR.nil
   intro done ρ σ A R w hdn hI
   replace h1 : R 1 = .int .i64 p1 := (hI.reg rfl).trans h1
   replace h5 : R 5 = .int .i64 x9.1 := (hI.reg rfl).trans h5
   replace h6 : R 6 = .int .i64 x13.1 := (hI.reg rfl).trans h6
   replace h7 : R 7 = .int .i64 x17.1 := (hI.reg rfl).trans h7
   have z20 := hI.inivR 0 rfl
   have h23 : R 23 = (.pointer (some ⟨b0, 0, none⟩)) := hI.fact hdn (i := 0) rfl rfl rfl
   replace hAA := hI.lowK hAA hA0 hN (hO.geK (⟨.inr (fun k h => .inr h), trivial⟩))
   replace hF : Ch (ownsB (.pointer (some ⟨b0, 0, none⟩))) w0 w := hF.tr hI.ch (hO.geK (⟨.inr (fun k h => .inr h), trivial⟩))
   replace hO : IniOK [ob (.pointer (some ⟨b0, 0, none⟩)) (.box B0 108 E_spec_l1Cur x17.2)] A w := hI.left hdn [(0, ob (.pointer (some ⟨b0, 0, none⟩)) (.box B0 108 E_spec_l1Cur x17.2))] ⟨rfl, rfl, z20, rfl, rfl, trivial⟩
   replace hA := hI.avok
   clear hI
   obtain ⟨x21, q22, hr⟩ := cl_some hr
   have hFz : w0.heap.size ≤ w.heap.size := hF.size
   refine SG.op 24 rfl rfl rfl rfl (call_run Try.call101 (M_spec_l1Byte_ok (q22 rfl) hA h23 (hO.sub [(0, ob (.pointer (some ⟨b0, 0, none⟩)) (.box B0 108 E_spec_l1Cur x17.2))] ⟨rfl, rfl, trivial⟩))) ?_
   rintro v_ w ⟨A, hG1, hv⟩ R hs hd
   have hst := stp_call hA hG1 (hO.ok 0 _ rfl).2
   replace hAA : ∀ b o, A0 b o → A b o := low_callK hAA hA0 hN (hO.geK (⟨.inr (fun k h => .inr h), trivial⟩)) 0 rfl hG1
   replace hF : Ch (ownsB (.pointer (some ⟨b0, 0, none⟩))) w0 w := hF.tr hG1.ch (fun k hk => (hO.geK (⟨.inr (fun k h => .inr h), trivial⟩)) k ⟨0, _, rfl, hk⟩)
   replace hO := GPost.next hO hA 0 rfl hG1
   replace hA := hG1.avok
   replace hO : IniOK [ob (.pointer (some ⟨b0, 0, none⟩)) (.box B0 108 E_spec_l1Cur x21.2)] A w := hO
   replace h1 := (hs 1 rfl).trans h1
   replace h5 := (hs 5 rfl).trans h5
   replace h6 := (hs 6 rfl).trans h6
   replace h7 := (hs 7 rfl).trans h7
   replace h23 := (hs 23 rfl).trans h23
   have h24 : R 24 = .int .i64 x21.1 := hd.trans hv
   clear hFz hG1 hv hs hd
   refine SG.textR [ob (.pointer (some ⟨b0, 0, none⟩)) (.box B0 108 E_spec_l1Cur x21.2)] (⟨_, true, [], none, true, fun A => .raw (.pointer (some ⟨b0, 0, none⟩))⟩ :: ⟨_, true, [], none, true, fun A => .raw (.int .i64 x21.1)⟩ :: ⟨_, true, [], none, true, fun A => .raw (.int .i64 x21.1)⟩ :: []) 3 rfl rfl rfl (by kernel_rfl) (by kernel_rfl) (Wf.mk' (by kernel_rfl) (UAll.cons ust_raw (UAll.cons ust_raw (UAll.cons ust_raw (UAll.nil)))) (by kernel_rfl) (by kernel_rfl)) hO hA (⟨⟨rfl, rfl, rfl, h23⟩, ⟨⟨rfl, rfl, rfl, h24⟩, trivial⟩⟩) ?_ ?_
   ·exact
     OblsR.p (fun A' R' w' ho hd => by have a0 : R' 24 = .int .i64 x21.1 := hd.g 0 rfl; exact of_assign a0) <|
     OblsR.nil
   intro done ρ σ A R w hdn hI
   replace h1 : R 1 = .int .i64 p1 := (hI.reg rfl).trans h1
   replace h5 : R 5 = .int .i64 x9.1 := (hI.reg rfl).trans h5
   replace h6 : R 6 = .int .i64 x13.1 := (hI.reg rfl).trans h6
   replace h7 : R 7 = .int .i64 x17.1 := (hI.reg rfl).trans h7
   have z23 := hI.inivR 0 rfl
   have h8 : R 8 = .int .i64 x21.1 := hI.fact hdn (i := 2) rfl rfl rfl
   replace hAA := hI.lowK hAA hA0 hN (hO.geK (⟨.inr (fun k h => .inr h), trivial⟩))
   replace hF : Ch (ownsB (.pointer (some ⟨b0, 0, none⟩))) w0 w := hF.tr hI.ch (hO.geK (⟨.inr (fun k h => .inr h), trivial⟩))
   replace hO : IniOK [ob (.pointer (some ⟨b0, 0, none⟩)) (.box B0 108 E_spec_l1Cur x21.2)] A w := hI.left hdn [(0, ob (.pointer (some ⟨b0, 0, none⟩)) (.box B0 108 E_spec_l1Cur x21.2))] ⟨rfl, rfl, z23, rfl, rfl, trivial⟩
   replace hA := hI.avok
   clear hI
   refine SG.fin rfl ?_
   refine HT.seq ?_
   obtain ⟨e24, hr⟩ := ck_some hr
   obtain ⟨e25, hr⟩ := ck_some hr
   obtain ⟨e26, hr⟩ := ck_some hr
   obtain ⟨e27, hr⟩ := ck_some hr
   obtain ⟨e28, hr⟩ := ck_some hr
   obtain ⟨e29, hr⟩ := ck_some hr
   obtain ⟨e30, hr⟩ := ck_some hr
   refine HT.text (l := ⟨_, true, .raw (.int .i64 x9.1)⟩ :: ⟨_, true, .raw (.int .i64 (x9.1 * (16777216 : Int)))⟩ :: ⟨_, true, .raw (.int .i64 x13.1)⟩ :: ⟨_, true, .raw (.int .i64 (x13.1 * (65536 : Int)))⟩ :: ⟨_, true, .raw (.int .i64 ((x9.1 * (16777216 : Int)) + (x13.1 * (65536 : Int))))⟩ :: ⟨_, true, .raw (.int .i64 x17.1)⟩ :: ⟨_, true, .raw (.int .i64 (x17.1 * (256 : Int)))⟩ :: ⟨_, true, .raw (.int .i64 (((x9.1 * (16777216 : Int)) + (x13.1 * (65536 : Int))) + (x17.1 * (256 : Int))))⟩ :: ⟨_, true, .raw (.int .i64 x21.1)⟩ :: ⟨_, true, .raw (.int .i64 ((((x9.1 * (16777216 : Int)) + (x13.1 * (65536 : Int))) + (x17.1 * (256 : Int))) + x21.1))⟩ :: ⟨_, true, .raw (.int .i64 p1)⟩ :: ⟨_, true, .raw (.int .i64 (((((x9.1 * (16777216 : Int)) + (x13.1 * (65536 : Int))) + (x17.1 * (256 : Int))) + x21.1).tmod p1))⟩ :: ⟨_, true, .raw (.int .i64 (((((x9.1 * (16777216 : Int)) + (x13.1 * (65536 : Int))) + (x17.1 * (256 : Int))) + x21.1).tmod p1))⟩ :: []) (tl := []) (by kernel_rfl) (by kernel_rfl) (by kernel_rfl) ?_ ?_
   ·exact
     Obls.p (fun R' w' hw hs hd => of_move ((hs 5 rfl).trans h5)) <|
     Obls.p (fun R' w' hw hs hd => by have a0 : R' 25 = .int .i64 x9.1 := hd.g 0 rfl; exact of_mul a0 rfl e24) <|
     Obls.p (fun R' w' hw hs hd => of_move ((hs 6 rfl).trans h6)) <|
     Obls.p (fun R' w' hw hs hd => by have a0 : R' 27 = .int .i64 x13.1 := hd.g 0 rfl; exact of_mul a0 rfl e25) <|
     Obls.p (fun R' w' hw hs hd => by have a0 : R' 26 = .int .i64 (x9.1 * (16777216 : Int)) := hd.g 0 rfl; have a1 : R' 28 = .int .i64 (x13.1 * (65536 : Int)) := hd.g 1 rfl; exact of_add a0 a1 e26) <|
     Obls.p (fun R' w' hw hs hd => of_move ((hs 7 rfl).trans h7)) <|
     Obls.p (fun R' w' hw hs hd => by have a0 : R' 30 = .int .i64 x17.1 := hd.g 0 rfl; exact of_mul a0 rfl e27) <|
     Obls.p (fun R' w' hw hs hd => by have a0 : R' 29 = .int .i64 ((x9.1 * (16777216 : Int)) + (x13.1 * (65536 : Int))) := hd.g 0 rfl; have a1 : R' 31 = .int .i64 (x17.1 * (256 : Int)) := hd.g 1 rfl; exact of_add a0 a1 e28) <|
     Obls.p (fun R' w' hw hs hd => of_move ((hs 8 rfl).trans h8)) <|
     Obls.p (fun R' w' hw hs hd => by have a0 : R' 32 = .int .i64 (((x9.1 * (16777216 : Int)) + (x13.1 * (65536 : Int))) + (x17.1 * (256 : Int))) := hd.g 0 rfl; have a1 : R' 33 = .int .i64 x21.1 := hd.g 1 rfl; exact of_add a0 a1 e29) <|
     Obls.p (fun R' w' hw hs hd => of_move ((hs 1 rfl).trans h1)) <|
     Obls.p (fun R' w' hw hs hd => by have a0 : R' 34 = .int .i64 ((((x9.1 * (16777216 : Int)) + (x13.1 * (65536 : Int))) + (x17.1 * (256 : Int))) + x21.1) := hd.g 0 rfl; have a1 : R' 35 = .int .i64 p1 := hd.g 1 rfl; exact of_rem a0 a1 e30) <|
     Obls.p (fun R' w' hw hs hd => by have a0 : R' 36 = .int .i64 (((((x9.1 * (16777216 : Int)) + (x13.1 * (65536 : Int))) + (x17.1 * (256 : Int))) + x21.1).tmod p1) := hd.g 0 rfl; exact of_assign a0) <|
     Obls.nil
   intro R w hw hs hF'
   have h4 : R 4 = .int .i64 (((((x9.1 * (16777216 : Int)) + (x13.1 * (65536 : Int))) + (x17.1 * (256 : Int))) + x21.1).tmod p1) := hF' 12 _ _ rfl rfl rfl
   replace hO := hO.fr hw
   replace hA := hA.fr hw.size
   replace hF := hF.tr (hw.ch noB) fun _ h => False.elim h
   clear hs hF' hw
   refine seqR_nil ?_
   refine HT.ret ?_
   obtain rfl := Option.some.inj hr
   obtain ⟨A1, hA1, hG1⟩ := GPost.of hO hA hAA (hO.geK (⟨.inr (fun k h => .inr h), trivial⟩)) hF
   exact ⟨.inr rfl, [R 4], ⟨rfl, trivial⟩, A1, hG1, h4⟩
def M_spec_l1Pick (fu : Nat) (p0 : T_spec_l1Cur) (p1 : List (List UInt8)) : Option ((List UInt8) × T_spec_l1Cur) :=
 cl true (M_spec_l1Below fu p0 (p1.length : Int)) fun x2 =>
 ck (inR x2.1 p1.length) <|
 some ((gtD p1 x2.1), x2.2)
theorem M_spec_l1Pick_ok {fu : Nat} {Aq : Av} {p0 : T_spec_l1Cur} {p1 : List (List UInt8)} {r : (List UInt8) × T_spec_l1Cur} (hr : M_spec_l1Pick fu p0 p1 = some r) {w : World} {v0 : Value} {v1 : Value} {b0 B0 : Nat} (hA : AvOK Aq w) (h0 : v0 = .pointer (some ⟨b0, 0, none⟩)) (hO0 : IniOK [ob (.pointer (some ⟨b0, 0, none⟩)) (.box B0 108 E_spec_l1Cur p0)] Aq w) (h1 : Rep (eSl eStr) Aq w v1 p1) :
  Calls Try.prog 106 #[v0, v1] w fun e w' => ∃ v, e = .returned v ∧ (∃ (A1 : Av), GPost (subS Aq (ownsB (.pointer (some ⟨b0, 0, none⟩)))) (ownsB (.pointer (some ⟨b0, 0, none⟩))) w [ob (.pointer (some ⟨b0, 0, none⟩)) (.box B0 108 E_spec_l1Cur r.2)] A1 w' ∧ (Fact.rep eStr A1 r.1).ok v w') := by
 unfold M_spec_l1Pick at hr
 obtain ⟨w0, hw0⟩ : ∃ w0, w0 = w := ⟨_, rfl⟩
 have hF : Ch (ownsB (.pointer (some ⟨b0, 0, none⟩))) w0 w := hw0 ▸ Ch.refl _ _
 obtain ⟨A0, hA0e⟩ : ∃ A0, A0 = subS Aq (ownsB (.pointer (some ⟨b0, 0, none⟩))) := ⟨_, rfl⟩
 have hA0 : ∀ b o, A0 b o → b < w0.heap.size := fun b o h => hw0 ▸ hA b o (hA0e ▸ h : subS Aq _ b o).1
 have hN : ∀ b o, A0 b o → ¬ (ownsB (.pointer (some ⟨b0, 0, none⟩))) b := fun b o h => (hA0e ▸ h : subS Aq _ b o).2
 have hA00 : AvOK A0 w0 := hA0
 rw [show GPost (subS Aq (ownsB (.pointer (some ⟨b0, 0, none⟩)))) (ownsB (.pointer (some ⟨b0, 0, none⟩))) w = GPost A0 (ownsB (.pointer (some ⟨b0, 0, none⟩))) w0 from by rw [hA0e, hw0]]
 clear hw0
 obtain ⟨A, hAe⟩ : ∃ A, A = Aq := ⟨_, rfl⟩
 have hAA : ∀ b o, A0 b o → A b o := fun b o h => hAe ▸ (hA0e ▸ h : subS Aq _ b o).1
 replace hA : AvOK A w := hAe ▸ hA
 have hO : IniOK [ob (.pointer (some ⟨b0, 0, none⟩)) (.box B0 108 E_spec_l1Cur p0)] A w := hAe ▸ hO0
 clear hA0e hO0
 refine calls_of_HT2 [.tmp 4] Try.func106 Try.ntmps106 (by decide) rfl rfl (Nat.le_of_ble_eq_true rfl) ?_
 intro R hR
 replace h0 : R 0 = .pointer (some ⟨b0, 0, none⟩) := (hR 0 _ rfl).trans h0
 have f_v1 : Rep (eSl eStr) A w v1 p1 := hAe ▸ h1
 replace h1 : R 1 = v1 := hR 1 _ rfl
 clear hR hAe
 refine HT.seq ?_
 refine HT.text (l := ⟨_, true, .rep eStr A ([] : List UInt8)⟩ :: []) (tl := []) (by kernel_rfl) (by kernel_rfl) (by kernel_rfl) ?_ ?_
 ·exact
   Obls.p (fun R' w' hw hs hd => of_assign ⟨_, rfl, ⟨_, rfl, rfl, by decide⟩⟩) <|
   Obls.nil
 intro R w hw hs hF'
 replace h0 := (hs 0 rfl).trans h0
 replace h1 := (hs 1 rfl).trans h1
 replace f_v1 := f_v1.fr hw
 replace hO := hO.fr hw
 replace hA := hA.fr hw.size
 replace hF := hF.tr (hw.ch noB) fun _ h => False.elim h
 clear hs hF' hw
 refine seqR_nil ?_
 refine HT.seq ?_
 refine SG.of ?_
 refine SG.textR [ob (.pointer (some ⟨b0, 0, none⟩)) (.box B0 108 E_spec_l1Cur p0)] (⟨_, true, [], none, true, fun A => .raw v1⟩ :: ⟨_, true, [], none, true, fun A => .raw (.pointer (some ⟨b0, 0, none⟩))⟩ :: ⟨_, true, [], none, true, fun A => .raw v1⟩ :: ⟨_, true, [], none, true, fun A => .raw (.int .i64 (p1.length : Int))⟩ :: []) 4 rfl rfl rfl (by kernel_rfl) (by kernel_rfl) (Wf.mk' (by kernel_rfl) (UAll.cons ust_raw (UAll.cons ust_raw (UAll.cons ust_raw (UAll.cons ust_raw (UAll.nil))))) (by kernel_rfl) (by kernel_rfl)) hO hA (trivial) ?_ ?_
 ·exact
   OblsR.p (fun A' R' w' ho hd => of_move ((ho.old 1 rfl).trans h1)) <|
   OblsR.p (fun A' R' w' ho hd => of_move ((ho.old 0 rfl).trans h0)) <|
   OblsR.p (fun A' R' w' ho hd => of_move ((ho.old 1 rfl).trans h1)) <|
   OblsR.p (fun A' R' w' ho hd => by have a0 : R' 7 = v1 := hd.g 0 rfl; have ra0 := (f_v1.stp ho.stp).eq a0; exact of_len_sl (aT := #[]) ra0 Try.underlying22) <|
   OblsR.nil
 intro done ρ σ A R w hdn hI
 have z1 := hI.inivR 0 rfl
 have h5 : R 5 = v1 := hI.fact hdn (i := 0) rfl rfl rfl
 have h6 : R 6 = (.pointer (some ⟨b0, 0, none⟩)) := hI.fact hdn (i := 1) rfl rfl rfl
 have h8 : R 8 = .int .i64 (p1.length : Int) := hI.fact hdn (i := 3) rfl rfl rfl
 replace f_v1 := f_v1.stp hI.stp
 replace hAA := hI.lowK hAA hA0 hN (hO.geK (⟨.inr (fun k h => .inr h), trivial⟩))
 replace hF : Ch (ownsB (.pointer (some ⟨b0, 0, none⟩))) w0 w := hF.tr hI.ch (hO.geK (⟨.inr (fun k h => .inr h), trivial⟩))
 replace hO : IniOK [ob (.pointer (some ⟨b0, 0, none⟩)) (.box B0 108 E_spec_l1Cur p0)] A w := hI.left hdn [(0, ob (.pointer (some ⟨b0, 0, none⟩)) (.box B0 108 E_spec_l1Cur p0))] ⟨rfl, rfl, z1, rfl, rfl, trivial⟩
 replace hA := hI.avok
 clear hI
 obtain ⟨x2, q3, hr⟩ := cl_some hr
 have hFz : w0.heap.size ≤ w.heap.size := hF.size
 refine SG.op 9 rfl rfl rfl rfl (call_run Try.call64 (M_spec_l1Below_ok (q3 rfl) hA h6 (hO.sub [(0, ob (.pointer (some ⟨b0, 0, none⟩)) (.box B0 108 E_spec_l1Cur p0))] ⟨rfl, rfl, trivial⟩) h8)) ?_
 rintro v_ w ⟨A, hG1, hv⟩ R hs hd
 have hst := stp_call hA hG1 (hO.ok 0 _ rfl).2
 replace hAA : ∀ b o, A0 b o → A b o := low_callK hAA hA0 hN (hO.geK (⟨.inr (fun k h => .inr h), trivial⟩)) 0 rfl hG1
 replace hF : Ch (ownsB (.pointer (some ⟨b0, 0, none⟩))) w0 w := hF.tr hG1.ch (fun k hk => (hO.geK (⟨.inr (fun k h => .inr h), trivial⟩)) k ⟨0, _, rfl, hk⟩)
 replace hO := GPost.next hO hA 0 rfl hG1
 replace hA := hG1.avok
 replace hO : IniOK [ob (.pointer (some ⟨b0, 0, none⟩)) (.box B0 108 E_spec_l1Cur x2.2)] A w := hO
 replace h5 := (hs 5 rfl).trans h5
 replace h6 := (hs 6 rfl).trans h6
 replace h8 := (hs 8 rfl).trans h8
 replace f_v1 := f_v1.stp hst
 have h9 : R 9 = .int .i64 x2.1 := hd.trans hv
 clear hFz hG1 hv hs hd
 obtain ⟨e4, hr⟩ := ck_some hr
 refine SG.textR [ob (.pointer (some ⟨b0, 0, none⟩)) (.box B0 108 E_spec_l1Cur x2.2)] (⟨_, true, [], none, true, fun A => .raw v1⟩ :: ⟨_, true, [], none, true, fun A => .raw (.pointer (some ⟨b0, 0, none⟩))⟩ :: ⟨_, true, [], none, true, fun A => .any⟩ :: ⟨_, true, [], none, true, fun A => .raw (.int .i64 (p1.length : Int))⟩ :: ⟨_, true, [], none, true, fun A => .raw (.int .i64 x2.1)⟩ :: ⟨_, true, [], none, true, fun A => .qtr eStr A (gtD p1 x2.1)⟩ :: ⟨_, true, [], none, true, fun A => .rep eStr A (gtD p1 x2.1)⟩ :: ⟨_, true, [], none, true, fun A => .rep eStr A (gtD p1 x2.1)⟩ :: []) 8 rfl rfl rfl (by kernel_rfl) (by kernel_rfl) (Wf.mk' (by kernel_rfl) (UAll.cons ust_raw (UAll.cons ust_raw (UAll.cons ust_any (UAll.cons ust_raw (UAll.cons ust_raw (UAll.cons ust_qtr (UAll.cons ust_rep (UAll.cons ust_rep (UAll.nil))))))))) (by kernel_rfl) (by kernel_rfl)) hO hA (⟨⟨rfl, rfl, rfl, h5⟩, ⟨⟨rfl, rfl, rfl, h6⟩, ⟨⟨rfl, rfl, rfl, trivial⟩, ⟨⟨rfl, rfl, rfl, h8⟩, ⟨⟨rfl, rfl, rfl, h9⟩, trivial⟩⟩⟩⟩⟩) ?_ ?_
 ·exact
   OblsR.p (fun A' R' w' ho hd => by have a0 : R' 5 = v1 := hd.g 0 rfl; have a1 : R' 9 = .int .i64 x2.1 := hd.g 1 rfl; have ra0 := (f_v1.stp ho.stp).eq a0; exact of_indexAddr ra0 a1 Try.underlying22 Try.sizeOf9 e4) <|
   OblsR.p (fun A' R' w' ho hd => by have a0 : QRep eStr A' w' (R' 10) (gtD p1 x2.1) := hd.g 0 rfl; exact (of_load a0.ptr Try.isAgg9 Try.sizeOf9)) <|
   OblsR.p (fun A' R' w' ho hd => by have a0 : Rep eStr A' w' (R' 11) (gtD p1 x2.1) := hd.g 0 rfl; exact of_assign a0) <|
   OblsR.nil
 intro done ρ σ A R w hdn hI
 have z5 := hI.inivR 0 rfl
 obtain ⟨u6, h4, f_u6⟩ : ∃ u, R 4 = u ∧ Rep eStr A w u (gtD p1 x2.1) := ⟨_, rfl, hI.fact hdn (i := 7) rfl rfl rfl⟩
 replace hAA := hI.lowK hAA hA0 hN (hO.geK (⟨.inr (fun k h => .inr h), trivial⟩))
 replace hF : Ch (ownsB (.pointer (some ⟨b0, 0, none⟩))) w0 w := hF.tr hI.ch (hO.geK (⟨.inr (fun k h => .inr h), trivial⟩))
 replace hO : IniOK [ob (.pointer (some ⟨b0, 0, none⟩)) (.box B0 108 E_spec_l1Cur x2.2)] A w := hI.left hdn [(0, ob (.pointer (some ⟨b0, 0, none⟩)) (.box B0 108 E_spec_l1Cur x2.2))] ⟨rfl, rfl, z5, rfl, rfl, trivial⟩
 replace hA := hI.avok
 clear hI
 refine SG.fin rfl ?_
 refine HT.ret ?_
 obtain rfl := Option.some.inj hr
 obtain ⟨A1, hA1, hG1⟩ := GPost.of hO hA hAA (hO.geK (⟨.inr (fun k h => .inr h), trivial⟩)) hF
 exact ⟨.inr rfl, [R 4], ⟨rfl, trivial⟩, A1, hG1, (f_u6.eq h4).down hA1⟩
def M_spec_l2Name (fu : Nat) (p0 : T_spec_l1Cur) : Option ((List UInt8) × T_spec_l1Cur) :=
 cl true (M_spec_l1Pick fu p0 ([([97, 110, 110, 97] : List UInt8), ([65, 110, 110, 97] : List UInt8), ([97, 110, 110] : List UInt8), ([106, 111, 104, 110] : List UInt8), ([74, 111, 110] : List UInt8), ([109, 97, 114, 105, 97] : List UInt8), ([77, 97, 114, 121] : List UInt8), ([112, 101, 116, 101, 114] : List UInt8), ([79, 39, 78, 101, 105, 108] : List UInt8), ([108, 105] : List UInt8)] : List (List UInt8))) fun x3 =>
 cl true (M_spec_l1Pick fu x3.2 ([([115, 109, 105, 116, 104] : List UInt8), ([83, 109, 121, 116, 104] : List UInt8), ([115, 99, 104, 109, 105, 100, 116] : List UInt8), ([106, 111, 110, 101, 115] : List UInt8), ([74, 111, 110, 97, 115] : List UInt8), ([108, 101, 101] : List UInt8), ([100, 101, 32, 108, 97, 32, 67, 114, 117, 122] : List UInt8), ([109, 105, 108, 108, 101, 114] : List UInt8), ([77, 117, 108, 108, 101, 114] : List UInt8)] : List (List UInt8))) fun x9 =>
 cl true (M_spec_l1Below fu x9.2 (6 : Int)) fun x14 =>
 bif (x14.1 == (0 : Int)) then (
  ck (lenOK (x9.1 ++ ([44, 32] : List UInt8)).length) <|
  ck (lenOK ((x9.1 ++ ([44, 32] : List UInt8)) ++ x3.1).length) <|
  some (((x9.1 ++ ([44, 32] : List UInt8)) ++ x3.1), x14.2)
 ) else (
  bif (x14.1 == (1 : Int)) then (
   ck (lenOK (x3.1 ++ ([32] : List UInt8)).length) <|
   cl true (M_spec_l1Pick fu x14.2 ([([97, 46] : List UInt8), ([66] : List UInt8), ([106] : List UInt8)] : List (List UInt8))) fun x25 =>
   ck (lenOK ((x3.1 ++ ([32] : List UInt8)) ++ x25.1).length) <|
   ck (lenOK (((x3.1 ++ ([32] : List UInt8)) ++ x25.1) ++ ([32] : List UInt8)).length) <|
   ck (lenOK ((((x3.1 ++ ([32] : List UInt8)) ++ x25.1) ++ ([32] : List UInt8)) ++ x9.1).length) <|
   some (((((x3.1 ++ ([32] : List UInt8)) ++ x25.1) ++ ([32] : List UInt8)) ++ x9.1), x25.2)
  ) else (
   bif (x14.1 == (2 : Int)) then (
    some (x3.1, x14.2)
   ) else (
    ck (lenOK (x3.1 ++ ([32] : List UInt8)).length) <|
    ck (lenOK ((x3.1 ++ ([32] : List UInt8)) ++ x9.1).length) <|
    some (((x3.1 ++ ([32] : List UInt8)) ++ x9.1), x14.2)
   )
  )
 )
theorem M_spec_l2Name_ok {fu : Nat} {Aq : Av} {p0 : T_spec_l1Cur} {r : (List UInt8) × T_spec_l1Cur} (hr : M_spec_l2Name fu p0 = some r) {w : World} {v0 : Value} {b0 B0 : Nat} (hA : AvOK Aq w) (h0 : v0 = .pointer (some ⟨b0, 0, none⟩)) (hO0 : IniOK [ob (.pointer (some ⟨b0, 0, none⟩)) (.box B0 108 E_spec_l1Cur p0)] Aq w) :
  Calls Try.prog 105 #[v0] w fun e w' => ∃ v, e = .returned v ∧ (∃ (A1 : Av), GPost (subS Aq (ownsB (.pointer (some ⟨b0, 0, none⟩)))) (ownsB (.pointer (some ⟨b0, 0, none⟩))) w [ob (.pointer (some ⟨b0, 0, none⟩)) (.box B0 108 E_spec_l1Cur r.2)] A1 w' ∧ (Fact.rep eStr A1 r.1).ok v w') := by
 unfold M_spec_l2Name at hr
 obtain ⟨w0, hw0⟩ : ∃ w0, w0 = w := ⟨_, rfl⟩
 have hF : Ch (ownsB (.pointer (some ⟨b0, 0, none⟩))) w0 w := hw0 ▸ Ch.refl _ _
 obtain ⟨A0, hA0e⟩ : ∃ A0, A0 = subS Aq (ownsB (.pointer (some ⟨b0, 0, none⟩))) := ⟨_, rfl⟩
 have hA0 : ∀ b o, A0 b o → b < w0.heap.size := fun b o h => hw0 ▸ hA b o (hA0e ▸ h : subS Aq _ b o).1
 have hN : ∀ b o, A0 b o → ¬ (ownsB (.pointer (some ⟨b0, 0, none⟩))) b := fun b o h => (hA0e ▸ h : subS Aq _ b o).2
 have hA00 : AvOK A0 w0 := hA0
 rw [show GPost (subS Aq (ownsB (.pointer (some ⟨b0, 0, none⟩)))) (ownsB (.pointer (some ⟨b0, 0, none⟩))) w = GPost A0 (ownsB (.pointer (some ⟨b0, 0, none⟩))) w0 from by rw [hA0e, hw0]]
 clear hw0
 obtain ⟨A, hAe⟩ : ∃ A, A = Aq := ⟨_, rfl⟩
 have hAA : ∀ b o, A0 b o → A b o := fun b o h => hAe ▸ (hA0e ▸ h : subS Aq _ b o).1
 replace hA : AvOK A w := hAe ▸ hA
 have hO : IniOK [ob (.pointer (some ⟨b0, 0, none⟩)) (.box B0 108 E_spec_l1Cur p0)] A w := hAe ▸ hO0
 clear hA0e hO0
 refine calls_of_HT2 [.tmp 2] Try.func105 Try.ntmps105 (by decide) rfl rfl (Nat.le_of_ble_eq_true rfl) ?_
 intro R hR
 replace h0 : R 0 = .pointer (some ⟨b0, 0, none⟩) := (hR 0 _ rfl).trans h0
 clear hR hAe
 refine HT.seq ?_
 refine HT.text (l := ⟨_, true, .rep eStr A ([] : List UInt8)⟩ :: []) (tl := []) (by kernel_rfl) (by kernel_rfl) (by kernel_rfl) ?_ ?_
 ·exact
   Obls.p (fun R' w' hw hs hd => of_assign ⟨_, rfl, ⟨_, rfl, rfl, by decide⟩⟩) <|
   Obls.nil
 intro R w hw hs hF'
 replace h0 := (hs 0 rfl).trans h0
 replace hO := hO.fr hw
 replace hA := hA.fr hw.size
 replace hF := hF.tr (hw.ch noB) fun _ h => False.elim h
 clear hs hF' hw
 refine seqR_nil ?_
 refine HT.seq ?_
 refine SG.of ?_
 refine SG.textR [ob (.pointer (some ⟨b0, 0, none⟩)) (.box B0 108 E_spec_l1Cur p0)] (⟨_, true, [], none, true, fun A => .raw (.pointer (some ⟨b0, 0, none⟩))⟩ :: ⟨_, true, [], none, true, fun A => .rep (eSl eStr) A ([([97, 110, 110, 97] : List UInt8), ([65, 110, 110, 97] : List UInt8), ([97, 110, 110] : List UInt8), ([106, 111, 104, 110] : List UInt8), ([74, 111, 110] : List UInt8), ([109, 97, 114, 105, 97] : List UInt8), ([77, 97, 114, 121] : List UInt8), ([112, 101, 116, 101, 114] : List UInt8), ([79, 39, 78, 101, 105, 108] : List UInt8), ([108, 105] : List UInt8)] : List (List UInt8))⟩ :: []) 2 rfl rfl rfl (by kernel_rfl) (by kernel_rfl) (Wf.mk' (by kernel_rfl) (UAll.cons ust_raw (UAll.cons ust_rep (UAll.nil))) (by kernel_rfl) (by kernel_rfl)) hO hA (trivial) ?_ ?_
 ·exact
   OblsR.p (fun A' R' w' ho hd => of_move ((ho.old 0 rfl).trans h0)) <|
   OblsR.p (fun A' R' w' ho hd => of_build [_, _, _, _, _, _, _, _, _, _] (E := eStr) ⟨⟨_, rfl, ⟨_, rfl, rfl, by decide⟩⟩, ⟨⟨_, rfl, ⟨_, rfl, rfl, by decide⟩⟩, ⟨⟨_, rfl, ⟨_, rfl, rfl, by decide⟩⟩, ⟨⟨_, rfl, ⟨_, rfl, rfl, by decide⟩⟩, ⟨⟨_, rfl, ⟨_, rfl, rfl, by decide⟩⟩, ⟨⟨_, rfl, ⟨_, rfl, rfl, by decide⟩⟩, ⟨⟨_, rfl, ⟨_, rfl, rfl, by decide⟩⟩, ⟨⟨_, rfl, ⟨_, rfl, rfl, by decide⟩⟩, ⟨⟨_, rfl, ⟨_, rfl, rfl, by decide⟩⟩, ⟨⟨_, rfl, ⟨_, rfl, rfl, by decide⟩⟩, trivial⟩⟩⟩⟩⟩⟩⟩⟩⟩⟩ Try.underlying22 Try.sizeOf9 Try.zeroValue9 rfl rfl rfl ho.av) <|
   OblsR.nil
 intro done ρ σ A R w hdn hI
 replace h0 : R 0 = (.pointer (some ⟨b0, 0, none⟩)) := (hI.reg rfl).trans h0
 have z1 := hI.inivR 0 rfl
 have h5 : R 5 = (.pointer (some ⟨b0, 0, none⟩)) := hI.fact hdn (i := 0) rfl rfl rfl
 obtain ⟨u2, h6, f_u2⟩ : ∃ u, R 6 = u ∧ Rep (eSl eStr) A w u ([([97, 110, 110, 97] : List UInt8), ([65, 110, 110, 97] : List UInt8), ([97, 110, 110] : List UInt8), ([106, 111, 104, 110] : List UInt8), ([74, 111, 110] : List UInt8), ([109, 97, 114, 105, 97] : List UInt8), ([77, 97, 114, 121] : List UInt8), ([112, 101, 116, 101, 114] : List UInt8), ([79, 39, 78, 101, 105, 108] : List UInt8), ([108, 105] : List UInt8)] : List (List UInt8)) := ⟨_, rfl, hI.fact hdn (i := 1) rfl rfl rfl⟩
 replace hAA := hI.lowK hAA hA0 hN (hO.geK (⟨.inr (fun k h => .inr h), trivial⟩))
 replace hF : Ch (ownsB (.pointer (some ⟨b0, 0, none⟩))) w0 w := hF.tr hI.ch (hO.geK (⟨.inr (fun k h => .inr h), trivial⟩))
 replace hO : IniOK [ob (.pointer (some ⟨b0, 0, none⟩)) (.box B0 108 E_spec_l1Cur p0)] A w := hI.left hdn [(0, ob (.pointer (some ⟨b0, 0, none⟩)) (.box B0 108 E_spec_l1Cur p0))] ⟨rfl, rfl, z1, rfl, rfl, trivial⟩
 replace hA := hI.avok
 clear hI
 obtain ⟨x3, q4, hr⟩ := cl_some hr
 have hFz : w0.heap.size ≤ w.heap.size := hF.size
 refine SG.op 7 rfl rfl rfl rfl (call_run Try.call106 (M_spec_l1Pick_ok (q4 rfl) hA h5 (hO.sub [(0, ob (.pointer (some ⟨b0, 0, none⟩)) (.box B0 108 E_spec_l1Cur p0))] ⟨rfl, rfl, trivial⟩) (f_u2.eq h6))) ?_
 rintro v_ w ⟨A, hG1, hv⟩ R hs hd
 have hst := stp_call hA hG1 (hO.ok 0 _ rfl).2
 replace hAA : ∀ b o, A0 b o → A b o := low_callK hAA hA0 hN (hO.geK (⟨.inr (fun k h => .inr h), trivial⟩)) 0 rfl hG1
 replace hF : Ch (ownsB (.pointer (some ⟨b0, 0, none⟩))) w0 w := hF.tr hG1.ch (fun k hk => (hO.geK (⟨.inr (fun k h => .inr h), trivial⟩)) k ⟨0, _, rfl, hk⟩)
 replace hO := GPost.next hO hA 0 rfl hG1
 replace hA := hG1.avok
 replace hO : IniOK [ob (.pointer (some ⟨b0, 0, none⟩)) (.box B0 108 E_spec_l1Cur x3.2)] A w := hO
 replace h0 := (hs 0 rfl).trans h0
 replace h5 := (hs 5 rfl).trans h5
 replace h6 := (hs 6 rfl).trans h6
 replace f_u2 := f_u2.stp hst
 obtain ⟨u5, h7, f_u5⟩ : ∃ u, R 7 = u ∧ Rep eStr A w u x3.1 := ⟨_, rfl, hd ▸ hv⟩
 clear hFz hG1 hv hs hd
 refine SG.textR [ob (.pointer (some ⟨b0, 0, none⟩)) (.box B0 108 E_spec_l1Cur x3.2)] (⟨_, true, [], none, true, fun A => .raw (.pointer (some ⟨b0, 0, none⟩))⟩ :: ⟨_, true, [], none, true, fun A => .raw u2⟩ :: ⟨_, true, [], none, true, fun A => .raw u5⟩ :: ⟨_, true, [], none, true, fun A => .raw u5⟩ :: []) 4 rfl rfl rfl (by kernel_rfl) (by kernel_rfl) (Wf.mk' (by kernel_rfl) (UAll.cons ust_raw (UAll.cons ust_raw (UAll.cons ust_raw (UAll.cons ust_raw (UAll.nil))))) (by kernel_rfl) (by kernel_rfl)) hO hA (⟨⟨rfl, rfl, rfl, h5⟩, ⟨⟨rfl, rfl, rfl, h6⟩, ⟨⟨rfl, rfl, rfl, h7⟩, trivial⟩⟩⟩) ?_ ?_
 ·exact
   OblsR.p (fun A' R' w' ho hd => by have a0 : R' 7 = u5 := hd.g 0 rfl; exact of_assign a0) <|
   OblsR.nil
 intro done ρ σ A R w hdn hI
 replace h0 : R 0 = (.pointer (some ⟨b0, 0, none⟩)) := (hI.reg rfl).trans h0
 have z6 := hI.inivR 0 rfl
 have h3 : R 3 = u5 := hI.fact hdn (i := 3) rfl rfl rfl
 replace f_u5 := f_u5.stp hI.stp
 replace hAA := hI.lowK hAA hA0 hN (hO.geK (⟨.inr (fun k h => .inr h), trivial⟩))
 replace hF : Ch (ownsB (.pointer (some ⟨b0, 0, none⟩))) w0 w := hF.tr hI.ch (hO.geK (⟨.inr (fun k h => .inr h), trivial⟩))
 replace hO : IniOK [ob (.pointer (some ⟨b0, 0, none⟩)) (.box B0 108 E_spec_l1Cur x3.2)] A w := hI.left hdn [(0, ob (.pointer (some ⟨b0, 0, none⟩)) (.box B0 108 E_spec_l1Cur x3.2))] ⟨rfl, rfl, z6, rfl, rfl, trivial⟩
 replace hA := hI.avok
 clear hI
 refine SG.fin rfl ?_
 refine HT.seq ?_
 refine SG.of ?_
 refine SG.textR [ob (.pointer (some ⟨b0, 0, none⟩)) (.box B0 108 E_spec_l1Cur x3.2)] (⟨_, true, [], none, true, fun A => .raw (.pointer (some ⟨b0, 0, none⟩))⟩ :: ⟨_, true, [], none, true, fun A => .rep (eSl eStr) A ([([115, 109, 105, 116, 104] : List UInt8), ([83, 109, 121, 116, 104] : List UInt8), ([115, 99, 104, 109, 105, 100, 116] : List UInt8), ([106, 111, 110, 101, 115] : List UInt8), ([74, 111, 110, 97, 115] : List UInt8), ([108, 101, 101] : List UInt8), ([100, 101, 32, 108, 97, 32, 67, 114, 117, 122] : List UInt8), ([109, 105, 108, 108, 101, 114] : List UInt8), ([77, 117, 108, 108, 101, 114] : List UInt8)] : List (List UInt8))⟩ :: []) 2 rfl rfl rfl (by kernel_rfl) (by kernel_rfl) (Wf.mk' (by kernel_rfl) (UAll.cons ust_raw (UAll.cons ust_rep (UAll.nil))) (by kernel_rfl) (by kernel_rfl)) hO hA (trivial) ?_ ?_
 ·exact
   OblsR.p (fun A' R' w' ho hd => of_move ((ho.old 0 rfl).trans h0)) <|
   OblsR.p (fun A' R' w' ho hd => of_build [_, _, _, _, _, _, _, _, _] (E := eStr) ⟨⟨_, rfl, ⟨_, rfl, rfl, by decide⟩⟩, ⟨⟨_, rfl, ⟨_, rfl, rfl, by decide⟩⟩, ⟨⟨_, rfl, ⟨_, rfl, rfl, by decide⟩⟩, ⟨⟨_, rfl, ⟨_, rfl, rfl, by decide⟩⟩, ⟨⟨_, rfl, ⟨_, rfl, rfl, by decide⟩⟩, ⟨⟨_, rfl, ⟨_, rfl, rfl, by decide⟩⟩, ⟨⟨_, rfl, ⟨_, rfl, rfl, by decide⟩⟩, ⟨⟨_, rfl, ⟨_, rfl, rfl, by decide⟩⟩, ⟨⟨_, rfl, ⟨_, rfl, rfl, by decide⟩⟩, trivial⟩⟩⟩⟩⟩⟩⟩⟩⟩ Try.underlying22 Try.sizeOf9 Try.zeroValue9 rfl rfl rfl ho.av) <|
   OblsR.nil
 intro done ρ σ A R w hdn hI
 replace h0 : R 0 = (.pointer (some ⟨b0, 0, none⟩)) := (hI.reg rfl).trans h0
 replace h3 : R 3 = u5 := (hI.reg rfl).trans h3
 have z7 := hI.inivR 0 rfl
 have h8 : R 8 = (.pointer (some ⟨b0, 0, none⟩)) := hI.fact hdn (i := 0) rfl rfl rfl
 obtain ⟨u8, h9, f_u8⟩ : ∃ u, R 9 = u ∧ Rep (eSl eStr) A w u ([([115, 109, 105, 116, 104] : List UInt8), ([83, 109, 121, 116, 104] : List UInt8), ([115, 99, 104, 109, 105, 100, 116] : List UInt8), ([106, 111, 110, 101, 115] : List UInt8), ([74, 111, 110, 97, 115] : List UInt8), ([108, 101, 101] : List UInt8), ([100, 101, 32, 108, 97, 32, 67, 114, 117, 122] : List UInt8), ([109, 105, 108, 108, 101, 114] : List UInt8), ([77, 117, 108, 108, 101, 114] : List UInt8)] : List (List UInt8)) := ⟨_, rfl, hI.fact hdn (i := 1) rfl rfl rfl⟩
 replace f_u5 := f_u5.stp hI.stp
 replace hAA := hI.lowK hAA hA0 hN (hO.geK (⟨.inr (fun k h => .inr h), trivial⟩))
 replace hF : Ch (ownsB (.pointer (some ⟨b0, 0, none⟩))) w0 w := hF.tr hI.ch (hO.geK (⟨.inr (fun k h => .inr h), trivial⟩))
 replace hO : IniOK [ob (.pointer (some ⟨b0, 0, none⟩)) (.box B0 108 E_spec_l1Cur x3.2)] A w := hI.left hdn [(0, ob (.pointer (some ⟨b0, 0, none⟩)) (.box B0 108 E_spec_l1Cur x3.2))] ⟨rfl, rfl, z7, rfl, rfl, trivial⟩
 replace hA := hI.avok
 clear hI
 obtain ⟨x9, q10, hr⟩ := cl_some hr
 have hFz : w0.heap.size ≤ w.heap.size := hF.size
 refine SG.op 10 rfl rfl rfl rfl (call_run Try.call106 (M_spec_l1Pick_ok (q10 rfl) hA h8 (hO.sub [(0, ob (.pointer (some ⟨b0, 0, none⟩)) (.box B0 108 E_spec_l1Cur x3.2))] ⟨rfl, rfl, trivial⟩) (f_u8.eq h9))) ?_
 rintro v_ w ⟨A, hG1, hv⟩ R hs hd
 have hst := stp_call hA hG1 (hO.ok 0 _ rfl).2
 replace hAA : ∀ b o, A0 b o → A b o := low_callK hAA hA0 hN (hO.geK (⟨.inr (fun k h => .inr h), trivial⟩)) 0 rfl hG1
 replace hF : Ch (ownsB (.pointer (some ⟨b0, 0, none⟩))) w0 w := hF.tr hG1.ch (fun k hk => (hO.geK (⟨.inr (fun k h => .inr h), trivial⟩)) k ⟨0, _, rfl, hk⟩)
 replace hO := GPost.next hO hA 0 rfl hG1
 replace hA := hG1.avok
 replace hO : IniOK [ob (.pointer (some ⟨b0, 0, none⟩)) (.box B0 108 E_spec_l1Cur x9.2)] A w := hO
 replace h0 := (hs 0 rfl).trans h0
 replace h3 := (hs 3 rfl).trans h3
 replace h8 := (hs 8 rfl).trans h8
 replace h9 := (hs 9 rfl).trans h9
 replace f_u5 := f_u5.stp hst
 replace f_u8 := f_u8.stp hst
 obtain ⟨u11, h10, f_u11⟩ : ∃ u, R 10 = u ∧ Rep eStr A w u x9.1 := ⟨_, rfl, hd ▸ hv⟩
 clear hFz hG1 hv hs hd
 refine SG.textR [ob (.pointer (some ⟨b0, 0, none⟩)) (.box B0 108 E_spec_l1Cur x9.2)] (⟨_, true, [], none, true, fun A => .raw (.pointer (some ⟨b0, 0, none⟩))⟩ :: ⟨_, true, [], none, true, fun A => .raw u8⟩ :: ⟨_, true, [], none, true, fun A => .raw u11⟩ :: ⟨_, true, [], none, true, fun A => .raw u11⟩ :: []) 4 rfl rfl rfl (by kernel_rfl) (by kernel_rfl) (Wf.mk' (by kernel_rfl) (UAll.cons ust_raw (UAll.cons ust_raw (UAll.cons ust_raw (UAll.cons ust_raw (UAll.nil))))) (by kernel_rfl) (by kernel_rfl)) hO hA (⟨⟨rfl, rfl, rfl, h8⟩, ⟨⟨rfl, rfl, rfl, h9⟩, ⟨⟨rfl, rfl, rfl, h10⟩, trivial⟩⟩⟩) ?_ ?_
 ·exact
   OblsR.p (fun A' R' w' ho hd => by have a0 : R' 10 = u11 := hd.g 0 rfl; exact of_assign a0) <|
   OblsR.nil
 intro done ρ σ A R w hdn hI
 replace h0 : R 0 = (.pointer (some ⟨b0, 0, none⟩)) := (hI.reg rfl).trans h0
 replace h3 : R 3 = u5 := (hI.reg rfl).trans h3
 have z12 := hI.inivR 0 rfl
 have h4 : R 4 = u11 := hI.fact hdn (i := 3) rfl rfl rfl
 replace f_u11 := f_u11.stp hI.stp
 replace f_u5 := f_u5.stp hI.stp
 replace hAA := hI.lowK hAA hA0 hN (hO.geK (⟨.inr (fun k h => .inr h), trivial⟩))
 replace hF : Ch (ownsB (.pointer (some ⟨b0, 0, none⟩))) w0 w := hF.tr hI.ch (hO.geK (⟨.inr (fun k h => .inr h), trivial⟩))
 replace hO : IniOK [ob (.pointer (some ⟨b0, 0, none⟩)) (.box B0 108 E_spec_l1Cur x9.2)] A w := hI.left hdn [(0, ob (.pointer (some ⟨b0, 0, none⟩)) (.box B0 108 E_spec_l1Cur x9.2))] ⟨rfl, rfl, z12, rfl, rfl, trivial⟩
 replace hA := hI.avok
 clear hI
 refine SG.fin rfl ?_
 refine HT.seq ?_
 refine HT.seq ?_
 refine SG.of ?_
 refine SG.textR [ob (.pointer (some ⟨b0, 0, none⟩)) (.box B0 108 E_spec_l1Cur x9.2)] (⟨_, true, [], none, true, fun A => .raw (.pointer (some ⟨b0, 0, none⟩))⟩ :: []) 1 rfl rfl rfl (by kernel_rfl) (by kernel_rfl) (Wf.mk' (by kernel_rfl) (UAll.cons ust_raw (UAll.nil)) (by kernel_rfl) (by kernel_rfl)) hO hA (trivial) ?_ ?_
 ·exact
   OblsR.p (fun A' R' w' ho hd => of_move ((ho.old 0 rfl).trans h0)) <|
   OblsR.nil
 intro done ρ σ A R w hdn hI
 replace h0 : R 0 = (.pointer (some ⟨b0, 0, none⟩)) := (hI.reg rfl).trans h0
 replace h3 : R 3 = u5 := (hI.reg rfl).trans h3
 replace h4 : R 4 = u11 := (hI.reg rfl).trans h4
 have z13 := hI.inivR 0 rfl
 have h11 : R 11 = (.pointer (some ⟨b0, 0, none⟩)) := hI.fact hdn (i := 0) rfl rfl rfl
 replace f_u11 := f_u11.stp hI.stp
 replace f_u5 := f_u5.stp hI.stp
 replace hAA := hI.lowK hAA hA0 hN (hO.geK (⟨.inr (fun k h => .inr h), trivial⟩))
 replace hF : Ch (ownsB (.pointer (some ⟨b0, 0, none⟩))) w0 w := hF.tr hI.ch (hO.geK (⟨.inr (fun k h => .inr h), trivial⟩))
 replace hO : IniOK [ob (.pointer (some ⟨b0, 0, none⟩)) (.box B0 108 E_spec_l1Cur x9.2)] A w := hI.left hdn [(0, ob (.pointer (some ⟨b0, 0, none⟩)) (.box B0 108 E_spec_l1Cur x9.2))] ⟨rfl, rfl, z13, rfl, rfl, trivial⟩
 replace hA := hI.avok
 clear hI
 obtain ⟨x14, q15, hr⟩ := cl_some hr
 have hFz : w0.heap.size ≤ w.heap.size := hF.size
 refine SG.op 12 rfl rfl rfl rfl (call_run Try.call64 (M_spec_l1Below_ok (q15 rfl) hA h11 (hO.sub [(0, ob (.pointer (some ⟨b0, 0, none⟩)) (.box B0 108 E_spec_l1Cur x9.2))] ⟨rfl, rfl, trivial⟩) rfl)) ?_
 rintro v_ w ⟨A, hG1, hv⟩ R hs hd
 have hst := stp_call hA hG1 (hO.ok 0 _ rfl).2
 replace hAA : ∀ b o, A0 b o → A b o := low_callK hAA hA0 hN (hO.geK (⟨.inr (fun k h => .inr h), trivial⟩)) 0 rfl hG1
 replace hF : Ch (ownsB (.pointer (some ⟨b0, 0, none⟩))) w0 w := hF.tr hG1.ch (fun k hk => (hO.geK (⟨.inr (fun k h => .inr h), trivial⟩)) k ⟨0, _, rfl, hk⟩)
 replace hO := GPost.next hO hA 0 rfl hG1
 replace hA := hG1.avok
 replace hO : IniOK [ob (.pointer (some ⟨b0, 0, none⟩)) (.box B0 108 E_spec_l1Cur x14.2)] A w := hO
 replace h0 := (hs 0 rfl).trans h0
 replace h3 := (hs 3 rfl).trans h3
 replace h4 := (hs 4 rfl).trans h4
 replace h11 := (hs 11 rfl).trans h11
 replace f_u11 := f_u11.stp hst
 replace f_u5 := f_u5.stp hst
 have h12 : R 12 = .int .i64 x14.1 := hd.trans hv
 clear hFz hG1 hv hs hd
 refine SG.fin rfl ?_
 refine HT.block ?_
 refine HT.seq ?_
 refine HT.text (l := ⟨_, true, .raw (.bool (x14.1 == (0 : Int)))⟩ :: ⟨_, true, .raw (.bool (x14.1 == (0 : Int)))⟩ :: []) (tl := []) (by kernel_rfl) (by kernel_rfl) (by kernel_rfl) ?_ ?_
 ·exact
   Obls.p (fun R' w' hw hs hd => of_eql ((hs 12 rfl).trans h12) rfl) <|
   Obls.p (fun R' w' hw hs hd => by have a0 : R' 14 = .bool (x14.1 == (0 : Int)) := hd.g 0 rfl; exact of_assign a0) <|
   Obls.nil
 intro R w hw hs hF'
 replace h0 := (hs 0 rfl).trans h0
 replace h3 := (hs 3 rfl).trans h3
 replace h4 := (hs 4 rfl).trans h4
 replace h12 := (hs 12 rfl).trans h12
 have h13 : R 13 = .bool (x14.1 == (0 : Int)) := hF' 1 _ _ rfl rfl rfl
 replace f_u11 := f_u11.fr hw
 replace f_u5 := f_u5.fr hw
 replace hO := hO.fr hw
 replace hA := hA.fr hw.size
 replace hF := hF.tr (hw.ch noB) fun _ h => False.elim h
 clear hs hF' hw
 refine seqR_nil ?_
 refine HT.cond (x14.1 == (0 : Int)) h13 (fun c16 => ?_) (fun c16 => ?_)
 ·have hr := cnd_t c16 hr
  refine HT.seq ?_
  obtain ⟨e17, hr⟩ := ck_some hr
  obtain ⟨e18, hr⟩ := ck_some hr
  refine HT.text (l := ⟨_, true, .raw u11⟩ :: ⟨_, true, .rep eStr A (x9.1 ++ ([44, 32] : List UInt8))⟩ :: ⟨_, true, .raw u5⟩ :: ⟨_, true, .rep eStr A ((x9.1 ++ ([44, 32] : List UInt8)) ++ x3.1)⟩ :: ⟨_, true, .rep eStr A ((x9.1 ++ ([44, 32] : List UInt8)) ++ x3.1)⟩ :: []) (tl := []) (by kernel_rfl) (by kernel_rfl) (by kernel_rfl) ?_ ?_
  ·exact
    Obls.p (fun R' w' hw hs hd => of_move ((hs 4 rfl).trans h4)) <|
    Obls.p (fun R' w' hw hs hd => by have a0 : R' 15 = u11 := hd.g 0 rfl; have ra0 := (f_u11.fr hw).eq a0; exact of_cat ra0 ⟨_, rfl, ⟨_, rfl, rfl, by decide⟩⟩ e17) <|
    Obls.p (fun R' w' hw hs hd => of_move ((hs 3 rfl).trans h3)) <|
    Obls.p (fun R' w' hw hs hd => by have a0 : Rep eStr A w' (R' 16) (x9.1 ++ ([44, 32] : List UInt8)) := hd.g 0 rfl; have a1 : R' 17 = u5 := hd.g 1 rfl; have ra1 := (f_u5.fr hw).eq a1; exact of_cat a0 ra1 e18) <|
    Obls.p (fun R' w' hw hs hd => by have a0 : Rep eStr A w' (R' 18) ((x9.1 ++ ([44, 32] : List UInt8)) ++ x3.1) := hd.g 0 rfl; exact of_assign a0) <|
    Obls.nil
  intro R w hw hs hF'
  obtain ⟨u19, h2, f_u19⟩ : ∃ u, R 2 = u ∧ Rep eStr A w u ((x9.1 ++ ([44, 32] : List UInt8)) ++ x3.1) := ⟨_, rfl, hF' 4 _ _ rfl rfl rfl⟩
  replace hO := hO.fr hw
  replace hA := hA.fr hw.size
  replace hF := hF.tr (hw.ch noB) fun _ h => False.elim h
  clear hs hF' hw
  refine seqR_nil ?_
  refine HT.ret ?_
  obtain rfl := Option.some.inj hr
  obtain ⟨A1, hA1, hG1⟩ := GPost.of hO hA hAA (hO.geK (⟨.inr (fun k h => .inr h), trivial⟩)) hF
  exact ⟨.inr rfl, [R 2], ⟨rfl, trivial⟩, A1, hG1, (f_u19.eq h2).down hA1⟩
 ·have hr := cnd_f c16 hr
  refine HT.seq ?_
  refine HT.text (l := ⟨_, true, .raw (.bool (x14.1 == (1 : Int)))⟩ :: ⟨_, true, .raw (.bool (x14.1 == (1 : Int)))⟩ :: []) (tl := []) (by kernel_rfl) (by kernel_rfl) (by kernel_rfl) ?_ ?_
  ·exact
    Obls.p (fun R' w' hw hs hd => of_eql ((hs 12 rfl).trans h12) rfl) <|
    Obls.p (fun R' w' hw hs hd => by have a0 : R' 20 = .bool (x14.1 == (1 : Int)) := hd.g 0 rfl; exact of_assign a0) <|
    Obls.nil
  intro R w hw hs hF'
  replace h0 := (hs 0 rfl).trans h0
  replace h3 := (hs 3 rfl).trans h3
  replace h4 := (hs 4 rfl).trans h4
  replace h12 := (hs 12 rfl).trans h12
  have h19 : R 19 = .bool (x14.1 == (1 : Int)) := hF' 1 _ _ rfl rfl rfl
  replace f_u11 := f_u11.fr hw
  replace f_u5 := f_u5.fr hw
  replace hO := hO.fr hw
  replace hA := hA.fr hw.size
  replace hF := hF.tr (hw.ch noB) fun _ h => False.elim h
  clear hs hF' hw
  refine seqR_nil ?_
  refine HT.cond (x14.1 == (1 : Int)) h19 (fun c20 => ?_) (fun c20 => ?_)
  ·have hr := cnd_t c20 hr
   refine HT.seq ?_
   refine SG.of ?_
   obtain ⟨e21, hr⟩ := ck_some hr
   refine SG.textR [ob (.pointer (some ⟨b0, 0, none⟩)) (.box B0 108 E_spec_l1Cur x14.2)] (⟨_, true, [], none, true, fun A => .raw u5⟩ :: ⟨_, true, [], none, true, fun A => .rep eStr A (x3.1 ++ ([32] : List UInt8))⟩ :: ⟨_, true, [], none, true, fun A => .raw (.pointer (some ⟨b0, 0, none⟩))⟩ :: ⟨_, true, [], none, true, fun A => .rep (eSl eStr) A ([([97, 46] : List UInt8), ([66] : List UInt8), ([106] : List UInt8)] : List (List UInt8))⟩ :: []) 4 rfl rfl rfl (by kernel_rfl) (by kernel_rfl) (Wf.mk' (by kernel_rfl) (UAll.cons ust_raw (UAll.cons ust_rep (UAll.cons ust_raw (UAll.cons ust_rep (UAll.nil))))) (by kernel_rfl) (by kernel_rfl)) hO hA (trivial) ?_ ?_
   ·exact
     OblsR.p (fun A' R' w' ho hd => of_move ((ho.old 3 rfl).trans h3)) <|
     OblsR.p (fun A' R' w' ho hd => by have a0 : R' 21 = u5 := hd.g 0 rfl; have ra0 := (f_u5.stp ho.stp).eq a0; exact of_cat ra0 ⟨_, rfl, ⟨_, rfl, rfl, by decide⟩⟩ e21) <|
     OblsR.p (fun A' R' w' ho hd => of_move ((ho.old 0 rfl).trans h0)) <|
     OblsR.p (fun A' R' w' ho hd => of_build [_, _, _] (E := eStr) ⟨⟨_, rfl, ⟨_, rfl, rfl, by decide⟩⟩, ⟨⟨_, rfl, ⟨_, rfl, rfl, by decide⟩⟩, ⟨⟨_, rfl, ⟨_, rfl, rfl, by decide⟩⟩, trivial⟩⟩⟩ Try.underlying22 Try.sizeOf9 Try.zeroValue9 rfl rfl rfl ho.av) <|
     OblsR.nil
   intro done ρ σ A R w hdn hI
   replace h4 : R 4 = u11 := (hI.reg rfl).trans h4
   have z22 := hI.inivR 0 rfl
   obtain ⟨u23, h22, f_u23⟩ : ∃ u, R 22 = u ∧ Rep eStr A w u (x3.1 ++ ([32] : List UInt8)) := ⟨_, rfl, hI.fact hdn (i := 1) rfl rfl rfl⟩
   have h23 : R 23 = (.pointer (some ⟨b0, 0, none⟩)) := hI.fact hdn (i := 2) rfl rfl rfl
   obtain ⟨u24, h24, f_u24⟩ : ∃ u, R 24 = u ∧ Rep (eSl eStr) A w u ([([97, 46] : List UInt8), ([66] : List UInt8), ([106] : List UInt8)] : List (List UInt8)) := ⟨_, rfl, hI.fact hdn (i := 3) rfl rfl rfl⟩
   replace f_u11 := f_u11.stp hI.stp
   replace hAA := hI.lowK hAA hA0 hN (hO.geK (⟨.inr (fun k h => .inr h), trivial⟩))
   replace hF : Ch (ownsB (.pointer (some ⟨b0, 0, none⟩))) w0 w := hF.tr hI.ch (hO.geK (⟨.inr (fun k h => .inr h), trivial⟩))
   replace hO : IniOK [ob (.pointer (some ⟨b0, 0, none⟩)) (.box B0 108 E_spec_l1Cur x14.2)] A w := hI.left hdn [(0, ob (.pointer (some ⟨b0, 0, none⟩)) (.box B0 108 E_spec_l1Cur x14.2))] ⟨rfl, rfl, z22, rfl, rfl, trivial⟩
   replace hA := hI.avok
   clear hI
   obtain ⟨x25, q26, hr⟩ := cl_some hr
   have hFz : w0.heap.size ≤ w.heap.size := hF.size
   refine SG.op 25 rfl rfl rfl rfl (call_run Try.call106 (M_spec_l1Pick_ok (q26 rfl) hA h23 (hO.sub [(0, ob (.pointer (some ⟨b0, 0, none⟩)) (.box B0 108 E_spec_l1Cur x14.2))] ⟨rfl, rfl, trivial⟩) (f_u24.eq h24))) ?_
   rintro v_ w ⟨A, hG1, hv⟩ R hs hd
   have hst := stp_call hA hG1 (hO.ok 0 _ rfl).2
   replace hAA : ∀ b o, A0 b o → A b o := low_callK hAA hA0 hN (hO.geK (⟨.inr (fun k h => .inr h), trivial⟩)) 0 rfl hG1
   replace hF : Ch (ownsB (.pointer (some ⟨b0, 0, none⟩))) w0 w := hF.tr hG1.ch (fun k hk => (hO.geK (⟨.inr (fun k h => .inr h), trivial⟩)) k ⟨0, _, rfl, hk⟩)
   replace hO := GPost.next hO hA 0 rfl hG1
   replace hA := hG1.avok
   replace hO : IniOK [ob (.pointer (some ⟨b0, 0, none⟩)) (.box B0 108 E_spec_l1Cur x25.2)] A w := hO
   replace h4 := (hs 4 rfl).trans h4
   replace h22 := (hs 22 rfl).trans h22
   replace h23 := (hs 23 rfl).trans h23
   replace h24 := (hs 24 rfl).trans h24
   replace f_u11 := f_u11.stp hst
   replace f_u23 := f_u23.stp hst
   replace f_u24 := f_u24.stp hst
   obtain ⟨u27, h25, f_u27⟩ : ∃ u, R 25 = u ∧ Rep eStr A w u x25.1 := ⟨_, rfl, hd ▸ hv⟩
   clear hFz hG1 hv hs hd
   obtain ⟨e28, hr⟩ := ck_some hr
   obtain ⟨e29, hr⟩ := ck_some hr
   obtain ⟨e30, hr⟩ := ck_some hr
   refine SG.textR [ob (.pointer (some ⟨b0, 0, none⟩)) (.box B0 108 E_spec_l1Cur x25.2)] (⟨_, true, [], none, true, fun A => .any⟩ :: ⟨_, true, [], none, true, fun A => .raw u23⟩ :: ⟨_, true, [], none, true, fun A => .raw (.pointer (some ⟨b0, 0, none⟩))⟩ :: ⟨_, true, [], none, true, fun A => .raw u24⟩ :: ⟨_, true, [], none, true, fun A => .raw u27⟩ :: ⟨_, true, [], none, true, fun A => .rep eStr A ((x3.1 ++ ([32] : List UInt8)) ++ x25.1)⟩ :: ⟨_, true, [], none, true, fun A => .rep eStr A (((x3.1 ++ ([32] : List UInt8)) ++ x25.1) ++ ([32] : List UInt8))⟩ :: ⟨_, true, [], none, true, fun A => .raw u11⟩ :: ⟨_, true, [], none, true, fun A => .rep eStr A ((((x3.1 ++ ([32] : List UInt8)) ++ x25.1) ++ ([32] : List UInt8)) ++ x9.1)⟩ :: ⟨_, true, [], none, true, fun A => .rep eStr A ((((x3.1 ++ ([32] : List UInt8)) ++ x25.1) ++ ([32] : List UInt8)) ++ x9.1)⟩ :: []) 10 rfl rfl rfl (by kernel_rfl) (by kernel_rfl) (Wf.mk' (by kernel_rfl) (UAll.cons ust_any (UAll.cons ust_raw (UAll.cons ust_raw (UAll.cons ust_raw (UAll.cons ust_raw (UAll.cons ust_rep (UAll.cons ust_rep (UAll.cons ust_raw (UAll.cons ust_rep (UAll.cons ust_rep (UAll.nil))))))))))) (by kernel_rfl) (by kernel_rfl)) hO hA (⟨⟨rfl, rfl, rfl, trivial⟩, ⟨⟨rfl, rfl, rfl, h22⟩, ⟨⟨rfl, rfl, rfl, h23⟩, ⟨⟨rfl, rfl, rfl, h24⟩, ⟨⟨rfl, rfl, rfl, h25⟩, trivial⟩⟩⟩⟩⟩) ?_ ?_
   ·exact
     OblsR.p (fun A' R' w' ho hd => by have a0 : R' 22 = u23 := hd.g 0 rfl; have ra0 := (f_u23.stp ho.stp).eq a0; have a1 : R' 25 = u27 := hd.g 1 rfl; have ra1 := (f_u27.stp ho.stp).eq a1; exact of_cat ra0 ra1 e28) <|
     OblsR.p (fun A' R' w' ho hd => by have a0 : Rep eStr A' w' (R' 26) ((x3.1 ++ ([32] : List UInt8)) ++ x25.1) := hd.g 0 rfl; exact of_cat a0 ⟨_, rfl, ⟨_, rfl, rfl, by decide⟩⟩ e29) <|
     OblsR.p (fun A' R' w' ho hd => of_move ((ho.old 4 rfl).trans h4)) <|
     OblsR.p (fun A' R' w' ho hd => by have a0 : Rep eStr A' w' (R' 27) (((x3.1 ++ ([32] : List UInt8)) ++ x25.1) ++ ([32] : List UInt8)) := hd.g 0 rfl; have a1 : R' 28 = u11 := hd.g 1 rfl; have ra1 := (f_u11.stp ho.stp).eq a1; exact of_cat a0 ra1 e30) <|
     OblsR.p (fun A' R' w' ho hd => by have a0 : Rep eStr A' w' (R' 29) ((((x3.1 ++ ([32] : List UInt8)) ++ x25.1) ++ ([32] : List UInt8)) ++ x9.1) := hd.g 0 rfl; exact of_assign a0) <|
     OblsR.nil
   intro done ρ σ A R w hdn hI
   have z31 := hI.inivR 0 rfl
   obtain ⟨u32, h2, f_u32⟩ : ∃ u, R 2 = u ∧ Rep eStr A w u ((((x3.1 ++ ([32] : List UInt8)) ++ x25.1) ++ ([32] : List UInt8)) ++ x9.1) := ⟨_, rfl, hI.fact hdn (i := 9) rfl rfl rfl⟩
   replace hAA := hI.lowK hAA hA0 hN (hO.geK (⟨.inr (fun k h => .inr h), trivial⟩))
   replace hF : Ch (ownsB (.pointer (some ⟨b0, 0, none⟩))) w0 w := hF.tr hI.ch (hO.geK (⟨.inr (fun k h => .inr h), trivial⟩))
   replace hO : IniOK [ob (.pointer (some ⟨b0, 0, none⟩)) (.box B0 108 E_spec_l1Cur x25.2)] A w := hI.left hdn [(0, ob (.pointer (some ⟨b0, 0, none⟩)) (.box B0 108 E_spec_l1Cur x25.2))] ⟨rfl, rfl, z31, rfl, rfl, trivial⟩
   replace hA := hI.avok
   clear hI
   refine SG.fin rfl ?_
   refine HT.ret ?_
   obtain rfl := Option.some.inj hr
   obtain ⟨A1, hA1, hG1⟩ := GPost.of hO hA hAA (hO.geK (⟨.inr (fun k h => .inr h), trivial⟩)) hF
   exact ⟨.inr rfl, [R 2], ⟨rfl, trivial⟩, A1, hG1, (f_u32.eq h2).down hA1⟩
  ·have hr := cnd_f c20 hr
   refine HT.seq ?_
   refine HT.text (l := ⟨_, true, .raw (.bool (x14.1 == (2 : Int)))⟩ :: ⟨_, true, .raw (.bool (x14.1 == (2 : Int)))⟩ :: []) (tl := []) (by kernel_rfl) (by kernel_rfl) (by kernel_rfl) ?_ ?_
   ·exact
     Obls.p (fun R' w' hw hs hd => of_eql ((hs 12 rfl).trans h12) rfl) <|
     Obls.p (fun R' w' hw hs hd => by have a0 : R' 31 = .bool (x14.1 == (2 : Int)) := hd.g 0 rfl; exact of_assign a0) <|
     Obls.nil
   intro R w hw hs hF'
   replace h3 := (hs 3 rfl).trans h3
   replace h4 := (hs 4 rfl).trans h4
   have h30 : R 30 = .bool (x14.1 == (2 : Int)) := hF' 1 _ _ rfl rfl rfl
   replace f_u11 := f_u11.fr hw
   replace f_u5 := f_u5.fr hw
   replace hO := hO.fr hw
   replace hA := hA.fr hw.size
   replace hF := hF.tr (hw.ch noB) fun _ h => False.elim h
   clear hs hF' hw
   refine seqR_nil ?_
   refine HT.cond (x14.1 == (2 : Int)) h30 (fun c33 => ?_) (fun c33 => ?_)
   ·have hr := cnd_t c33 hr
    refine HT.seq ?_
    refine HT.text (l := ⟨_, true, .raw u5⟩ :: ⟨_, true, .raw u5⟩ :: []) (tl := []) (by kernel_rfl) (by kernel_rfl) (by kernel_rfl) ?_ ?_
    ·exact
      Obls.p (fun R' w' hw hs hd => of_move ((hs 3 rfl).trans h3)) <|
      Obls.p (fun R' w' hw hs hd => by have a0 : R' 32 = u5 := hd.g 0 rfl; exact of_assign a0) <|
      Obls.nil
    intro R w hw hs hF'
    have h2 : R 2 = u5 := hF' 1 _ _ rfl rfl rfl
    replace f_u5 := f_u5.fr hw
    replace hO := hO.fr hw
    replace hA := hA.fr hw.size
    replace hF := hF.tr (hw.ch noB) fun _ h => False.elim h
    clear hs hF' hw
    refine seqR_nil ?_
    refine HT.ret ?_
    obtain rfl := Option.some.inj hr
    obtain ⟨A1, hA1, hG1⟩ := GPost.of hO hA hAA (hO.geK (⟨.inr (fun k h => .inr h), trivial⟩)) hF
    exact ⟨.inr rfl, [R 2], ⟨rfl, trivial⟩, A1, hG1, (f_u5.eq h2).down hA1⟩
   ·have hr := cnd_f c33 hr
    refine HT.skip ?_
    refine HT.seq ?_
    obtain ⟨e34, hr⟩ := ck_some hr
    obtain ⟨e35, hr⟩ := ck_some hr
    refine HT.text (l := ⟨_, true, .raw u5⟩ :: ⟨_, true, .rep eStr A (x3.1 ++ ([32] : List UInt8))⟩ :: ⟨_, true, .raw u11⟩ :: ⟨_, true, .rep eStr A ((x3.1 ++ ([32] : List UInt8)) ++ x9.1)⟩ :: ⟨_, true, .rep eStr A ((x3.1 ++ ([32] : List UInt8)) ++ x9.1)⟩ :: []) (tl := []) (by kernel_rfl) (by kernel_rfl) (by kernel_rfl) ?_ ?_
    ·exact
      Obls.p (fun R' w' hw hs hd => of_move ((hs 3 rfl).trans h3)) <|
      Obls.p (fun R' w' hw hs hd => by have a0 : R' 33 = u5 := hd.g 0 rfl; have ra0 := (f_u5.fr hw).eq a0; exact of_cat ra0 ⟨_, rfl, ⟨_, rfl, rfl, by decide⟩⟩ e34) <|
      Obls.p (fun R' w' hw hs hd => of_move ((hs 4 rfl).trans h4)) <|
      Obls.p (fun R' w' hw hs hd => by have a0 : Rep eStr A w' (R' 34) (x3.1 ++ ([32] : List UInt8)) := hd.g 0 rfl; have a1 : R' 35 = u11 := hd.g 1 rfl; have ra1 := (f_u11.fr hw).eq a1; exact of_cat a0 ra1 e35) <|
      Obls.p (fun R' w' hw hs hd => by have a0 : Rep eStr A w' (R' 36) ((x3.1 ++ ([32] : List UInt8)) ++ x9.1) := hd.g 0 rfl; exact of_assign a0) <|
      Obls.nil
    intro R w hw hs hF'
    obtain ⟨u36, h2, f_u36⟩ : ∃ u, R 2 = u ∧ Rep eStr A w u ((x3.1 ++ ([32] : List UInt8)) ++ x9.1) := ⟨_, rfl, hF' 4 _ _ rfl rfl rfl⟩
    replace hO := hO.fr hw
    replace hA := hA.fr hw.size
    replace hF := hF.tr (hw.ch noB) fun _ h => False.elim h
    clear hs hF' hw
    refine seqR_nil ?_
    refine HT.ret ?_
    obtain rfl := Option.some.inj hr
    obtain ⟨A1, hA1, hG1⟩ := GPost.of hO hA hAA (hO.geK (⟨.inr (fun k h => .inr h), trivial⟩)) hF
    exact ⟨.inr rfl, [R 2], ⟨rfl, trivial⟩, A1, hG1, (f_u36.eq h2).down hA1⟩
def M_spec_l1Text_L0 (fu : Nat) (x5 : Int × T_spec_l1Cur) : Nat → Int → T_spec_l1Cur → (List Int) → Option (T_spec_l1Cur × (List Int))
 | 0, _, _, _ => none
 | k + 1, y19, y20, y21 =>
  bif (decide ((0 : Int) < y19)) then (
   cl true (M_spec_l1Byte fu y20) fun x25 =>
   bif (x5.1 == (1 : Int)) then (
    ck ((2 : Int) != 0) <|
    bif (x5.1 == (2 : Int)) then (
     ck ((4 : Int) != 0) <|
     ck (i64B ((97 : Int) + ((x25.1.tmod (2 : Int)).tmod (4 : Int)))) <|
     ck (lenOK (y21.length + ([(IntKind.u8.wrap ((97 : Int) + ((x25.1.tmod (2 : Int)).tmod (4 : Int))))] : List Int).length)) <|
     ck (i64B (y19 - (1 : Int))) <|
     M_spec_l1Text_L0 fu x5 k (y19 - (1 : Int)) x25.2 (y21 ++ ([(IntKind.u8.wrap ((97 : Int) + ((x25.1.tmod (2 : Int)).tmod (4 : Int))))] : List Int))
    ) else (
     ck (lenOK (y21.length + ([(IntKind.u8.wrap (x25.1.tmod (2 : Int)))] : List Int).length)) <|
     ck (i64B (y19 - (1 : Int))) <|
     M_spec_l1Text_L0 fu x5 k (y19 - (1 : Int)) x25.2 (y21 ++ ([(IntKind.u8.wrap (x25.1.tmod (2 : Int)))] : List Int))
    )
   ) else (
    bif (x5.1 == (2 : Int)) then (
     ck ((4 : Int) != 0) <|
     ck (i64B ((97 : Int) + (x25.1.tmod (4 : Int)))) <|
     ck (lenOK (y21.length + ([(IntKind.u8.wrap ((97 : Int) + (x25.1.tmod (4 : Int))))] : List Int).length)) <|
     ck (i64B (y19 - (1 : Int))) <|
     M_spec_l1Text_L0 fu x5 k (y19 - (1 : Int)) x25.2 (y21 ++ ([(IntKind.u8.wrap ((97 : Int) + (x25.1.tmod (4 : Int))))] : List Int))
    ) else (
     ck (lenOK (y21.length + ([(IntKind.u8.wrap x25.1)] : List Int).length)) <|
     ck (i64B (y19 - (1 : Int))) <|
     M_spec_l1Text_L0 fu x5 k (y19 - (1 : Int)) x25.2 (y21 ++ ([(IntKind.u8.wrap x25.1)] : List Int))
    )
   )
  ) else (
   some (y20, y21)
  )
def M_spec_l1Text (fu : Nat) (p0 : T_spec_l1Cur) (p1 : Int) : Option ((List UInt8) × T_spec_l1Cur) :=
 cl true (M_spec_l1Below fu p0 (4 : Int)) fun x5 =>
 ck (i64B (p1 + (1 : Int))) <|
 cl true (M_spec_l1Below fu x5.2 (p1 + (1 : Int))) fun x12 =>
 cl true (M_spec_l1Text_L0 fu x5 fu x12.1 x12.2 ([] : List Int)) fun s18 =>
 some ((strB s18.2), s18.1)
theorem M_spec_l1Text_ok {fu : Nat} {Aq : Av} {p0 : T_spec_l1Cur} {p1 : Int} {r : (List UInt8) × T_spec_l1Cur} (hr : M_spec_l1Text fu p0 p1 = some r) {w : World} {v0 : Value} {v1 : Value} {b0 B0 : Nat} (hA : AvOK Aq w) (h0 : v0 = .pointer (some ⟨b0, 0, none⟩)) (hO0 : IniOK [ob (.pointer (some ⟨b0, 0, none⟩)) (.box B0 108 E_spec_l1Cur p0)] Aq w) (h1 : v1 = .int .i64 p1) :
  Calls Try.prog 132 #[v0, v1] w fun e w' => ∃ v, e = .returned v ∧ (∃ (A1 : Av), GPost (subS Aq (ownsB (.pointer (some ⟨b0, 0, none⟩)))) (ownsB (.pointer (some ⟨b0, 0, none⟩))) w [ob (.pointer (some ⟨b0, 0, none⟩)) (.box B0 108 E_spec_l1Cur r.2)] A1 w' ∧ (Fact.rep eStr A1 r.1).ok v w') := by
 unfold M_spec_l1Text at hr
 obtain ⟨w0, hw0⟩ : ∃ w0, w0 = w := ⟨_, rfl⟩
 have hF : Ch (ownsB (.pointer (some ⟨b0, 0, none⟩))) w0 w := hw0 ▸ Ch.refl _ _
 obtain ⟨A0, hA0e⟩ : ∃ A0, A0 = subS Aq (ownsB (.pointer (some ⟨b0, 0, none⟩))) := ⟨_, rfl⟩
 have hA0 : ∀ b o, A0 b o → b < w0.heap.size := fun b o h => hw0 ▸ hA b o (hA0e ▸ h : subS Aq _ b o).1
 have hN : ∀ b o, A0 b o → ¬ (ownsB (.pointer (some ⟨b0, 0, none⟩))) b := fun b o h => (hA0e ▸ h : subS Aq _ b o).2
 have hA00 : AvOK A0 w0 := hA0
 rw [show GPost (subS Aq (ownsB (.pointer (some ⟨b0, 0, none⟩)))) (ownsB (.pointer (some ⟨b0, 0, none⟩))) w = GPost A0 (ownsB (.pointer (some ⟨b0, 0, none⟩))) w0 from by rw [hA0e, hw0]]
 clear hw0
 obtain ⟨A, hAe⟩ : ∃ A, A = Aq := ⟨_, rfl⟩
 have hAA : ∀ b o, A0 b o → A b o := fun b o h => hAe ▸ (hA0e ▸ h : subS Aq _ b o).1
 replace hA : AvOK A w := hAe ▸ hA
 have hO : IniOK [ob (.pointer (some ⟨b0, 0, none⟩)) (.box B0 108 E_spec_l1Cur p0)] A w := hAe ▸ hO0
 clear hA0e hO0
 refine calls_of_HT2 [.tmp 4] Try.func132 Try.ntmps132 (by decide) rfl rfl (Nat.le_of_ble_eq_true rfl) ?_
 intro R hR
 replace h0 : R 0 = .pointer (some ⟨b0, 0, none⟩) := (hR 0 _ rfl).trans h0
 replace h1 : R 1 = .int .i64 p1 := (hR 1 _ rfl).trans h1
 clear hR hAe
 refine HT.seq ?_
 refine HT.text (l := ⟨_, true, .rep eStr A ([] : List UInt8)⟩ :: []) (tl := []) (by kernel_rfl) (by kernel_rfl) (by kernel_rfl) ?_ ?_
 ·exact
   Obls.p (fun R' w' hw hs hd => of_assign ⟨_, rfl, ⟨_, rfl, rfl, by decide⟩⟩) <|
   Obls.nil
 intro R w hw hs hF'
 replace h0 := (hs 0 rfl).trans h0
 replace h1 := (hs 1 rfl).trans h1
 replace hO := hO.fr hw
 replace hA := hA.fr hw.size
 replace hF := hF.tr (hw.ch noB) fun _ h => False.elim h
 clear hs hF' hw
 refine seqR_nil ?_
 refine HT.seq ?_
 refine HT.textR [ob (.pointer (some ⟨b0, 0, none⟩)) (.box B0 108 E_spec_l1Cur p0)] (⟨_, true, [], some (.vec w0.heap.size 5 (eInt .u8) ([] : List Int)), true, fun A => .any⟩ :: ⟨_, true, [1], some (.vec w0.heap.size 5 (eInt .u8) ([] : List Int)), true, fun A => .any⟩ :: []) (by kernel_rfl) (by kernel_rfl) (Wf.mk' (by kernel_rfl) (UAll.cons ust_any (UAll.cons ust_any (UAll.nil))) (by kernel_rfl) (by kernel_rfl)) hO hA ?_ ?_
 ·exact
   OblsR.cons (OblR.made _ rfl rfl rfl rfl fun A' R' w' ho hd => by exact made_build [] (E := eInt .u8) trivial Try.underlying33 Try.sizeOf5 Try.zeroValue5 rfl rfl rfl (Nat.le_trans hF.size ho.ch.size)) <|
   OblsR.cons (OblR.took 1 _ _ rfl rfl rfl rfl rfl fun A' R' w' ho hd u hok hav hin hop hds => by exact took_assign (hop _ _ rfl rfl rfl rfl).symm hok hav) <|
   OblsR.nil
 intro done ρ σ A R w hdn hI
 replace h0 : R 0 = (.pointer (some ⟨b0, 0, none⟩)) := (hI.reg rfl).trans h0
 replace h1 : R 1 = .int .i64 p1 := (hI.reg rfl).trans h1
 have z1 := hI.inivR 0 rfl
 obtain ⟨u2, e_u2⟩ : ∃ u, ρ 2 = u := ⟨_, rfl⟩
 have h5 : R 5 = u2 := (hI.opvR hdn 2 1 rfl rfl rfl rfl rfl).symm.trans e_u2
 replace hAA := hI.lowK hAA hA0 hN (hO.geK (⟨.inr (fun k h => .inr h), trivial⟩))
 replace hF : Ch (ownsB (.pointer (some ⟨b0, 0, none⟩))) w0 w := hF.tr hI.ch (hO.geK (⟨.inr (fun k h => .inr h), trivial⟩))
 replace hO : IniOK [ob (.pointer (some ⟨b0, 0, none⟩)) (.box B0 108 E_spec_l1Cur p0), ob u2 (.vec w0.heap.size 5 (eInt .u8) ([] : List Int))] A w := hI.left hdn [(0, ob (.pointer (some ⟨b0, 0, none⟩)) (.box B0 108 E_spec_l1Cur p0)), (2, ob u2 (.vec w0.heap.size 5 (eInt .u8) ([] : List Int)))] ⟨rfl, rfl, z1, rfl, rfl, ⟨rfl, rfl, e_u2, rfl, rfl, trivial⟩⟩
 replace hA := hI.avok
 clear hI
 refine HT.seq ?_
 refine SG.of ?_
 refine SG.textR [ob (.pointer (some ⟨b0, 0, none⟩)) (.box B0 108 E_spec_l1Cur p0), ob u2 (.vec w0.heap.size 5 (eInt .u8) ([] : List Int))] (⟨_, true, [], none, true, fun A => .raw (.pointer (some ⟨b0, 0, none⟩))⟩ :: []) 1 rfl rfl rfl (by kernel_rfl) (by kernel_rfl) (Wf.mk' (by kernel_rfl) (UAll.cons ust_raw (UAll.nil)) (by kernel_rfl) (by kernel_rfl)) hO hA (trivial) ?_ ?_
 ·exact
   OblsR.p (fun A' R' w' ho hd => of_move ((ho.old 0 rfl).trans h0)) <|
   OblsR.nil
 intro done ρ σ A R w hdn hI
 replace h0 : R 0 = (.pointer (some ⟨b0, 0, none⟩)) := (hI.reg rfl).trans h0
 replace h1 : R 1 = .int .i64 p1 := (hI.reg rfl).trans h1
 replace h5 : R 5 = u2 := (hI.reg rfl).trans h5
 have z3 := hI.inivR 0 rfl
 have z4 := hI.inivR 1 rfl
 have h10 : R 10 = (.pointer (some ⟨b0, 0, none⟩)) := hI.fact hdn (i := 0) rfl rfl rfl
 replace hAA := hI.lowK hAA hA0 hN (hO.geK (⟨.inr (fun k h => .inr h), ⟨.inl rfl, trivial⟩⟩))
 replace hF : Ch (ownsB (.pointer (some ⟨b0, 0, none⟩))) w0 w := hF.tr hI.ch (hO.geK (⟨.inr (fun k h => .inr h), ⟨.inl rfl, trivial⟩⟩))
 replace hO : IniOK [ob (.pointer (some ⟨b0, 0, none⟩)) (.box B0 108 E_spec_l1Cur p0), ob u2 (.vec w0.heap.size 5 (eInt .u8) ([] : List Int))] A w := hI.left hdn [(0, ob (.pointer (some ⟨b0, 0, none⟩)) (.box B0 108 E_spec_l1Cur p0)), (1, ob u2 (.vec w0.heap.size 5 (eInt .u8) ([] : List Int)))] ⟨rfl, rfl, z3, rfl, rfl, ⟨rfl, rfl, z4, rfl, rfl, trivial⟩⟩
 replace hA := hI.avok
 clear hI
 obtain ⟨x5, q6, hr⟩ := cl_some hr
 have hFz : w0.heap.size ≤ w.heap.size := hF.size
 refine SG.op 11 rfl rfl rfl rfl (call_run Try.call64 (M_spec_l1Below_ok (q6 rfl) hA h10 (hO.sub [(0, ob (.pointer (some ⟨b0, 0, none⟩)) (.box B0 108 E_spec_l1Cur p0))] ⟨rfl, rfl, trivial⟩) rfl)) ?_
 rintro v_ w ⟨A, hG1, hv⟩ R hs hd
 have hst := stp_call hA hG1 (hO.ok 0 _ rfl).2
 replace hAA : ∀ b o, A0 b o → A b o := low_callK hAA hA0 hN (hO.geK (⟨.inr (fun k h => .inr h), ⟨.inl rfl, trivial⟩⟩)) 0 rfl hG1
 replace hF : Ch (ownsB (.pointer (some ⟨b0, 0, none⟩))) w0 w := hF.tr hG1.ch (fun k hk => (hO.geK (⟨.inr (fun k h => .inr h), ⟨.inl rfl, trivial⟩⟩)) k ⟨0, _, rfl, hk⟩)
 replace hO := GPost.next hO hA 0 rfl hG1
 replace hA := hG1.avok
 replace hO : IniOK [ob (.pointer (some ⟨b0, 0, none⟩)) (.box B0 108 E_spec_l1Cur x5.2), ob u2 (.vec w0.heap.size 5 (eInt .u8) ([] : List Int))] A w := hO
 replace h0 := (hs 0 rfl).trans h0
 replace h1 := (hs 1 rfl).trans h1
 replace h5 := (hs 5 rfl).trans h5
 replace h10 := (hs 10 rfl).trans h10
 have h11 : R 11 = .int .i64 x5.1 := hd.trans hv
 clear hFz hG1 hv hs hd
 refine SG.textR [ob (.pointer (some ⟨b0, 0, none⟩)) (.box B0 108 E_spec_l1Cur x5.2), ob u2 (.vec w0.heap.size 5 (eInt .u8) ([] : List Int))] (⟨_, true, [], none, true, fun A => .raw (.pointer (some ⟨b0, 0, none⟩))⟩ :: ⟨_, true, [], none, true, fun A => .raw (.int .i64 x5.1)⟩ :: ⟨_, true, [], none, true, fun A => .raw (.int .i64 x5.1)⟩ :: []) 3 rfl rfl rfl (by kernel_rfl) (by kernel_rfl) (Wf.mk' (by kernel_rfl) (UAll.cons ust_raw (UAll.cons ust_raw (UAll.cons ust_raw (UAll.nil)))) (by kernel_rfl) (by kernel_rfl)) hO hA (⟨⟨rfl, rfl, rfl, h10⟩, ⟨⟨rfl, rfl, rfl, h11⟩, trivial⟩⟩) ?_ ?_
 ·exact
   OblsR.p (fun A' R' w' ho hd => by have a0 : R' 11 = .int .i64 x5.1 := hd.g 0 rfl; exact of_assign a0) <|
   OblsR.nil
 intro done ρ σ A R w hdn hI
 replace h0 : R 0 = (.pointer (some ⟨b0, 0, none⟩)) := (hI.reg rfl).trans h0
 replace h1 : R 1 = .int .i64 p1 := (hI.reg rfl).trans h1
 replace h5 : R 5 = u2 := (hI.reg rfl).trans h5
 have z7 := hI.inivR 0 rfl
 have z8 := hI.inivR 1 rfl
 have h6 : R 6 = .int .i64 x5.1 := hI.fact hdn (i := 2) rfl rfl rfl
 replace hAA := hI.lowK hAA hA0 hN (hO.geK (⟨.inr (fun k h => .inr h), ⟨.inl rfl, trivial⟩⟩))
 replace hF : Ch (ownsB (.pointer (some ⟨b0, 0, none⟩))) w0 w := hF.tr hI.ch (hO.geK (⟨.inr (fun k h => .inr h), ⟨.inl rfl, trivial⟩⟩))
 replace hO : IniOK [ob (.pointer (some ⟨b0, 0, none⟩)) (.box B0 108 E_spec_l1Cur x5.2), ob u2 (.vec w0.heap.size 5 (eInt .u8) ([] : List Int))] A w := hI.left hdn [(0, ob (.pointer (some ⟨b0, 0, none⟩)) (.box B0 108 E_spec_l1Cur x5.2)), (1, ob u2 (.vec w0.heap.size 5 (eInt .u8) ([] : List Int)))] ⟨rfl, rfl, z7, rfl, rfl, ⟨rfl, rfl, z8, rfl, rfl, trivial⟩⟩
 replace hA := hI.avok
 clear hI
 refine SG.fin rfl ?_
 refine HT.seq ?_
 refine HT.seq ?_
 refine SG.of ?_
 obtain ⟨e9, hr⟩ := ck_some hr
 refine SG.textR [ob (.pointer (some ⟨b0, 0, none⟩)) (.box B0 108 E_spec_l1Cur x5.2), ob u2 (.vec w0.heap.size 5 (eInt .u8) ([] : List Int))] (⟨_, true, [], none, true, fun A => .raw (.pointer (some ⟨b0, 0, none⟩))⟩ :: ⟨_, true, [], none, true, fun A => .raw (.int .i64 p1)⟩ :: ⟨_, true, [], none, true, fun A => .raw (.int .i64 (p1 + (1 : Int)))⟩ :: []) 3 rfl rfl rfl (by kernel_rfl) (by kernel_rfl) (Wf.mk' (by kernel_rfl) (UAll.cons ust_raw (UAll.cons ust_raw (UAll.cons ust_raw (UAll.nil)))) (by kernel_rfl) (by kernel_rfl)) hO hA (trivial) ?_ ?_
 ·exact
   OblsR.p (fun A' R' w' ho hd => of_move ((ho.old 0 rfl).trans h0)) <|
   OblsR.p (fun A' R' w' ho hd => of_move ((ho.old 1 rfl).trans h1)) <|
   OblsR.p (fun A' R' w' ho hd => by have a0 : R' 13 = .int .i64 p1 := hd.g 0 rfl; exact of_add a0 rfl e9) <|
   OblsR.nil
 intro done ρ σ A R w hdn hI
 replace h0 : R 0 = (.pointer (some ⟨b0, 0, none⟩)) := (hI.reg rfl).trans h0
 replace h5 : R 5 = u2 := (hI.reg rfl).trans h5
 replace h6 : R 6 = .int .i64 x5.1 := (hI.reg rfl).trans h6
 have z10 := hI.inivR 0 rfl
 have z11 := hI.inivR 1 rfl
 have h12 : R 12 = (.pointer (some ⟨b0, 0, none⟩)) := hI.fact hdn (i := 0) rfl rfl rfl
 have h14 : R 14 = .int .i64 (p1 + (1 : Int)) := hI.fact hdn (i := 2) rfl rfl rfl
 replace hAA := hI.lowK hAA hA0 hN (hO.geK (⟨.inr (fun k h => .inr h), ⟨.inl rfl, trivial⟩⟩))
 replace hF : Ch (ownsB (.pointer (some ⟨b0, 0, none⟩))) w0 w := hF.tr hI.ch (hO.geK (⟨.inr (fun k h => .inr h), ⟨.inl rfl, trivial⟩⟩))
 replace hO : IniOK [ob (.pointer (some ⟨b0, 0, none⟩)) (.box B0 108 E_spec_l1Cur x5.2), ob u2 (.vec w0.heap.size 5 (eInt .u8) ([] : List Int))] A w := hI.left hdn [(0, ob (.pointer (some ⟨b0, 0, none⟩)) (.box B0 108 E_spec_l1Cur x5.2)), (1, ob u2 (.vec w0.heap.size 5 (eInt .u8) ([] : List Int)))] ⟨rfl, rfl, z10, rfl, rfl, ⟨rfl, rfl, z11, rfl, rfl, trivial⟩⟩
 replace hA := hI.avok
 clear hI
 obtain ⟨x12, q13, hr⟩ := cl_some hr
 have hFz : w0.heap.size ≤ w.heap.size := hF.size
 refine SG.op 15 rfl rfl rfl rfl (call_run Try.call64 (M_spec_l1Below_ok (q13 rfl) hA h12 (hO.sub [(0, ob (.pointer (some ⟨b0, 0, none⟩)) (.box B0 108 E_spec_l1Cur x5.2))] ⟨rfl, rfl, trivial⟩) h14)) ?_
 rintro v_ w ⟨A, hG1, hv⟩ R hs hd
 have hst := stp_call hA hG1 (hO.ok 0 _ rfl).2
 replace hAA : ∀ b o, A0 b o → A b o := low_callK hAA hA0 hN (hO.geK (⟨.inr (fun k h => .inr h), ⟨.inl rfl, trivial⟩⟩)) 0 rfl hG1
 replace hF : Ch (ownsB (.pointer (some ⟨b0, 0, none⟩))) w0 w := hF.tr hG1.ch (fun k hk => (hO.geK (⟨.inr (fun k h => .inr h), ⟨.inl rfl, trivial⟩⟩)) k ⟨0, _, rfl, hk⟩)
 replace hO := GPost.next hO hA 0 rfl hG1
 replace hA := hG1.avok
 replace hO : IniOK [ob (.pointer (some ⟨b0, 0, none⟩)) (.box B0 108 E_spec_l1Cur x12.2), ob u2 (.vec w0.heap.size 5 (eInt .u8) ([] : List Int))] A w := hO
 replace h0 := (hs 0 rfl).trans h0
 replace h5 := (hs 5 rfl).trans h5
 replace h6 := (hs 6 rfl).trans h6
 replace h12 := (hs 12 rfl).trans h12
 replace h14 := (hs 14 rfl).trans h14
 have h15 : R 15 = .int .i64 x12.1 := hd.trans hv
 clear hFz hG1 hv hs hd
 refine SG.textR [ob (.pointer (some ⟨b0, 0, none⟩)) (.box B0 108 E_spec_l1Cur x12.2), ob u2 (.vec w0.heap.size 5 (eInt .u8) ([] : List Int))] (⟨_, true, [], none, true, fun A => .raw (.pointer (some ⟨b0, 0, none⟩))⟩ :: ⟨_, true, [], none, true, fun A => .any⟩ :: ⟨_, true, [], none, true, fun A => .raw (.int .i64 (p1 + (1 : Int)))⟩ :: ⟨_, true, [], none, true, fun A => .raw (.int .i64 x12.1)⟩ :: ⟨_, true, [], none, true, fun A => .raw (.int .i64 x12.1)⟩ :: []) 5 rfl rfl rfl (by kernel_rfl) (by kernel_rfl) (Wf.mk' (by kernel_rfl) (UAll.cons ust_raw (UAll.cons ust_any (UAll.cons ust_raw (UAll.cons ust_raw (UAll.cons ust_raw (UAll.nil)))))) (by kernel_rfl) (by kernel_rfl)) hO hA (⟨⟨rfl, rfl, rfl, h12⟩, ⟨⟨rfl, rfl, rfl, trivial⟩, ⟨⟨rfl, rfl, rfl, h14⟩, ⟨⟨rfl, rfl, rfl, h15⟩, trivial⟩⟩⟩⟩) ?_ ?_
 ·exact
   OblsR.p (fun A' R' w' ho hd => by have a0 : R' 15 = .int .i64 x12.1 := hd.g 0 rfl; exact of_assign a0) <|
   OblsR.nil
 intro done ρ σ A R w hdn hI
 replace h0 : R 0 = (.pointer (some ⟨b0, 0, none⟩)) := (hI.reg rfl).trans h0
 replace h5 : R 5 = u2 := (hI.reg rfl).trans h5
 replace h6 : R 6 = .int .i64 x5.1 := (hI.reg rfl).trans h6
 have z14 := hI.inivR 0 rfl
 have z15 := hI.inivR 1 rfl
 have h7 : R 7 = .int .i64 x12.1 := hI.fact hdn (i := 4) rfl rfl rfl
 replace hAA := hI.lowK hAA hA0 hN (hO.geK (⟨.inr (fun k h => .inr h), ⟨.inl rfl, trivial⟩⟩))
 replace hF : Ch (ownsB (.pointer (some ⟨b0, 0, none⟩))) w0 w := hF.tr hI.ch (hO.geK (⟨.inr (fun k h => .inr h), ⟨.inl rfl, trivial⟩⟩))
 replace hO : IniOK [ob (.pointer (some ⟨b0, 0, none⟩)) (.box B0 108 E_spec_l1Cur x12.2), ob u2 (.vec w0.heap.size 5 (eInt .u8) ([] : List Int))] A w := hI.left hdn [(0, ob (.pointer (some ⟨b0, 0, none⟩)) (.box B0 108 E_spec_l1Cur x12.2)), (1, ob u2 (.vec w0.heap.size 5 (eInt .u8) ([] : List Int)))] ⟨rfl, rfl, z14, rfl, rfl, ⟨rfl, rfl, z15, rfl, rfl, trivial⟩⟩
 replace hA := hI.avok
 clear hI
 refine SG.fin rfl ?_
 obtain ⟨rl16, q17, hr⟩ := cl_some hr
 replace q17 := q17 rfl
 refine HT.cut0 (fun R w => ∃ A : Av, ∃ (s18 : T_spec_l1Cur × (List Int)) (uo_u2 : Value), rl16 = s18 ∧ AvOK A w ∧ Ch (ownsB (.pointer (some ⟨b0, 0, none⟩))) w0 w ∧ (∀ b o, A0 b o → A b o) ∧ IniOK [ob (.pointer (some ⟨b0, 0, none⟩)) (.box B0 108 E_spec_l1Cur s18.1), ob uo_u2 (.vec w0.heap.size 5 (eInt .u8) s18.2)] A w ∧ R 5 = uo_u2) ?_ ?_
 ·refine HT.block ?_
  refine HT.loop (fun k R w => ∃ A : Av, ∃ (y19 : Int) (y20 : T_spec_l1Cur) (y21 : List Int) (ul_u2 : Value), M_spec_l1Text_L0 fu x5 k y19 y20 y21 = some rl16 ∧ AvOK A w ∧ Ch (ownsB (.pointer (some ⟨b0, 0, none⟩))) w0 w ∧ (∀ b o, A0 b o → A b o) ∧ IniOK [ob (.pointer (some ⟨b0, 0, none⟩)) (.box B0 108 E_spec_l1Cur y20), ob ul_u2 (.vec w0.heap.size 5 (eInt .u8) y21)] A w ∧ R 0 = (.pointer (some ⟨b0, 0, none⟩)) ∧ R 5 = ul_u2 ∧ R 6 = .int .i64 x5.1 ∧ R 7 = .int .i64 y19) fu ⟨_, _, _, _, u2, q17, hA, hF, hAA, hO, h0, h5, h6, h7⟩ ?_
  have hr0 := hr; clear hr q17
  rintro k R w ⟨A, y19, y20, y21, ul_u2, hr, hA, hF, hAA, hO, h0, h5, h6, h7⟩
  rcases k with _ | k
  ·cases (show none = some _ from hr)
  rw [M_spec_l1Text_L0] at hr
  refine HT.seq ?_
  refine HT.seq ?_
  refine HT.text (l := ⟨_, true, .raw (.int .i64 y19)⟩ :: ⟨_, true, .raw (.bool (decide ((0 : Int) < y19)))⟩ :: []) (tl := []) (by kernel_rfl) (by kernel_rfl) (by kernel_rfl) ?_ ?_
  ·exact
    Obls.p (fun R' w' hw hs hd => of_move ((hs 7 rfl).trans h7)) <|
    Obls.p (fun R' w' hw hs hd => by have a0 : R' 16 = .int .i64 y19 := hd.g 0 rfl; exact of_gtr a0 rfl) <|
    Obls.nil
  intro R w hw hs hF'
  replace h0 := (hs 0 rfl).trans h0
  replace h5 := (hs 5 rfl).trans h5
  replace h6 := (hs 6 rfl).trans h6
  replace h7 := (hs 7 rfl).trans h7
  have h17 : R 17 = .bool (decide ((0 : Int) < y19)) := hF' 1 _ _ rfl rfl rfl
  replace hO := hO.fr hw
  replace hA := hA.fr hw.size
  replace hF := hF.tr (hw.ch noB) fun _ h => False.elim h
  clear hs hF' hw
  refine seqR_nil ?_
  refine HT.cond (decide ((0 : Int) < y19)) h17 (fun c22 => ?_) (fun c22 => ?_)
  ·have hr := cnd_t c22 hr
   refine HT.skip ?_
   refine HT.seq ?_
   refine HT.block ?_
   refine HT.seq ?_
   refine SG.of ?_
   refine SG.textR [ob (.pointer (some ⟨b0, 0, none⟩)) (.box B0 108 E_spec_l1Cur y20), ob ul_u2 (.vec w0.heap.size 5 (eInt .u8) y21)] (⟨_, true, [], none, true, fun A => .raw (.pointer (some ⟨b0, 0, none⟩))⟩ :: []) 1 rfl rfl rfl (by kernel_rfl) (by kernel_rfl) (Wf.mk' (by kernel_rfl) (UAll.cons ust_raw (UAll.nil)) (by kernel_rfl) (by kernel_rfl)) hO hA (trivial) ?_ ?_
   ·exact
     OblsR.p (fun A' R' w' ho hd => of_move ((ho.old 0 rfl).trans h0)) <|
     OblsR.nil
   intro done ρ σ A R w hdn hI
   replace h0 : R 0 = (.pointer (some ⟨b0, 0, none⟩)) := (hI.reg rfl).trans h0
   replace h5 : R 5 = ul_u2 := (hI.reg rfl).trans h5
   replace h6 : R 6 = .int .i64 x5.1 := (hI.reg rfl).trans h6
   replace h7 : R 7 = .int .i64 y19 := (hI.reg rfl).trans h7
   have z23 := hI.inivR 0 rfl
   have z24 := hI.inivR 1 rfl
   have h20 : R 20 = (.pointer (some ⟨b0, 0, none⟩)) := hI.fact hdn (i := 0) rfl rfl rfl
   replace hAA := hI.lowK hAA hA0 hN (hO.geK (⟨.inr (fun k h => .inr h), ⟨.inl rfl, trivial⟩⟩))
   replace hF : Ch (ownsB (.pointer (some ⟨b0, 0, none⟩))) w0 w := hF.tr hI.ch (hO.geK (⟨.inr (fun k h => .inr h), ⟨.inl rfl, trivial⟩⟩))
   replace hO : IniOK [ob (.pointer (some ⟨b0, 0, none⟩)) (.box B0 108 E_spec_l1Cur y20), ob ul_u2 (.vec w0.heap.size 5 (eInt .u8) y21)] A w := hI.left hdn [(0, ob (.pointer (some ⟨b0, 0, none⟩)) (.box B0 108 E_spec_l1Cur y20)), (1, ob ul_u2 (.vec w0.heap.size 5 (eInt .u8) y21))] ⟨rfl, rfl, z23, rfl, rfl, ⟨rfl, rfl, z24, rfl, rfl, trivial⟩⟩
   replace hA := hI.avok
   clear hI
   obtain ⟨x25, q26, hr⟩ := cl_some hr
   have hFz : w0.heap.size ≤ w.heap.size := hF.size
   refine SG.op 21 rfl rfl rfl rfl (call_run Try.call101 (M_spec_l1Byte_ok (q26 rfl) hA h20 (hO.sub [(0, ob (.pointer (some ⟨b0, 0, none⟩)) (.box B0 108 E_spec_l1Cur y20))] ⟨rfl, rfl, trivial⟩))) ?_
   rintro v_ w ⟨A, hG1, hv⟩ R hs hd
   have hst := stp_call hA hG1 (hO.ok 0 _ rfl).2
   replace hAA : ∀ b o, A0 b o → A b o := low_callK hAA hA0 hN (hO.geK (⟨.inr (fun k h => .inr h), ⟨.inl rfl, trivial⟩⟩)) 0 rfl hG1
   replace hF : Ch (ownsB (.pointer (some ⟨b0, 0, none⟩))) w0 w := hF.tr hG1.ch (fun k hk => (hO.geK (⟨.inr (fun k h => .inr h), ⟨.inl rfl, trivial⟩⟩)) k ⟨0, _, rfl, hk⟩)
   replace hO := GPost.next hO hA 0 rfl hG1
   replace hA := hG1.avok
   replace hO : IniOK [ob (.pointer (some ⟨b0, 0, none⟩)) (.box B0 108 E_spec_l1Cur x25.2), ob ul_u2 (.vec w0.heap.size 5 (eInt .u8) y21)] A w := hO
   replace h0 := (hs 0 rfl).trans h0
   replace h5 := (hs 5 rfl).trans h5
   replace h6 := (hs 6 rfl).trans h6
   replace h7 := (hs 7 rfl).trans h7
   replace h20 := (hs 20 rfl).trans h20
   have h21 : R 21 = .int .i64 x25.1 := hd.trans hv
   clear hFz hG1 hv hs hd
   refine SG.textR [ob (.pointer (some ⟨b0, 0, none⟩)) (.box B0 108 E_spec_l1Cur x25.2), ob ul_u2 (.vec w0.heap.size 5 (eInt .u8) y21)] (⟨_, true, [], none, true, fun A => .raw (.pointer (some ⟨b0, 0, none⟩))⟩ :: ⟨_, true, [], none, true, fun A => .raw (.int .i64 x25.1)⟩ :: ⟨_, true, [], none, true, fun A => .raw (.int .i64 x25.1)⟩ :: []) 3 rfl rfl rfl (by kernel_rfl) (by kernel_rfl) (Wf.mk' (by kernel_rfl) (UAll.cons ust_raw (UAll.cons ust_raw (UAll.cons ust_raw (UAll.nil)))) (by kernel_rfl) (by kernel_rfl)) hO hA (⟨⟨rfl, rfl, rfl, h20⟩, ⟨⟨rfl, rfl, rfl, h21⟩, trivial⟩⟩) ?_ ?_
   ·exact
     OblsR.p (fun A' R' w' ho hd => by have a0 : R' 21 = .int .i64 x25.1 := hd.g 0 rfl; exact of_assign a0) <|
     OblsR.nil
   intro done ρ σ A R w hdn hI
   replace h0 : R 0 = (.pointer (some ⟨b0, 0, none⟩)) := (hI.reg rfl).trans h0
   replace h5 : R 5 = ul_u2 := (hI.reg rfl).trans h5
   replace h6 : R 6 = .int .i64 x5.1 := (hI.reg rfl).trans h6
   replace h7 : R 7 = .int .i64 y19 := (hI.reg rfl).trans h7
   have z27 := hI.inivR 0 rfl
   have z28 := hI.inivR 1 rfl
   have h8 : R 8 = .int .i64 x25.1 := hI.fact hdn (i := 2) rfl rfl rfl
   replace hAA := hI.lowK hAA hA0 hN (hO.geK (⟨.inr (fun k h => .inr h), ⟨.inl rfl, trivial⟩⟩))
   replace hF : Ch (ownsB (.pointer (some ⟨b0, 0, none⟩))) w0 w := hF.tr hI.ch (hO.geK (⟨.inr (fun k h => .inr h), ⟨.inl rfl, trivial⟩⟩))
   replace hO : IniOK [ob (.pointer (some ⟨b0, 0, none⟩)) (.box B0 108 E_spec_l1Cur x25.2), ob ul_u2 (.vec w0.heap.size 5 (eInt .u8) y21)] A w := hI.left hdn [(0, ob (.pointer (some ⟨b0, 0, none⟩)) (.box B0 108 E_spec_l1Cur x25.2)), (1, ob ul_u2 (.vec w0.heap.size 5 (eInt .u8) y21))] ⟨rfl, rfl, z27, rfl, rfl, ⟨rfl, rfl, z28, rfl, rfl, trivial⟩⟩
   replace hA := hI.avok
   clear hI
   refine SG.fin rfl ?_
   refine HT.seq ?_
   refine HT.seq ?_
   refine HT.text (l := ⟨_, true, .raw (.int .i64 x5.1)⟩ :: ⟨_, true, .raw (.bool (x5.1 == (1 : Int)))⟩ :: []) (tl := []) (by kernel_rfl) (by kernel_rfl) (by kernel_rfl) ?_ ?_
   ·exact
     Obls.p (fun R' w' hw hs hd => of_move ((hs 6 rfl).trans h6)) <|
     Obls.p (fun R' w' hw hs hd => by have a0 : R' 22 = .int .i64 x5.1 := hd.g 0 rfl; exact of_eql a0 rfl) <|
     Obls.nil
   intro R w hw hs hF'
   replace h0 := (hs 0 rfl).trans h0
   replace h5 := (hs 5 rfl).trans h5
   replace h6 := (hs 6 rfl).trans h6
   replace h7 := (hs 7 rfl).trans h7
   replace h8 := (hs 8 rfl).trans h8
   have h23 : R 23 = .bool (x5.1 == (1 : Int)) := hF' 1 _ _ rfl rfl rfl
   replace hO := hO.fr hw
   replace hA := hA.fr hw.size
   replace hF := hF.tr (hw.ch noB) fun _ h => False.elim h
   clear hs hF' hw
   refine seqR_nil ?_
   refine HT.cond (x5.1 == (1 : Int)) h23 (fun c29 => ?_) (fun c29 => ?_)
   ·have hr := cnd_t c29 hr
    obtain ⟨e30, hr⟩ := ck_some hr
    refine HT.text (l := ⟨_, true, .raw (.int .i64 x25.1)⟩ :: ⟨_, true, .raw (.int .i64 (x25.1.tmod (2 : Int)))⟩ :: ⟨_, true, .raw (.int .i64 (x25.1.tmod (2 : Int)))⟩ :: []) (tl := []) (by kernel_rfl) (by kernel_rfl) (by kernel_rfl) ?_ ?_
    ·exact
      Obls.p (fun R' w' hw hs hd => of_move ((hs 8 rfl).trans h8)) <|
      Obls.p (fun R' w' hw hs hd => by have a0 : R' 24 = .int .i64 x25.1 := hd.g 0 rfl; exact of_rem a0 rfl e30) <|
      Obls.p (fun R' w' hw hs hd => by have a0 : R' 25 = .int .i64 (x25.1.tmod (2 : Int)) := hd.g 0 rfl; exact of_assign a0) <|
      Obls.nil
    intro R w hw hs hF'
    replace h0 := (hs 0 rfl).trans h0
    replace h5 := (hs 5 rfl).trans h5
    replace h6 := (hs 6 rfl).trans h6
    replace h7 := (hs 7 rfl).trans h7
    have h8 : R 8 = .int .i64 (x25.1.tmod (2 : Int)) := hF' 2 _ _ rfl rfl rfl
    replace hO := hO.fr hw
    replace hA := hA.fr hw.size
    replace hF := hF.tr (hw.ch noB) fun _ h => False.elim h
    clear hs hF' hw
    refine seqR_nil ?_
    refine HT.seq ?_
    refine HT.seq ?_
    refine HT.text (l := ⟨_, true, .raw (.int .i64 x5.1)⟩ :: ⟨_, true, .raw (.bool (x5.1 == (2 : Int)))⟩ :: []) (tl := []) (by kernel_rfl) (by kernel_rfl) (by kernel_rfl) ?_ ?_
    ·exact
      Obls.p (fun R' w' hw hs hd => of_move ((hs 6 rfl).trans h6)) <|
      Obls.p (fun R' w' hw hs hd => by have a0 : R' 26 = .int .i64 x5.1 := hd.g 0 rfl; exact of_eql a0 rfl) <|
      Obls.nil
    intro R w hw hs hF'
    replace h0 := (hs 0 rfl).trans h0
    replace h5 := (hs 5 rfl).trans h5
    replace h6 := (hs 6 rfl).trans h6
    replace h7 := (hs 7 rfl).trans h7
    replace h8 := (hs 8 rfl).trans h8
    have h27 : R 27 = .bool (x5.1 == (2 : Int)) := hF' 1 _ _ rfl rfl rfl
    replace hO := hO.fr hw
    replace hA := hA.fr hw.size
    replace hF := hF.tr (hw.ch noB) fun _ h => False.elim h
    clear hs hF' hw
    refine seqR_nil ?_
    refine HT.cond (x5.1 == (2 : Int)) h27 (fun c31 => ?_) (fun c31 => ?_)
    ·have hr := cnd_t c31 hr
     obtain ⟨e32, hr⟩ := ck_some hr
     obtain ⟨e33, hr⟩ := ck_some hr
     refine HT.text (l := ⟨_, true, .raw (.int .i64 (x25.1.tmod (2 : Int)))⟩ :: ⟨_, true, .raw (.int .i64 ((x25.1.tmod (2 : Int)).tmod (4 : Int)))⟩ :: ⟨_, true, .raw (.int .i64 ((97 : Int) + ((x25.1.tmod (2 : Int)).tmod (4 : Int))))⟩ :: ⟨_, true, .raw (.int .i64 ((97 : Int) + ((x25.1.tmod (2 : Int)).tmod (4 : Int))))⟩ :: []) (tl := []) (by kernel_rfl) (by kernel_rfl) (by kernel_rfl) ?_ ?_
     ·exact
       Obls.p (fun R' w' hw hs hd => of_move ((hs 8 rfl).trans h8)) <|
       Obls.p (fun R' w' hw hs hd => by have a0 : R' 28 = .int .i64 (x25.1.tmod (2 : Int)) := hd.g 0 rfl; exact of_rem a0 rfl e32) <|
       Obls.p (fun R' w' hw hs hd => by have a1 : R' 29 = .int .i64 ((x25.1.tmod (2 : Int)).tmod (4 : Int)) := hd.g 0 rfl; exact of_add rfl a1 e33) <|
       Obls.p (fun R' w' hw hs hd => by have a0 : R' 30 = .int .i64 ((97 : Int) + ((x25.1.tmod (2 : Int)).tmod (4 : Int))) := hd.g 0 rfl; exact of_assign a0) <|
       Obls.nil
     intro R w hw hs hF'
     replace h0 := (hs 0 rfl).trans h0
     replace h5 := (hs 5 rfl).trans h5
     replace h6 := (hs 6 rfl).trans h6
     replace h7 := (hs 7 rfl).trans h7
     have h8 : R 8 = .int .i64 ((97 : Int) + ((x25.1.tmod (2 : Int)).tmod (4 : Int))) := hF' 3 _ _ rfl rfl rfl
     replace hO := hO.fr hw
     replace hA := hA.fr hw.size
     replace hF := hF.tr (hw.ch noB) fun _ h => False.elim h
     clear hs hF' hw
     refine seqR_nil ?_
     obtain ⟨e34, hr⟩ := ck_some hr
     refine HT.textR [ob (.pointer (some ⟨b0, 0, none⟩)) (.box B0 108 E_spec_l1Cur x25.2), ob ul_u2 (.vec w0.heap.size 5 (eInt .u8) y21)] (⟨_, true, [], none, true, fun A => .raw ul_u2⟩ :: ⟨_, true, [], none, true, fun A => .raw (.int .i64 ((97 : Int) + ((x25.1.tmod (2 : Int)).tmod (4 : Int))))⟩ :: ⟨_, true, [], none, true, fun A => .raw (.int .u8 (IntKind.u8.wrap ((97 : Int) + ((x25.1.tmod (2 : Int)).tmod (4 : Int)))))⟩ :: ⟨_, true, [], none, true, fun A => .rep (eSl (eInt .u8)) A ([(IntKind.u8.wrap ((97 : Int) + ((x25.1.tmod (2 : Int)).tmod (4 : Int))))] : List Int)⟩ :: ⟨_, true, [1], some (.vec w0.heap.size 5 (eInt .u8) (y21 ++ ([(IntKind.u8.wrap ((97 : Int) + ((x25.1.tmod (2 : Int)).tmod (4 : Int))))] : List Int))), true, fun A => .any⟩ :: ⟨_, true, [6], some (.vec w0.heap.size 5 (eInt .u8) (y21 ++ ([(IntKind.u8.wrap ((97 : Int) + ((x25.1.tmod (2 : Int)).tmod (4 : Int))))] : List Int))), true, fun A => .any⟩ :: []) (by kernel_rfl) (by kernel_rfl) (Wf.mk' (by kernel_rfl) (UAll.cons ust_raw (UAll.cons ust_raw (UAll.cons ust_raw (UAll.cons ust_rep (UAll.cons ust_any (UAll.cons ust_any (UAll.nil))))))) (by kernel_rfl) (by kernel_rfl)) hO hA ?_ ?_
     ·exact
       OblsR.p (fun A' R' w' ho hd => of_move ((ho.old 5 rfl).trans h5)) <|
       OblsR.p (fun A' R' w' ho hd => of_move ((ho.old 8 rfl).trans h8)) <|
       OblsR.p (fun A' R' w' ho hd => by have a0 : R' 32 = .int .i64 ((97 : Int) + ((x25.1.tmod (2 : Int)).tmod (4 : Int))) := hd.g 0 rfl; exact of_conv_int a0 Try.underlying3 Try.underlying5) <|
       OblsR.p (fun A' R' w' ho hd => by have a0 : R' 33 = .int .u8 (IntKind.u8.wrap ((97 : Int) + ((x25.1.tmod (2 : Int)).tmod (4 : Int)))) := hd.g 0 rfl; exact of_build [_] (E := eInt .u8) ⟨(rep_int.eq a0), trivial⟩ Try.underlying33 Try.sizeOf5 Try.zeroValue5 rfl rfl rfl ho.av) <|
       OblsR.cons (OblR.took 1 _ _ rfl rfl rfl rfl rfl fun A' R' w' ho hd u hok hav hin hop hds => by have a0 : R' 31 = ul_u2 := hd.g 0 rfl; have a1 : Rep (eSl (eInt .u8)) A' w' (R' 34) ([(IntKind.u8.wrap ((97 : Int) + ((x25.1.tmod (2 : Int)).tmod (4 : Int))))] : List Int) := hd.g 1 rfl; exact took_append (a0.trans (hin _ rfl).symm) hok hav (Nat.le_trans hF.size ho.ch.size) a1 Try.underlying33 el_5 e34) <|
       OblsR.cons (OblR.took 6 _ _ rfl rfl rfl rfl rfl fun A' R' w' ho hd u hok hav hin hop hds => by exact took_assign (hop _ _ rfl rfl rfl rfl).symm hok hav) <|
       OblsR.nil
     intro done ρ σ A R w hdn hI
     replace h0 : R 0 = (.pointer (some ⟨b0, 0, none⟩)) := (hI.reg rfl).trans h0
     replace h6 : R 6 = .int .i64 x5.1 := (hI.reg rfl).trans h6
     replace h7 : R 7 = .int .i64 y19 := (hI.reg rfl).trans h7
     have z35 := hI.inivR 0 rfl
     obtain ⟨u36, e_u36⟩ : ∃ u, ρ 7 = u := ⟨_, rfl⟩
     have h5 : R 5 = u36 := (hI.opvR hdn 7 5 rfl rfl rfl rfl rfl).symm.trans e_u36
     replace hAA := hI.lowK hAA hA0 hN (hO.geK (⟨.inr (fun k h => .inr h), ⟨.inl rfl, trivial⟩⟩))
     replace hF : Ch (ownsB (.pointer (some ⟨b0, 0, none⟩))) w0 w := hF.tr hI.ch (hO.geK (⟨.inr (fun k h => .inr h), ⟨.inl rfl, trivial⟩⟩))
     replace hO : IniOK [ob (.pointer (some ⟨b0, 0, none⟩)) (.box B0 108 E_spec_l1Cur x25.2), ob u36 (.vec w0.heap.size 5 (eInt .u8) (y21 ++ ([(IntKind.u8.wrap ((97 : Int) + ((x25.1.tmod (2 : Int)).tmod (4 : Int))))] : List Int)))] A w := hI.left hdn [(0, ob (.pointer (some ⟨b0, 0, none⟩)) (.box B0 108 E_spec_l1Cur x25.2)), (7, ob u36 (.vec w0.heap.size 5 (eInt .u8) (y21 ++ ([(IntKind.u8.wrap ((97 : Int) + ((x25.1.tmod (2 : Int)).tmod (4 : Int))))] : List Int))))] ⟨rfl, rfl, z35, rfl, rfl, ⟨rfl, rfl, e_u36, rfl, rfl, trivial⟩⟩
     replace hA := hI.avok
     clear hI
     obtain ⟨e37, hr⟩ := ck_some hr
     refine HT.text (l := ⟨_, true, .raw (.int .i64 y19)⟩ :: ⟨_, true, .raw (.int .i64 (y19 - (1 : Int)))⟩ :: ⟨_, true, .raw (.int .i64 (y19 - (1 : Int)))⟩ :: []) (tl := []) (by kernel_rfl) (by kernel_rfl) (by kernel_rfl) ?_ ?_
     ·exact
       Obls.p (fun R' w' hw hs hd => of_move ((hs 7 rfl).trans h7)) <|
       Obls.p (fun R' w' hw hs hd => by have a0 : R' 18 = .int .i64 y19 := hd.g 0 rfl; exact of_sub a0 rfl e37) <|
       Obls.p (fun R' w' hw hs hd => by have a0 : R' 19 = .int .i64 (y19 - (1 : Int)) := hd.g 0 rfl; exact of_assign a0) <|
       Obls.nil
     intro R w hw hs hF'
     replace h0 := (hs 0 rfl).trans h0
     replace h5 := (hs 5 rfl).trans h5
     replace h6 := (hs 6 rfl).trans h6
     have h7 : R 7 = .int .i64 (y19 - (1 : Int)) := hF' 2 _ _ rfl rfl rfl
     replace hO := hO.fr hw
     replace hA := hA.fr hw.size
     replace hF := hF.tr (hw.ch noB) fun _ h => False.elim h
     clear hs hF' hw
     refine seqR_nil ?_
     exact Exists.intro k (And.intro (Nat.lt_succ_self k) ⟨_, _, _, _, u36, hr, hA, hF, hAA, hO, h0, h5, h6, h7⟩)
    ·have hr := cnd_f c31 hr
     refine HT.skip ?_
     obtain ⟨e38, hr⟩ := ck_some hr
     refine HT.textR [ob (.pointer (some ⟨b0, 0, none⟩)) (.box B0 108 E_spec_l1Cur x25.2), ob ul_u2 (.vec w0.heap.size 5 (eInt .u8) y21)] (⟨_, true, [], none, true, fun A => .raw ul_u2⟩ :: ⟨_, true, [], none, true, fun A => .raw (.int .i64 (x25.1.tmod (2 : Int)))⟩ :: ⟨_, true, [], none, true, fun A => .raw (.int .u8 (IntKind.u8.wrap (x25.1.tmod (2 : Int))))⟩ :: ⟨_, true, [], none, true, fun A => .rep (eSl (eInt .u8)) A ([(IntKind.u8.wrap (x25.1.tmod (2 : Int)))] : List Int)⟩ :: ⟨_, true, [1], some (.vec w0.heap.size 5 (eInt .u8) (y21 ++ ([(IntKind.u8.wrap (x25.1.tmod (2 : Int)))] : List Int))), true, fun A => .any⟩ :: ⟨_, true, [6], some (.vec w0.heap.size 5 (eInt .u8) (y21 ++ ([(IntKind.u8.wrap (x25.1.tmod (2 : Int)))] : List Int))), true, fun A => .any⟩ :: []) (by kernel_rfl) (by kernel_rfl) (Wf.mk' (by kernel_rfl) (UAll.cons ust_raw (UAll.cons ust_raw (UAll.cons ust_raw (UAll.cons ust_rep (UAll.cons ust_any (UAll.cons ust_any (UAll.nil))))))) (by kernel_rfl) (by kernel_rfl)) hO hA ?_ ?_
     ·exact
       OblsR.p (fun A' R' w' ho hd => of_move ((ho.old 5 rfl).trans h5)) <|
       OblsR.p (fun A' R' w' ho hd => of_move ((ho.old 8 rfl).trans h8)) <|
       OblsR.p (fun A' R' w' ho hd => by have a0 : R' 32 = .int .i64 (x25.1.tmod (2 : Int)) := hd.g 0 rfl; exact of_conv_int a0 Try.underlying3 Try.underlying5) <|
       OblsR.p (fun A' R' w' ho hd => by have a0 : R' 33 = .int .u8 (IntKind.u8.wrap (x25.1.tmod (2 : Int))) := hd.g 0 rfl; exact of_build [_] (E := eInt .u8) ⟨(rep_int.eq a0), trivial⟩ Try.underlying33 Try.sizeOf5 Try.zeroValue5 rfl rfl rfl ho.av) <|
       OblsR.cons (OblR.took 1 _ _ rfl rfl rfl rfl rfl fun A' R' w' ho hd u hok hav hin hop hds => by have a0 : R' 31 = ul_u2 := hd.g 0 rfl; have a1 : Rep (eSl (eInt .u8)) A' w' (R' 34) ([(IntKind.u8.wrap (x25.1.tmod (2 : Int)))] : List Int) := hd.g 1 rfl; exact took_append (a0.trans (hin _ rfl).symm) hok hav (Nat.le_trans hF.size ho.ch.size) a1 Try.underlying33 el_5 e38) <|
       OblsR.cons (OblR.took 6 _ _ rfl rfl rfl rfl rfl fun A' R' w' ho hd u hok hav hin hop hds => by exact took_assign (hop _ _ rfl rfl rfl rfl).symm hok hav) <|
       OblsR.nil
     intro done ρ σ A R w hdn hI
     replace h0 : R 0 = (.pointer (some ⟨b0, 0, none⟩)) := (hI.reg rfl).trans h0
     replace h6 : R 6 = .int .i64 x5.1 := (hI.reg rfl).trans h6
     replace h7 : R 7 = .int .i64 y19 := (hI.reg rfl).trans h7
     have z39 := hI.inivR 0 rfl
     obtain ⟨u40, e_u40⟩ : ∃ u, ρ 7 = u := ⟨_, rfl⟩
     have h5 : R 5 = u40 := (hI.opvR hdn 7 5 rfl rfl rfl rfl rfl).symm.trans e_u40
     replace hAA := hI.lowK hAA hA0 hN (hO.geK (⟨.inr (fun k h => .inr h), ⟨.inl rfl, trivial⟩⟩))
     replace hF : Ch (ownsB (.pointer (some ⟨b0, 0, none⟩))) w0 w := hF.tr hI.ch (hO.geK (⟨.inr (fun k h => .inr h), ⟨.inl rfl, trivial⟩⟩))
     replace hO : IniOK [ob (.pointer (some ⟨b0, 0, none⟩)) (.box B0 108 E_spec_l1Cur x25.2), ob u40 (.vec w0.heap.size 5 (eInt .u8) (y21 ++ ([(IntKind.u8.wrap (x25.1.tmod (2 : Int)))] : List Int)))] A w := hI.left hdn [(0, ob (.pointer (some ⟨b0, 0, none⟩)) (.box B0 108 E_spec_l1Cur x25.2)), (7, ob u40 (.vec w0.heap.size 5 (eInt .u8) (y21 ++ ([(IntKind.u8.wrap (x25.1.tmod (2 : Int)))] : List Int))))] ⟨rfl, rfl, z39, rfl, rfl, ⟨rfl, rfl, e_u40, rfl, rfl, trivial⟩⟩
     replace hA := hI.avok
     clear hI
     obtain ⟨e41, hr⟩ := ck_some hr
     refine HT.text (l := ⟨_, true, .raw (.int .i64 y19)⟩ :: ⟨_, true, .raw (.int .i64 (y19 - (1 : Int)))⟩ :: ⟨_, true, .raw (.int .i64 (y19 - (1 : Int)))⟩ :: []) (tl := []) (by kernel_rfl) (by kernel_rfl) (by kernel_rfl) ?_ ?_
     ·exact
       Obls.p (fun R' w' hw hs hd => of_move ((hs 7 rfl).trans h7)) <|
       Obls.p (fun R' w' hw hs hd => by have a0 : R' 18 = .int .i64 y19 := hd.g 0 rfl; exact of_sub a0 rfl e41) <|
       Obls.p (fun R' w' hw hs hd => by have a0 : R' 19 = .int .i64 (y19 - (1 : Int)) := hd.g 0 rfl; exact of_assign a0) <|
       Obls.nil
     intro R w hw hs hF'
     replace h0 := (hs 0 rfl).trans h0
     replace h5 := (hs 5 rfl).trans h5
     replace h6 := (hs 6 rfl).trans h6
     have h7 : R 7 = .int .i64 (y19 - (1 : Int)) := hF' 2 _ _ rfl rfl rfl
     replace hO := hO.fr hw
     replace hA := hA.fr hw.size
     replace hF := hF.tr (hw.ch noB) fun _ h => False.elim h
     clear hs hF' hw
     refine seqR_nil ?_
     exact Exists.intro k (And.intro (Nat.lt_succ_self k) ⟨_, _, _, _, u40, hr, hA, hF, hAA, hO, h0, h5, h6, h7⟩)
   ·have hr := cnd_f c29 hr
    refine HT.skip ?_
    refine HT.seq ?_
    refine HT.seq ?_
    refine HT.text (l := ⟨_, true, .raw (.int .i64 x5.1)⟩ :: ⟨_, true, .raw (.bool (x5.1 == (2 : Int)))⟩ :: []) (tl := []) (by kernel_rfl) (by kernel_rfl) (by kernel_rfl) ?_ ?_
    ·exact
      Obls.p (fun R' w' hw hs hd => of_move ((hs 6 rfl).trans h6)) <|
      Obls.p (fun R' w' hw hs hd => by have a0 : R' 26 = .int .i64 x5.1 := hd.g 0 rfl; exact of_eql a0 rfl) <|
      Obls.nil
    intro R w hw hs hF'
    replace h0 := (hs 0 rfl).trans h0
    replace h5 := (hs 5 rfl).trans h5
    replace h6 := (hs 6 rfl).trans h6
    replace h7 := (hs 7 rfl).trans h7
    replace h8 := (hs 8 rfl).trans h8
    have h27 : R 27 = .bool (x5.1 == (2 : Int)) := hF' 1 _ _ rfl rfl rfl
    replace hO := hO.fr hw
    replace hA := hA.fr hw.size
    replace hF := hF.tr (hw.ch noB) fun _ h => False.elim h
    clear hs hF' hw
    refine seqR_nil ?_
    refine HT.cond (x5.1 == (2 : Int)) h27 (fun c42 => ?_) (fun c42 => ?_)
    ·have hr := cnd_t c42 hr
     obtain ⟨e43, hr⟩ := ck_some hr
     obtain ⟨e44, hr⟩ := ck_some hr
     refine HT.text (l := ⟨_, true, .raw (.int .i64 x25.1)⟩ :: ⟨_, true, .raw (.int .i64 (x25.1.tmod (4 : Int)))⟩ :: ⟨_, true, .raw (.int .i64 ((97 : Int) + (x25.1.tmod (4 : Int))))⟩ :: ⟨_, true, .raw (.int .i64 ((97 : Int) + (x25.1.tmod (4 : Int))))⟩ :: []) (tl := []) (by kernel_rfl) (by kernel_rfl) (by kernel_rfl) ?_ ?_
     ·exact
       Obls.p (fun R' w' hw hs hd => of_move ((hs 8 rfl).trans h8)) <|
       Obls.p (fun R' w' hw hs hd => by have a0 : R' 28 = .int .i64 x25.1 := hd.g 0 rfl; exact of_rem a0 rfl e43) <|
       Obls.p (fun R' w' hw hs hd => by have a1 : R' 29 = .int .i64 (x25.1.tmod (4 : Int)) := hd.g 0 rfl; exact of_add rfl a1 e44) <|
       Obls.p (fun R' w' hw hs hd => by have a0 : R' 30 = .int .i64 ((97 : Int) + (x25.1.tmod (4 : Int))) := hd.g 0 rfl; exact of_assign a0) <|
       Obls.nil
     intro R w hw hs hF'
     replace h0 := (hs 0 rfl).trans h0
     replace h5 := (hs 5 rfl).trans h5
     replace h6 := (hs 6 rfl).trans h6
     replace h7 := (hs 7 rfl).trans h7
     have h8 : R 8 = .int .i64 ((97 : Int) + (x25.1.tmod (4 : Int))) := hF' 3 _ _ rfl rfl rfl
     replace hO := hO.fr hw
     replace hA := hA.fr hw.size
     replace hF := hF.tr (hw.ch noB) fun _ h => False.elim h
     clear hs hF' hw
     refine seqR_nil ?_
     obtain ⟨e45, hr⟩ := ck_some hr
     refine HT.textR [ob (.pointer (some ⟨b0, 0, none⟩)) (.box B0 108 E_spec_l1Cur x25.2), ob ul_u2 (.vec w0.heap.size 5 (eInt .u8) y21)] (⟨_, true, [], none, true, fun A => .raw ul_u2⟩ :: ⟨_, true, [], none, true, fun A => .raw (.int .i64 ((97 : Int) + (x25.1.tmod (4 : Int))))⟩ :: ⟨_, true, [], none, true, fun A => .raw (.int .u8 (IntKind.u8.wrap ((97 : Int) + (x25.1.tmod (4 : Int)))))⟩ :: ⟨_, true, [], none, true, fun A => .rep (eSl (eInt .u8)) A ([(IntKind.u8.wrap ((97 : Int) + (x25.1.tmod (4 : Int))))] : List Int)⟩ :: ⟨_, true, [1], some (.vec w0.heap.size 5 (eInt .u8) (y21 ++ ([(IntKind.u8.wrap ((97 : Int) + (x25.1.tmod (4 : Int))))] : List Int))), true, fun A => .any⟩ :: ⟨_, true, [6], some (.vec w0.heap.size 5 (eInt .u8) (y21 ++ ([(IntKind.u8.wrap ((97 : Int) + (x25.1.tmod (4 : Int))))] : List Int))), true, fun A => .any⟩ :: []) (by kernel_rfl) (by kernel_rfl) (Wf.mk' (by kernel_rfl) (UAll.cons ust_raw (UAll.cons ust_raw (UAll.cons ust_raw (UAll.cons ust_rep (UAll.cons ust_any (UAll.cons ust_any (UAll.nil))))))) (by kernel_rfl) (by kernel_rfl)) hO hA ?_ ?_
     ·exact
       OblsR.p (fun A' R' w' ho hd => of_move ((ho.old 5 rfl).trans h5)) <|
       OblsR.p (fun A' R' w' ho hd => of_move ((ho.old 8 rfl).trans h8)) <|
       OblsR.p (fun A' R' w' ho hd => by have a0 : R' 32 = .int .i64 ((97 : Int) + (x25.1.tmod (4 : Int))) := hd.g 0 rfl; exact of_conv_int a0 Try.underlying3 Try.underlying5) <|
       OblsR.p (fun A' R' w' ho hd => by have a0 : R' 33 = .int .u8 (IntKind.u8.wrap ((97 : Int) + (x25.1.tmod (4 : Int)))) := hd.g 0 rfl; exact of_build [_] (E := eInt .u8) ⟨(rep_int.eq a0), trivial⟩ Try.underlying33 Try.sizeOf5 Try.zeroValue5 rfl rfl rfl ho.av) <|
       OblsR.cons (OblR.took 1 _ _ rfl rfl rfl rfl rfl fun A' R' w' ho hd u hok hav hin hop hds => by have a0 : R' 31 = ul_u2 := hd.g 0 rfl; have a1 : Rep (eSl (eInt .u8)) A' w' (R' 34) ([(IntKind.u8.wrap ((97 : Int) + (x25.1.tmod (4 : Int))))] : List Int) := hd.g 1 rfl; exact took_append (a0.trans (hin _ rfl).symm) hok hav (Nat.le_trans hF.size ho.ch.size) a1 Try.underlying33 el_5 e45) <|
       OblsR.cons (OblR.took 6 _ _ rfl rfl rfl rfl rfl fun A' R' w' ho hd u hok hav hin hop hds => by exact took_assign (hop _ _ rfl rfl rfl rfl).symm hok hav) <|
       OblsR.nil
     intro done ρ σ A R w hdn hI
     replace h0 : R 0 = (.pointer (some ⟨b0, 0, none⟩)) := (hI.reg rfl).trans h0
     replace h6 : R 6 = .int .i64 x5.1 := (hI.reg rfl).trans h6
     replace h7 : R 7 = .int .i64 y19 := (hI.reg rfl).trans h7
     have z46 := hI.inivR 0 rfl
     obtain ⟨u47, e_u47⟩ : ∃ u, ρ 7 = u := ⟨_, rfl⟩
     have h5 : R 5 = u47 := (hI.opvR hdn 7 5 rfl rfl rfl rfl rfl).symm.trans e_u47
     replace hAA := hI.lowK hAA hA0 hN (hO.geK (⟨.inr (fun k h => .inr h), ⟨.inl rfl, trivial⟩⟩))
     replace hF : Ch (ownsB (.pointer (some ⟨b0, 0, none⟩))) w0 w := hF.tr hI.ch (hO.geK (⟨.inr (fun k h => .inr h), ⟨.inl rfl, trivial⟩⟩))
     replace hO : IniOK [ob (.pointer (some ⟨b0, 0, none⟩)) (.box B0 108 E_spec_l1Cur x25.2), ob u47 (.vec w0.heap.size 5 (eInt .u8) (y21 ++ ([(IntKind.u8.wrap ((97 : Int) + (x25.1.tmod (4 : Int))))] : List Int)))] A w := hI.left hdn [(0, ob (.pointer (some ⟨b0, 0, none⟩)) (.box B0 108 E_spec_l1Cur x25.2)), (7, ob u47 (.vec w0.heap.size 5 (eInt .u8) (y21 ++ ([(IntKind.u8.wrap ((97 : Int) + (x25.1.tmod (4 : Int))))] : List Int))))] ⟨rfl, rfl, z46, rfl, rfl, ⟨rfl, rfl, e_u47, rfl, rfl, trivial⟩⟩
     replace hA := hI.avok
     clear hI
     obtain ⟨e48, hr⟩ := ck_some hr
     refine HT.text (l := ⟨_, true, .raw (.int .i64 y19)⟩ :: ⟨_, true, .raw (.int .i64 (y19 - (1 : Int)))⟩ :: ⟨_, true, .raw (.int .i64 (y19 - (1 : Int)))⟩ :: []) (tl := []) (by kernel_rfl) (by kernel_rfl) (by kernel_rfl) ?_ ?_
     ·exact
       Obls.p (fun R' w' hw hs hd => of_move ((hs 7 rfl).trans h7)) <|
       Obls.p (fun R' w' hw hs hd => by have a0 : R' 18 = .int .i64 y19 := hd.g 0 rfl; exact of_sub a0 rfl e48) <|
       Obls.p (fun R' w' hw hs hd => by have a0 : R' 19 = .int .i64 (y19 - (1 : Int)) := hd.g 0 rfl; exact of_assign a0) <|
       Obls.nil
     intro R w hw hs hF'
     replace h0 := (hs 0 rfl).trans h0
     replace h5 := (hs 5 rfl).trans h5
     replace h6 := (hs 6 rfl).trans h6
     have h7 : R 7 = .int .i64 (y19 - (1 : Int)) := hF' 2 _ _ rfl rfl rfl
     replace hO := hO.fr hw
     replace hA := hA.fr hw.size
     replace hF := hF.tr (hw.ch noB) fun _ h => False.elim h
     clear hs hF' hw
     refine seqR_nil ?_
     exact Exists.intro k (And.intro (Nat.lt_succ_self k) ⟨_, _, _, _, u47, hr, hA, hF, hAA, hO, h0, h5, h6, h7⟩)
    ·have hr := cnd_f c42 hr
     refine HT.skip ?_
     obtain ⟨e49, hr⟩ := ck_some hr
     refine HT.textR [ob (.pointer (some ⟨b0, 0, none⟩)) (.box B0 108 E_spec_l1Cur x25.2), ob ul_u2 (.vec w0.heap.size 5 (eInt .u8) y21)] (⟨_, true, [], none, true, fun A => .raw ul_u2⟩ :: ⟨_, true, [], none, true, fun A => .raw (.int .i64 x25.1)⟩ :: ⟨_, true, [], none, true, fun A => .raw (.int .u8 (IntKind.u8.wrap x25.1))⟩ :: ⟨_, true, [], none, true, fun A => .rep (eSl (eInt .u8)) A ([(IntKind.u8.wrap x25.1)] : List Int)⟩ :: ⟨_, true, [1], some (.vec w0.heap.size 5 (eInt .u8) (y21 ++ ([(IntKind.u8.wrap x25.1)] : List Int))), true, fun A => .any⟩ :: ⟨_, true, [6], some (.vec w0.heap.size 5 (eInt .u8) (y21 ++ ([(IntKind.u8.wrap x25.1)] : List Int))), true, fun A => .any⟩ :: []) (by kernel_rfl) (by kernel_rfl) (Wf.mk' (by kernel_rfl) (UAll.cons ust_raw (UAll.cons ust_raw (UAll.cons ust_raw (UAll.cons ust_rep (UAll.cons ust_any (UAll.cons ust_any (UAll.nil))))))) (by kernel_rfl) (by kernel_rfl)) hO hA ?_ ?_
     ·exact
       OblsR.p (fun A' R' w' ho hd => of_move ((ho.old 5 rfl).trans h5)) <|
       OblsR.p (fun A' R' w' ho hd => of_move ((ho.old 8 rfl).trans h8)) <|
       OblsR.p (fun A' R' w' ho hd => by have a0 : R' 32 = .int .i64 x25.1 := hd.g 0 rfl; exact of_conv_int a0 Try.underlying3 Try.underlying5) <|
       OblsR.p (fun A' R' w' ho hd => by have a0 : R' 33 = .int .u8 (IntKind.u8.wrap x25.1) := hd.g 0 rfl; exact of_build [_] (E := eInt .u8) ⟨(rep_int.eq a0), trivial⟩ Try.underlying33 Try.sizeOf5 Try.zeroValue5 rfl rfl rfl ho.av) <|
       OblsR.cons (OblR.took 1 _ _ rfl rfl rfl rfl rfl fun A' R' w' ho hd u hok hav hin hop hds => by have a0 : R' 31 = ul_u2 := hd.g 0 rfl; have a1 : Rep (eSl (eInt .u8)) A' w' (R' 34) ([(IntKind.u8.wrap x25.1)] : List Int) := hd.g 1 rfl; exact took_append (a0.trans (hin _ rfl).symm) hok hav (Nat.le_trans hF.size ho.ch.size) a1 Try.underlying33 el_5 e49) <|
       OblsR.cons (OblR.took 6 _ _ rfl rfl rfl rfl rfl fun A' R' w' ho hd u hok hav hin hop hds => by exact took_assign (hop _ _ rfl rfl rfl rfl).symm hok hav) <|
       OblsR.nil
     intro done ρ σ A R w hdn hI
     replace h0 : R 0 = (.pointer (some ⟨b0, 0, none⟩)) := (hI.reg rfl).trans h0
     replace h6 : R 6 = .int .i64 x5.1 := (hI.reg rfl).trans h6
     replace h7 : R 7 = .int .i64 y19 := (hI.reg rfl).trans h7
     have z50 := hI.inivR 0 rfl
     obtain ⟨u51, e_u51⟩ : ∃ u, ρ 7 = u := ⟨_, rfl⟩
     have h5 : R 5 = u51 := (hI.opvR hdn 7 5 rfl rfl rfl rfl rfl).symm.trans e_u51
     replace hAA := hI.lowK hAA hA0 hN (hO.geK (⟨.inr (fun k h => .inr h), ⟨.inl rfl, trivial⟩⟩))
     replace hF : Ch (ownsB (.pointer (some ⟨b0, 0, none⟩))) w0 w := hF.tr hI.ch (hO.geK (⟨.inr (fun k h => .inr h), ⟨.inl rfl, trivial⟩⟩))
     replace hO : IniOK [ob (.pointer (some ⟨b0, 0, none⟩)) (.box B0 108 E_spec_l1Cur x25.2), ob u51 (.vec w0.heap.size 5 (eInt .u8) (y21 ++ ([(IntKind.u8.wrap x25.1)] : List Int)))] A w := hI.left hdn [(0, ob (.pointer (some ⟨b0, 0, none⟩)) (.box B0 108 E_spec_l1Cur x25.2)), (7, ob u51 (.vec w0.heap.size 5 (eInt .u8) (y21 ++ ([(IntKind.u8.wrap x25.1)] : List Int))))] ⟨rfl, rfl, z50, rfl, rfl, ⟨rfl, rfl, e_u51, rfl, rfl, trivial⟩⟩
     replace hA := hI.avok
     clear hI
     obtain ⟨e52, hr⟩ := ck_some hr
     refine HT.text (l := ⟨_, true, .raw (.int .i64 y19)⟩ :: ⟨_, true, .raw (.int .i64 (y19 - (1 : Int)))⟩ :: ⟨_, true, .raw (.int .i64 (y19 - (1 : Int)))⟩ :: []) (tl := []) (by kernel_rfl) (by kernel_rfl) (by kernel_rfl) ?_ ?_
     ·exact
       Obls.p (fun R' w' hw hs hd => of_move ((hs 7 rfl).trans h7)) <|
       Obls.p (fun R' w' hw hs hd => by have a0 : R' 18 = .int .i64 y19 := hd.g 0 rfl; exact of_sub a0 rfl e52) <|
       Obls.p (fun R' w' hw hs hd => by have a0 : R' 19 = .int .i64 (y19 - (1 : Int)) := hd.g 0 rfl; exact of_assign a0) <|
       Obls.nil
     intro R w hw hs hF'
     replace h0 := (hs 0 rfl).trans h0
     replace h5 := (hs 5 rfl).trans h5
     replace h6 := (hs 6 rfl).trans h6
     have h7 : R 7 = .int .i64 (y19 - (1 : Int)) := hF' 2 _ _ rfl rfl rfl
     replace hO := hO.fr hw
     replace hA := hA.fr hw.size
     replace hF := hF.tr (hw.ch noB) fun _ h => False.elim h
     clear hs hF' hw
     refine seqR_nil ?_
     exact Exists.intro k (And.intro (Nat.lt_succ_self k) ⟨_, _, _, _, u51, hr, hA, hF, hAA, hO, h0, h5, h6, h7⟩)
  ·have hr := cnd_f c22 hr
   refine HT.exit ?_
   obtain rfl := Option.some.inj hr
   exact Exists.intro _ ⟨_, ul_u2, rfl, hA, hF, hAA, hO, h5⟩
 rintro R w ⟨A, s18, uo_u2, es, hA, hF, hAA, hO, h5⟩
 obtain rfl := es.symm
 refine HT.seq ?_
 refine HT.text (l := ⟨_, true, .raw uo_u2⟩ :: ⟨_, true, .rep eStr A (strB s18.2)⟩ :: ⟨_, true, .rep eStr A (strB s18.2)⟩ :: []) (tl := []) (by kernel_rfl) (by kernel_rfl) (by kernel_rfl) ?_ ?_
 ·exact
   Obls.p (fun R' w' hw hs hd => of_move ((hs 5 rfl).trans h5)) <|
   Obls.p (fun R' w' hw hs hd => by have a0 : R' 36 = uo_u2 := hd.g 0 rfl; have ra0 := (vec_rep ((hO.fr hw).ok 1 _ rfl).1 hAA hA0).eq a0; exact of_conv_bytes ra0 Try.underlying33 Try.underlying5 Try.underlying9) <|
   Obls.p (fun R' w' hw hs hd => by have a0 : Rep eStr A w' (R' 37) (strB s18.2) := hd.g 0 rfl; exact of_assign a0) <|
   Obls.nil
 intro R w hw hs hF'
 obtain ⟨u53, h4, f_u53⟩ : ∃ u, R 4 = u ∧ Rep eStr A w u (strB s18.2) := ⟨_, rfl, hF' 2 _ _ rfl rfl rfl⟩
 replace hO := hO.fr hw
 replace hO : IniOK [ob (.pointer (some ⟨b0, 0, none⟩)) (.box B0 108 E_spec_l1Cur s18.1)] A w := hO.sub [(0, ob (.pointer (some ⟨b0, 0, none⟩)) (.box B0 108 E_spec_l1Cur s18.1))] ⟨rfl, rfl, trivial⟩
 replace hA := hA.fr hw.size
 replace hF := hF.tr (hw.ch noB) fun _ h => False.elim h
 clear hs hF' hw
 refine seqR_nil ?_
 refine HT.ret ?_
 obtain rfl := Option.some.inj hr
 obtain ⟨A1, hA1, hG1⟩ := GPost.of hO hA hAA (hO.geK (⟨.inr (fun k h => .inr h), trivial⟩)) hF
 exact ⟨.inr rfl, [R 4], ⟨rfl, trivial⟩, A1, hG1, (f_u53.eq h4).down hA1⟩
end Go.Proofs.Ytofiipblinonoaa
