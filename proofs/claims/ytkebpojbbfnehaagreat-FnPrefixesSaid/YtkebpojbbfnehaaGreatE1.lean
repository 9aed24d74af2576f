/- Printed by dec.py: plain functions and the proofs that the code computes them. No statement of the seat is proved here. -/
import Derived.Test.YtkebpojbbfnehaaGreatTqs
namespace Go.Proofs.YtkebpojbbfnehaaGreat
open Go.RowKit
set_option linter.unusedVariables false
set_option maxRecDepth 100000
set_option maxHeartbeats 4000000
def M_laws_big (fu : Nat) (p0 : List Int) : Option Bool :=
 some (decide ((1048576 : Int) < (p0.length : Int)))
theorem M_laws_big_ok {fu : Nat} {A : Av} {p0 : List Int} {r : Bool} (hr : M_laws_big fu p0 = some r) {w : World} {v0 : Value} (hA : AvOK A w) (h0 : Rep (eSl (eInt .u8)) A w v0 p0) :
  Calls Tryz.prog 5 #[v0] w fun e w' => ∃ v, e = .returned v ∧ (v = .bool r ∧ Fr w w') := by
 unfold M_laws_big at hr
 obtain ⟨w0, hw0⟩ : ∃ w0, w0 = w := ⟨_, rfl⟩
 have hF : Fr w0 w := hw0 ▸ Fr.refl _
 rw [show Fr w = Fr w0 from hw0 ▸ rfl]
 clear hw0
 refine calls_of_HT2 [.tmp 2] Tryz.func5 Tryz.ntmps5 (by decide) rfl rfl (Nat.le_of_ble_eq_true rfl) ?_
 intro R hR
 have f_v0 := h0
 replace h0 : R 0 = v0 := hR 0 _ rfl
 clear hR
 refine HT.seq ?_
 refine HT.text (l := ⟨_, true, .raw (.bool false)⟩ :: []) (tl := []) (by kernel_rfl) (by kernel_rfl) (by kernel_rfl) ?_ ?_
 ·exact
   Obls.p (fun R' w' hw hs hd => of_assign rfl) <|
   Obls.nil
 intro R w hw hs hF'
 replace h0 := (hs 0 rfl).trans h0
 replace f_v0 := f_v0.fr hw
 replace hA := hA.fr hw.size
 replace hF := hF.trans hw
 clear hs hF' hw
 refine seqR_nil ?_
 refine HT.seq ?_
 refine HT.text (l := ⟨_, true, .raw v0⟩ :: ⟨_, true, .raw (.int .i64 (p0.length : Int))⟩ :: ⟨_, true, .raw (.bool (decide ((1048576 : Int) < (p0.length : Int))))⟩ :: ⟨_, true, .raw (.bool (decide ((1048576 : Int) < (p0.length : Int))))⟩ :: []) (tl := []) (by kernel_rfl) (by kernel_rfl) (by kernel_rfl) ?_ ?_
 ·exact
   Obls.p (fun R' w' hw hs hd => of_move ((hs 0 rfl).trans h0)) <|
   Obls.p (fun R' w' hw hs hd => by have a0 : R' 3 = v0 := hd.g 0 rfl; have ra0 := (f_v0.fr hw).eq a0; exact of_len_sl (aT := #[]) ra0 Tryz.underlying22) <|
   Obls.p (fun R' w' hw hs hd => by have a0 : R' 4 = .int .i64 (p0.length : Int) := hd.g 0 rfl; exact of_gtr a0 rfl) <|
   Obls.p (fun R' w' hw hs hd => by have a0 : R' 5 = .bool (decide ((1048576 : Int) < (p0.length : Int))) := hd.g 0 rfl; exact of_assign a0) <|
   Obls.nil
 intro R w hw hs hF'
 have h2 : R 2 = .bool (decide ((1048576 : Int) < (p0.length : Int))) := hF' 3 _ _ rfl rfl rfl
 replace hA := hA.fr hw.size
 replace hF := hF.trans hw
 clear hs hF' hw
 refine seqR_nil ?_
 refine HT.ret ?_
 obtain rfl := Option.some.inj hr
 exact ⟨.inr rfl, [R 2], ⟨rfl, trivial⟩, h2, hF⟩
def M_spec_l1New_L0 (fu : Nat) (p0 : List Int) : Nat → Int → Int → Option Int
 | 0, _, _ => none
 | k + 1, y5, y6 =>
  bd ((decide (y6 < (p0.length : Int))) && (decide (y6 < (4000 : Int)))) fun x7 =>
  bif x7 then (
   ck (i64B (y5 * (131 : Int))) <|
   ck (inR y6 p0.length) <|
   ck (i64B ((y5 * (131 : Int)) + (IntKind.i64.wrap (gtD p0 y6)))) <|
   ck (i64B (((y5 * (131 : Int)) + (IntKind.i64.wrap (gtD p0 y6))) + (7 : Int))) <|
   ck (i64B (y6 + (1 : Int))) <|
   M_spec_l1New_L0 fu p0 k (bitI (fun u v => u &&& v) .i64 (((y5 * (131 : Int)) + (IntKind.i64.wrap (gtD p0 y6))) + (7 : Int)) (1073741823 : Int)) (y6 + (1 : Int))
  ) else (
   some y5
  )
def M_spec_l1New (fu : Nat) (p0 : List Int) : Option T_spec_l1Cur :=
 ck (i64B ((10101 : Int) + (p0.length : Int))) <|
 cl true (M_spec_l1New_L0 fu p0 fu ((10101 : Int) + (p0.length : Int)) (0 : Int)) fun s4 =>
 some (p0, (0 : Int), s4)
set_option linter.unusedSimpArgs false in
theorem M_spec_l1New_ok {fu : Nat} {A0 : Av} {p0 : List Int} {r : T_spec_l1Cur} (hr : M_spec_l1New fu p0 = some r) {w : World} {v0 : Value} (hA : AvOK A0 w) (h0 : Rep (eSl (eInt .u8)) A0 w v0 p0) :
  Calls Tryz.prog 36 #[v0] w fun e w' => ∃ v, e = .returned v ∧ (∃ (c0 : Nat) (A1 : Av), GPost A0 (fun _ => False) w [ob (.pointer (some ⟨c0, 0, none⟩)) (.box w.heap.size 84 E_spec_l1Cur r)] A1 w' ∧ (Fact.raw (.pointer (some ⟨c0, 0, none⟩))).ok v w') := by
 unfold M_spec_l1New at hr
 obtain ⟨w0, hw0⟩ : ∃ w0, w0 = w := ⟨_, rfl⟩
 have hF : Fr w0 w := hw0 ▸ Fr.refl _
 have hA0 : ∀ b o, A0 b o → b < w0.heap.size := fun b o h => hw0 ▸ hA b o h
 have hA00 : AvOK A0 w0 := hA0
 rw [show GPost A0 (fun _ => False) w = GPost A0 (fun _ => False) w0 from by rw [hw0]]
 rw [show w.heap.size = w0.heap.size from by rw [hw0]]
 clear hw0
 obtain ⟨A, hAe⟩ : ∃ A, A = A0 := ⟨_, rfl⟩
 have hAA : ∀ b o, A0 b o → A b o := fun b o h => hAe ▸ h
 replace hA : AvOK A w := hAe ▸ hA
 have hO : IniOK [] A w := IniOK.nil
 refine calls_of_HT2 [.tmp 2] Tryz.func36 Tryz.ntmps36 (by decide) rfl rfl (Nat.le_of_ble_eq_true rfl) ?_
 intro R hR
 have f_v0 : Rep (eSl (eInt .u8)) A w v0 p0 := hAe ▸ h0
 replace h0 : R 0 = v0 := hR 0 _ rfl
 clear hR hAe
 refine HT.seq ?_
 refine HT.text (l := ⟨_, true, .any⟩ :: []) (tl := []) (by kernel_rfl) (by kernel_rfl) (by kernel_rfl) ?_ ?_
 ·exact
   Obls.p (fun R' w' hw hs hd => of_assign trivial) <|
   Obls.nil
 intro R w hw hs hF'
 replace h0 := (hs 0 rfl).trans h0
 replace f_v0 := f_v0.fr hw
 replace hO := hO.fr hw
 replace hA := hA.fr hw.size
 replace hF := hF.trans hw
 clear hs hF' hw
 refine seqR_nil ?_
 refine HT.seq ?_
 obtain ⟨e1, hr⟩ := ck_some hr
 refine HT.text (l := ⟨_, true, .raw v0⟩ :: ⟨_, true, .raw (.int .i64 (p0.length : Int))⟩ :: ⟨_, true, .raw (.int .i64 ((10101 : Int) + (p0.length : Int)))⟩ :: ⟨_, true, .raw (.int .i64 ((10101 : Int) + (p0.length : Int)))⟩ :: []) (tl := []) (by kernel_rfl) (by kernel_rfl) (by kernel_rfl) ?_ ?_
 ·exact
   Obls.p (fun R' w' hw hs hd => of_move ((hs 0 rfl).trans h0)) <|
   Obls.p (fun R' w' hw hs hd => by have a0 : R' 5 = v0 := hd.g 0 rfl; have ra0 := (f_v0.fr hw).eq a0; exact of_len_sl (aT := #[]) ra0 Tryz.underlying22) <|
   Obls.p (fun R' w' hw hs hd => by have a1 : R' 6 = .int .i64 (p0.length : Int) := hd.g 0 rfl; exact of_add rfl a1 e1) <|
   Obls.p (fun R' w' hw hs hd => by have a0 : R' 7 = .int .i64 ((10101 : Int) + (p0.length : Int)) := hd.g 0 rfl; exact of_assign a0) <|
   Obls.nil
 intro R w hw hs hF'
 replace h0 := (hs 0 rfl).trans h0
 have h3 : R 3 = .int .i64 ((10101 : Int) + (p0.length : Int)) := hF' 3 _ _ rfl rfl rfl
 replace f_v0 := f_v0.fr hw
 replace hO := hO.fr hw
 replace hA := hA.fr hw.size
 replace hF := hF.trans hw
 clear hs hF' hw
 refine seqR_nil ?_
 refine HT.seq ?_
 refine HT.seq ?_
 refine HT.text (l := ⟨_, true, .raw (.int .i64 (0 : Int))⟩ :: []) (tl := []) (by kernel_rfl) (by kernel_rfl) (by kernel_rfl) ?_ ?_
 ·exact
   Obls.p (fun R' w' hw hs hd => of_assign rfl) <|
   Obls.nil
 intro R w hw hs hF'
 replace h0 := (hs 0 rfl).trans h0
 replace h3 := (hs 3 rfl).trans h3
 have h4 : R 4 = .int .i64 (0 : Int) := hF' 0 _ _ rfl rfl rfl
 replace f_v0 := f_v0.fr hw
 replace hO := hO.fr hw
 replace hA := hA.fr hw.size
 replace hF := hF.trans hw
 clear hs hF' hw
 refine seqR_nil ?_
 obtain ⟨rl2, q3, hr⟩ := cl_some hr
 replace q3 := q3 rfl
 refine HT.cut0 (fun R w => ∃ A : Av, ∃ (s4 : Int), rl2 = s4 ∧ AvOK A w ∧ Fr w0 w ∧ (∀ b o, A0 b o → A b o) ∧ IniOK [] A w ∧ R 0 = v0 ∧ R 3 = .int .i64 s4 ∧ Rep (eSl (eInt .u8)) A w v0 p0) ?_ ?_
 ·refine HT.block ?_
  refine HT.loop (fun k R w => ∃ A : Av, ∃ (y5 : Int) (y6 : Int), M_spec_l1New_L0 fu p0 k y5 y6 = some rl2 ∧ AvOK A w ∧ Fr w0 w ∧ (∀ b o, A0 b o → A b o) ∧ IniOK [] A w ∧ R 0 = v0 ∧ R 3 = .int .i64 y5 ∧ R 4 = .int .i64 y6 ∧ Rep (eSl (eInt .u8)) A w v0 p0) fu ⟨_, _, _, q3, hA, hF, hAA, hO, h0, h3, h4, f_v0⟩ ?_
  have hr0 := hr; clear hr q3
  rintro k R w ⟨A, y5, y6, hr, hA, hF, hAA, hO, h0, h3, h4, f_v0⟩
  rcases k with _ | k
  ·cases (show none = some _ from hr)
  rw [M_spec_l1New_L0] at hr
  refine HT.seq ?_
  refine HT.seq ?_
  obtain ⟨x7, q8, hr⟩ := bd_some hr
  refine HT.text (l := ⟨_, true, .raw (.int .i64 y6)⟩ :: ⟨_, true, .raw v0⟩ :: ⟨_, true, .raw (.int .i64 (p0.length : Int))⟩ :: ⟨_, true, .raw (.bool (decide (y6 < (p0.length : Int))))⟩ :: ⟨_, true, .raw (.bool (decide (y6 < (p0.length : Int))))⟩ :: ⟨_, (true && ((decide (y6 < (p0.length : Int))) == true)), .raw (.int .i64 y6)⟩ :: ⟨_, (true && ((decide (y6 < (p0.length : Int))) == true)), .raw (.bool (decide (y6 < (4000 : Int))))⟩ :: ⟨_, true, .raw (.bool x7)⟩ :: []) (tl := []) (by kernel_rfl) (by kernel_rfl) (by kernel_rfl) ?_ ?_
  ·exact
    Obls.p (fun R' w' hw hs hd => of_move ((hs 4 rfl).trans h4)) <|
    Obls.p (fun R' w' hw hs hd => of_move ((hs 0 rfl).trans h0)) <|
    Obls.p (fun R' w' hw hs hd => by have a0 : R' 9 = v0 := hd.g 0 rfl; have ra0 := (f_v0.fr hw).eq a0; exact of_len_sl (aT := #[]) ra0 Tryz.underlying22) <|
    Obls.p (fun R' w' hw hs hd => by have a0 : R' 8 = .int .i64 y6 := hd.g 0 rfl; have a1 : R' 10 = .int .i64 (p0.length : Int) := hd.g 1 rfl; exact of_lss a0 a1) <|
    Obls.p (fun R' w' hw hs hd => by have a0 : R' 11 = .bool (decide (y6 < (p0.length : Int))) := hd.g 0 rfl; exact of_move a0) <|
    Obls.cons (Obl.grd 4 true _ _ _ rfl rfl rfl rfl rfl (by kernel_rfl) fun hg R' w' hw hs hd => by have a0 : R' 4 = .int .i64 y6 := (hs 4 rfl).trans h4; exact of_move a0) <|
    Obls.cons (Obl.grd 4 true _ _ _ rfl rfl rfl rfl rfl (by kernel_rfl) fun hg R' w' hw hs hd => by have a0 : R' 13 = .int .i64 y6 := hd 0 _ _ _ rfl rfl rfl rfl hg; exact of_lss a0 rfl) <|
    Obls.p (fun R' w' hw hs hd => by have a0 : R' 12 = .bool (decide (y6 < (p0.length : Int))) := hd.g 0 rfl; exact of_pick (decide (y6 < (p0.length : Int))) a0 (fun hc => by have a1 : R' 14 = .bool (decide (y6 < (4000 : Int))) := hd 1 _ _ _ rfl rfl rfl rfl (g_and rfl (beq_of hc)); show _ = Value.bool x7; rw [q8, hc]; exact a1) (fun hc => by show _ = Value.bool x7; rw [q8, hc]; exact rfl)) <|
    Obls.nil
  intro R w hw hs hF'
  replace h0 := (hs 0 rfl).trans h0
  replace h3 := (hs 3 rfl).trans h3
  replace h4 := (hs 4 rfl).trans h4
  have h15 : R 15 = .bool x7 := hF' 7 _ _ rfl rfl rfl
  replace f_v0 := f_v0.fr hw
  replace hO := hO.fr hw
  replace hA := hA.fr hw.size
  replace hF := hF.trans hw
  clear hs hF' hw
  refine seqR_nil ?_
  refine HT.cond x7 h15 (fun c9 => ?_) (fun c9 => ?_)
  ·have hr := cnd_t c9 hr
   refine HT.skip ?_
   refine HT.seq ?_
   refine HT.block ?_
   obtain ⟨e10, hr⟩ := ck_some hr
   obtain ⟨e11, hr⟩ := ck_some hr
   obtain ⟨e12, hr⟩ := ck_some hr
   obtain ⟨e13, hr⟩ := ck_some hr
   refine HT.text (l := ⟨_, true, .raw (.int .i64 y5)⟩ :: ⟨_, true, .raw (.int .i64 (y5 * (131 : Int)))⟩ :: ⟨_, true, .raw v0⟩ :: ⟨_, true, .raw (.int .i64 y6)⟩ :: ⟨_, true, .qtr (eInt .u8) A (gtD p0 y6)⟩ :: ⟨_, true, .raw (.int .u8 (gtD p0 y6))⟩ :: ⟨_, true, .raw (.int .i64 (IntKind.i64.wrap (gtD p0 y6)))⟩ :: ⟨_, true, .raw (.int .i64 ((y5 * (131 : Int)) + (IntKind.i64.wrap (gtD p0 y6))))⟩ :: ⟨_, true, .raw (.int .i64 (((y5 * (131 : Int)) + (IntKind.i64.wrap (gtD p0 y6))) + (7 : Int)))⟩ :: ⟨_, true, .raw (.int .i64 (bitI (fun u v => u &&& v) .i64 (((y5 * (131 : Int)) + (IntKind.i64.wrap (gtD p0 y6))) + (7 : Int)) (1073741823 : Int)))⟩ :: ⟨_, true, .raw (.int .i64 (bitI (fun u v => u &&& v) .i64 (((y5 * (131 : Int)) + (IntKind.i64.wrap (gtD p0 y6))) + (7 : Int)) (1073741823 : Int)))⟩ :: []) (tl := []) (by kernel_rfl) (by kernel_rfl) (by kernel_rfl) ?_ ?_
   ·exact
     Obls.p (fun R' w' hw hs hd => of_move ((hs 3 rfl).trans h3)) <|
     Obls.p (fun R' w' hw hs hd => by have a0 : R' 18 = .int .i64 y5 := hd.g 0 rfl; exact of_mul a0 rfl e10) <|
     Obls.p (fun R' w' hw hs hd => of_move ((hs 0 rfl).trans h0)) <|
     Obls.p (fun R' w' hw hs hd => of_move ((hs 4 rfl).trans h4)) <|
     Obls.p (fun R' w' hw hs hd => by have a0 : R' 20 = v0 := hd.g 0 rfl; have a1 : R' 21 = .int .i64 y6 := hd.g 1 rfl; have ra0 := (f_v0.fr hw).eq a0; exact of_indexAddr ra0 a1 Tryz.underlying22 Tryz.sizeOf5 e11) <|
     Obls.p (fun R' w' hw hs hd => by have a0 : QRep (eInt .u8) A w' (R' 22) (gtD p0 y6) := hd.g 0 rfl; exact OpF.int (of_load a0.ptr Tryz.isAgg5 Tryz.sizeOf5)) <|
     Obls.p (fun R' w' hw hs hd => by have a0 : R' 23 = .int .u8 (gtD p0 y6) := hd.g 0 rfl; exact of_conv_int a0 Tryz.underlying5 Tryz.underlying3) <|
     Obls.p (fun R' w' hw hs hd => by have a0 : R' 19 = .int .i64 (y5 * (131 : Int)) := hd.g 0 rfl; have a1 : R' 24 = .int .i64 (IntKind.i64.wrap (gtD p0 y6)) := hd.g 1 rfl; exact of_add a0 a1 e12) <|
     Obls.p (fun R' w' hw hs hd => by have a0 : R' 25 = .int .i64 ((y5 * (131 : Int)) + (IntKind.i64.wrap (gtD p0 y6))) := hd.g 0 rfl; exact of_add a0 rfl e13) <|
     Obls.p (fun R' w' hw hs hd => by have a0 : R' 26 = .int .i64 (((y5 * (131 : Int)) + (IntKind.i64.wrap (gtD p0 y6))) + (7 : Int)) := hd.g 0 rfl; exact of_and a0 rfl) <|
     Obls.p (fun R' w' hw hs hd => by have a0 : R' 27 = .int .i64 (bitI (fun u v => u &&& v) .i64 (((y5 * (131 : Int)) + (IntKind.i64.wrap (gtD p0 y6))) + (7 : Int)) (1073741823 : Int)) := hd.g 0 rfl; exact of_assign a0) <|
     Obls.nil
   intro R w hw hs hF'
   replace h0 := (hs 0 rfl).trans h0
   replace h4 := (hs 4 rfl).trans h4
   have h3 : R 3 = .int .i64 (bitI (fun u v => u &&& v) .i64 (((y5 * (131 : Int)) + (IntKind.i64.wrap (gtD p0 y6))) + (7 : Int)) (1073741823 : Int)) := hF' 10 _ _ rfl rfl rfl
   replace f_v0 := f_v0.fr hw
   replace hO := hO.fr hw
   replace hA := hA.fr hw.size
   replace hF := hF.trans hw
   clear hs hF' hw
   refine seqR_nil ?_
   obtain ⟨e14, hr⟩ := ck_some hr
   refine HT.text (l := ⟨_, true, .raw (.int .i64 y6)⟩ :: ⟨_, true, .raw (.int .i64 (y6 + (1 : Int)))⟩ :: ⟨_, true, .raw (.int .i64 (y6 + (1 : Int)))⟩ :: []) (tl := []) (by kernel_rfl) (by kernel_rfl) (by kernel_rfl) ?_ ?_
   ·exact
     Obls.p (fun R' w' hw hs hd => of_move ((hs 4 rfl).trans h4)) <|
     Obls.p (fun R' w' hw hs hd => by have a0 : R' 16 = .int .i64 y6 := hd.g 0 rfl; exact of_add a0 rfl e14) <|
     Obls.p (fun R' w' hw hs hd => by have a0 : R' 17 = .int .i64 (y6 + (1 : Int)) := hd.g 0 rfl; exact of_assign a0) <|
     Obls.nil
   intro R w hw hs hF'
   replace h0 := (hs 0 rfl).trans h0
   replace h3 := (hs 3 rfl).trans h3
   have h4 : R 4 = .int .i64 (y6 + (1 : Int)) := hF' 2 _ _ rfl rfl rfl
   replace f_v0 := f_v0.fr hw
   replace hO := hO.fr hw
   replace hA := hA.fr hw.size
   replace hF := hF.trans hw
   clear hs hF' hw
   refine seqR_nil ?_
   exact Exists.intro k (And.intro (Nat.lt_succ_self k) ⟨_, _, _, hr, hA, hF, hAA, hO, h0, h3, h4, f_v0⟩)
  ·have hr := cnd_f c9 hr
   refine HT.exit ?_
   obtain rfl := Option.some.inj hr
   exact Exists.intro _ ⟨_, rfl, hA, hF, hAA, hO, h0, h3, f_v0⟩
 rintro R w ⟨A, s4, es, hA, hF, hAA, hO, h0, h3, f_v0⟩
 obtain rfl := es.symm
 refine HT.seq ?_
 refine SG.of ?_
 refine SG.textR [] (⟨_, true, [], none, true, fun A => .raw v0⟩ :: ⟨_, true, [], none, true, fun A => .raw (.int .i64 s4)⟩ :: ⟨_, true, [], none, true, fun A => .rep E_spec_l1Cur A (p0, (0 : Int), s4)⟩ :: ⟨_, true, [], some (.box w0.heap.size 84 E_spec_l1Cur (p0, (0 : Int), s4)), true, fun A => .any⟩ :: []) 4 rfl rfl rfl (by kernel_rfl) (by kernel_rfl) (Wf.mk' (by kernel_rfl) (UAll.cons ust_raw (UAll.cons ust_raw (UAll.cons ust_rep (UAll.cons ust_any (UAll.nil))))) (by kernel_rfl) (by kernel_rfl)) hO hA (trivial) ?_ ?_
 ·exact
   OblsR.p (fun A' R' w' ho hd => of_move ((ho.old 0 rfl).trans h0)) <|
   OblsR.p (fun A' R' w' ho hd => of_move ((ho.old 3 rfl).trans h3)) <|
   OblsR.p (fun A' R' w' ho hd => by have a0 : R' 28 = v0 := hd.g 0 rfl; have ra0 := (f_v0.stp ho.stp).eq a0; have a1 : R' 29 = .int .i64 s4 := hd.g 1 rfl; obtain ⟨c15a, c15n, c15c, c15, c15r⟩ := rep_sl_val ra0; exact of_build_raw (v := .agg #[.slice c15a c15n c15c, .int .i64 0, .int .i64 s4]) (by simp [execOp, Instr.build, evalR, c15, a1, underlying, Tryz.underlying84, Tryz.zeroValue84, Tryz.sizeOf22, Tryz.sizeOf3, go_sem, Instr.fill]) ⟨_, rfl, rep_pr c15r (rep_pr rep1_int rep1_int)⟩) <|
   OblsR.cons (OblR.made _ rfl rfl rfl rfl fun A' R' w' ho hd => by have a0 : Rep E_spec_l1Cur A' w' (R' 30) (p0, (0 : Int), s4) := hd.g 0 rfl; exact made_box a0 (Nat.le_trans hF.size ho.ch.size)) <|
   OblsR.nil
 intro done ρ σ A R w hdn hI
 obtain ⟨b31_15, e_b31_15⟩ := hI.boxv hdn 3 rfl rfl
 have h31 : R 31 = (.pointer (some ⟨b31_15, 0, none⟩)) := (hI.opvR hdn 3 3 rfl rfl rfl rfl rfl).symm.trans e_b31_15
 replace hAA := hI.low' hAA hA0 (hO.ge (trivial))
 replace hF : Fr w0 w := hF.tr hI.ch (hO.ge (trivial))
 replace hO : IniOK [ob (.pointer (some ⟨b31_15, 0, none⟩)) (.box w0.heap.size 84 E_spec_l1Cur (p0, (0 : Int), s4))] A w := hI.left hdn [(3, ob (.pointer (some ⟨b31_15, 0, none⟩)) (.box w0.heap.size 84 E_spec_l1Cur (p0, (0 : Int), s4)))] ⟨rfl, rfl, e_b31_15, rfl, rfl, trivial⟩
 replace hA := hI.avok
 clear hI
 refine SG.textR [ob (.pointer (some ⟨b31_15, 0, none⟩)) (.box w0.heap.size 84 E_spec_l1Cur (p0, (0 : Int), s4))] (⟨_, true, [], none, true, fun A => .any⟩ :: ⟨_, true, [], none, true, fun A => .any⟩ :: ⟨_, true, [], none, true, fun A => .any⟩ :: ⟨_, true, [], none, true, fun A => .raw (.pointer (some ⟨b31_15, 0, none⟩))⟩ :: ⟨_, true, [], none, true, fun A => .raw (.pointer (some ⟨b31_15, 0, none⟩))⟩ :: []) 5 rfl rfl rfl (by kernel_rfl) (by kernel_rfl) (Wf.mk' (by kernel_rfl) (UAll.cons ust_any (UAll.cons ust_any (UAll.cons ust_any (UAll.cons ust_raw (UAll.cons ust_raw (UAll.nil)))))) (by kernel_rfl) (by kernel_rfl)) hO hA (⟨⟨rfl, rfl, rfl, trivial⟩, ⟨⟨rfl, rfl, rfl, trivial⟩, ⟨⟨rfl, rfl, rfl, trivial⟩, ⟨⟨rfl, rfl, rfl, h31⟩, trivial⟩⟩⟩⟩) ?_ ?_
 ·exact
   OblsR.p (fun A' R' w' ho hd => by have a0 : R' 31 = (.pointer (some ⟨b31_15, 0, none⟩)) := hd.g 0 rfl; exact of_assign a0) <|
   OblsR.nil
 intro done ρ σ A R w hdn hI
 have z17 := hI.inivR 0 rfl
 have h2 : R 2 = (.pointer (some ⟨b31_15, 0, none⟩)) := hI.fact hdn (i := 4) rfl rfl rfl
 replace hAA := hI.low' hAA hA0 (hO.ge (⟨rfl, trivial⟩))
 replace hF : Fr w0 w := hF.tr hI.ch (hO.ge (⟨rfl, trivial⟩))
 replace hO : IniOK [ob (.pointer (some ⟨b31_15, 0, none⟩)) (.box w0.heap.size 84 E_spec_l1Cur (p0, (0 : Int), s4))] A w := hI.left hdn [(0, ob (.pointer (some ⟨b31_15, 0, none⟩)) (.box w0.heap.size 84 E_spec_l1Cur (p0, (0 : Int), s4)))] ⟨rfl, rfl, z17, rfl, rfl, trivial⟩
 replace hA := hI.avok
 clear hI
 refine SG.fin rfl ?_
 refine HT.ret ?_
 obtain rfl := Option.some.inj hr
 obtain ⟨A1, hA1, hG1⟩ := GPost.of hO hA hAA (fun k hk => .inl (hO.ge (⟨rfl, trivial⟩) k hk)) (hF.ch (fun _ => False))
 exact ⟨.inr rfl, [R 2], ⟨rfl, trivial⟩, b31_15, A1, hG1, h2⟩
def M_spec_l1Byte (fu : Nat) (p0 : T_spec_l1Cur) : Option (Int × T_spec_l1Cur) :=
 ck (decide (0 ≤ (33 : Int))) <|
 ck (decide (0 ≤ (45 : Int))) <|
 bif (decide (p0.2.1 < (p0.1.length : Int))) then (
  ck (inR p0.2.1 p0.1.length) <|
  some ((bitI (fun u v => u &&& v) .i64 (IntKind.i64.wrap ((bitI (fun u v => u &&& v) .i64 (bitI (fun u v => u ^^^ v) .i64 ((IntKind.i64.wrap ((IntKind.i64.wrap (p0.2.2 * (6364136223846793005 : Int))) + (1442695040888963407 : Int))) / 2 ^ min (33 : Int).toNat 64) ((IntKind.i64.wrap ((IntKind.i64.wrap (p0.2.2 * (6364136223846793005 : Int))) + (1442695040888963407 : Int))) / 2 ^ min (45 : Int).toNat 64)) (255 : Int)) + (IntKind.i64.wrap (gtD p0.1 p0.2.1)))) (255 : Int)), (p0.1, (IntKind.i64.wrap (p0.2.1 + (1 : Int))), (IntKind.i64.wrap ((IntKind.i64.wrap (p0.2.2 * (6364136223846793005 : Int))) + (1442695040888963407 : Int)))))
 ) else (
  some ((bitI (fun u v => u &&& v) .i64 (bitI (fun u v => u ^^^ v) .i64 ((IntKind.i64.wrap ((IntKind.i64.wrap (p0.2.2 * (6364136223846793005 : Int))) + (1442695040888963407 : Int))) / 2 ^ min (33 : Int).toNat 64) ((IntKind.i64.wrap ((IntKind.i64.wrap (p0.2.2 * (6364136223846793005 : Int))) + (1442695040888963407 : Int))) / 2 ^ min (45 : Int).toNat 64)) (255 : Int)), (p0.1, p0.2.1, (IntKind.i64.wrap ((IntKind.i64.wrap (p0.2.2 * (6364136223846793005 : Int))) + (1442695040888963407 : Int)))))
 )
theorem M_spec_l1Byte_ok {fu : Nat} {Aq : Av} {p0 : T_spec_l1Cur} {r : Int × T_spec_l1Cur} (hr : M_spec_l1Byte fu p0 = some r) {w : World} {v0 : Value} {b0 B0 : Nat} (hA : AvOK Aq w) (h0 : v0 = .pointer (some ⟨b0, 0, none⟩)) (hO0 : IniOK [ob (.pointer (some ⟨b0, 0, none⟩)) (.box B0 84 E_spec_l1Cur p0)] Aq w) :
  Calls Tryz.prog 97 #[v0] w fun e w' => ∃ v, e = .returned v ∧ (∃ (A1 : Av), GPost (subS Aq (ownsB (.pointer (some ⟨b0, 0, none⟩)))) (ownsB (.pointer (some ⟨b0, 0, none⟩))) w [ob (.pointer (some ⟨b0, 0, none⟩)) (.box B0 84 E_spec_l1Cur r.2)] A1 w' ∧ (Fact.raw (.int .i64 r.1)).ok v w') := by
 unfold M_spec_l1Byte at hr
 obtain ⟨w0, hw0⟩ : ∃ w0, w0 = w := ⟨_, rfl⟩
 have hF : Ch (ownsB (.pointer (some ⟨b0, 0, none⟩))) w0 w := hw0 ▸ Ch.refl _ _
 obtain ⟨A0, hA0e⟩ : ∃ A0, A0 = subS Aq (ownsB (.pointer (some ⟨b0, 0, none⟩))) := ⟨_, rfl⟩
 have hA0 : ∀ b o, A0 b o → b < w0.heap.size := fun b o h => hw0 ▸ hA b o (hA0e ▸ h : subS Aq _ b o).1
 have hN : ∀ b o, A0 b o → ¬ (ownsB (.pointer (some ⟨b0, 0, none⟩))) b := fun b o h => (hA0e ▸ h : subS Aq _ b o).2
 have hA00 : AvOK A0 w0 := hA0
 rw [show GPost (subS Aq (ownsB (.pointer (some ⟨b0, 0, none⟩)))) (ownsB (.pointer (some ⟨b0, 0, none⟩))) w = GPost A0 (ownsB (.pointer (some ⟨b0, 0, none⟩))) w0 from by rw [hA0e, hw0]]
 clear hw0
 obtain ⟨A, hAe⟩ : ∃ A, A = Aq := ⟨_, rfl⟩
 have hAA : ∀ b o, A0 b o → A b o := fun b o h => hAe ▸ (hA0e ▸ h : subS Aq _ b o).1
 replace hA : AvOK A w := hAe ▸ hA
 have hO : IniOK [ob (.pointer (some ⟨b0, 0, none⟩)) (.box B0 84 E_spec_l1Cur p0)] A w := hAe ▸ hO0
 clear hA0e hO0
 refine calls_of_HT2 [.tmp 2] Tryz.func97 Tryz.ntmps97 (by decide) rfl rfl (Nat.le_of_ble_eq_true rfl) ?_
 intro R hR
 replace h0 : R 0 = .pointer (some ⟨b0, 0, none⟩) := (hR 0 _ rfl).trans h0
 clear hR hAe
 refine HT.seq ?_
 refine HT.text (l := ⟨_, true, .raw (.int .i64 (0 : Int))⟩ :: []) (tl := []) (by kernel_rfl) (by kernel_rfl) (by kernel_rfl) ?_ ?_
 ·exact
   Obls.p (fun R' w' hw hs hd => of_assign rfl) <|
   Obls.nil
 intro R w hw hs hF'
 replace h0 := (hs 0 rfl).trans h0
 replace hO := hO.fr hw
 replace hA := hA.fr hw.size
 replace hF := hF.tr (hw.ch noB) fun _ h => False.elim h
 clear hs hF' hw
 refine seqR_nil ?_
 refine HT.seq ?_
 refine HT.textR [ob (.pointer (some ⟨b0, 0, none⟩)) (.box B0 84 E_spec_l1Cur p0)] (⟨_, true, [], none, true, fun A => .raw (.pointer (some ⟨b0, 0, none⟩))⟩ :: ⟨_, true, [], none, true, fun A => .raw (.pointer (some ⟨b0, 0, none⟩))⟩ :: ⟨_, true, [], none, true, fun A => .raw (.pointer (some ⟨b0, 0, none⟩))⟩ :: ⟨_, true, [], none, true, fun A => .raw (.pointer (some ⟨b0, 2, none⟩))⟩ :: ⟨_, true, [], none, true, fun A => .raw (.int .i64 p0.2.2)⟩ :: ⟨_, true, [], none, true, fun A => .raw (.int .i64 (IntKind.i64.wrap (p0.2.2 * (6364136223846793005 : Int))))⟩ :: ⟨_, true, [], none, true, fun A => .raw (.int .i64 (IntKind.i64.wrap ((IntKind.i64.wrap (p0.2.2 * (6364136223846793005 : Int))) + (1442695040888963407 : Int))))⟩ :: ⟨_, true, [], none, true, fun A => .raw (.pointer (some ⟨b0, 0, none⟩))⟩ :: ⟨_, true, [], none, true, fun A => .raw (.pointer (some ⟨b0, 2, none⟩))⟩ :: ⟨_, true, [0], some (.box B0 84 E_spec_l1Cur (p0.1, p0.2.1, (IntKind.i64.wrap ((IntKind.i64.wrap (p0.2.2 * (6364136223846793005 : Int))) + (1442695040888963407 : Int))))), false, fun A => .any⟩ :: []) (by kernel_rfl) (by kernel_rfl) (Wf.mk' (by kernel_rfl) (UAll.cons ust_raw (UAll.cons ust_raw (UAll.cons ust_raw (UAll.cons ust_raw (UAll.cons ust_raw (UAll.cons ust_raw (UAll.cons ust_raw (UAll.cons ust_raw (UAll.cons ust_raw (UAll.cons ust_any (UAll.nil))))))))))) (by kernel_rfl) (by kernel_rfl)) hO hA ?_ ?_
 ·exact
   OblsR.p (fun A' R' w' ho hd => of_move ((ho.old 0 rfl).trans h0)) <|
   OblsR.p (fun A' R' w' ho hd => of_move ((ho.old 0 rfl).trans h0)) <|
   OblsR.p (fun A' R' w' ho hd => by have a0 : R' 5 = (.pointer (some ⟨b0, 0, none⟩)) := hd.g 0 rfl; exact of_nilCheck a0) <|
   OblsR.p (fun A' R' w' ho hd => by have a0 : R' 6 = (.pointer (some ⟨b0, 0, none⟩)) := hd.g 0 rfl; exact of_fieldAddr_raw a0 ff_84_2 Tryz.sizeOf3 (by decide) rfl) <|
   OblsR.p (fun A' R' w' ho hd => by have a0 : R' 7 = (.pointer (some ⟨b0, 2, none⟩)) := hd.g 0 rfl; exact OpF.int (of_load_box (ho.rd 0 _ rfl rfl) a0 fl_spec_l1Cur_2 rfl Tryz.isAgg3 Tryz.sizeOf3)) <|
   OblsR.p (fun A' R' w' ho hd => by have a0 : R' 8 = .int .i64 p0.2.2 := hd.g 0 rfl; exact of_mul_w a0 rfl) <|
   OblsR.p (fun A' R' w' ho hd => by have a0 : R' 9 = .int .i64 (IntKind.i64.wrap (p0.2.2 * (6364136223846793005 : Int))) := hd.g 0 rfl; exact of_add_w a0 rfl) <|
   OblsR.p (fun A' R' w' ho hd => by have a0 : R' 4 = (.pointer (some ⟨b0, 0, none⟩)) := hd.g 0 rfl; exact of_nilCheck a0) <|
   OblsR.p (fun A' R' w' ho hd => by have a0 : R' 11 = (.pointer (some ⟨b0, 0, none⟩)) := hd.g 0 rfl; exact of_fieldAddr_raw a0 ff_84_2 Tryz.sizeOf3 (by decide) rfl) <|
   OblsR.cons (OblR.took 0 _ _ rfl rfl rfl rfl rfl fun A' R' w' ho hd u hok hav hin hop hds => by have a0 : R' 12 = (.pointer (some ⟨b0, 2, none⟩)) := hd.g 0 rfl; have a1 : R' 10 = .int .i64 (IntKind.i64.wrap ((IntKind.i64.wrap (p0.2.2 * (6364136223846793005 : Int))) + (1442695040888963407 : Int))) := hd.g 1 rfl; exact took_store (rep_int.eq a1) a0 (hin _ rfl) hok hav fs_spec_l1Cur_2 Tryz.sizeOf3 rfl) <|
   OblsR.nil
 intro done ρ σ A R w hdn hI
 replace h0 : R 0 = (.pointer (some ⟨b0, 0, none⟩)) := (hI.reg rfl).trans h0
 have z1 := hI.inivR 0 rfl
 have z2 := (hI.opnR hdn 10 9 rfl rfl rfl rfl rfl).trans z1
 replace hAA := hI.lowK hAA hA0 hN (hO.geK (⟨.inr (fun k h => .inr h), trivial⟩))
 replace hF : Ch (ownsB (.pointer (some ⟨b0, 0, none⟩))) w0 w := hF.tr hI.ch (hO.geK (⟨.inr (fun k h => .inr h), trivial⟩))
 replace hO : IniOK [ob (.pointer (some ⟨b0, 0, none⟩)) (.box B0 84 E_spec_l1Cur (p0.1, p0.2.1, (IntKind.i64.wrap ((IntKind.i64.wrap (p0.2.2 * (6364136223846793005 : Int))) + (1442695040888963407 : Int)))))] A w := hI.left hdn [(10, ob (.pointer (some ⟨b0, 0, none⟩)) (.box B0 84 E_spec_l1Cur (p0.1, p0.2.1, (IntKind.i64.wrap ((IntKind.i64.wrap (p0.2.2 * (6364136223846793005 : Int))) + (1442695040888963407 : Int))))))] ⟨rfl, rfl, z2, rfl, rfl, trivial⟩
 replace hA := hI.avok
 clear hI
 refine HT.seq ?_
 obtain ⟨e3, hr⟩ := ck_some hr
 obtain ⟨e4, hr⟩ := ck_some hr
 refine HT.draw (by kernel_rfl) (l := ⟨_, true, .raw (.pointer (some ⟨b0, 0, none⟩))⟩ :: ⟨_, true, .raw (.pointer (some ⟨b0, 0, none⟩))⟩ :: ⟨_, true, .raw (.pointer (some ⟨b0, 2, none⟩))⟩ :: ⟨_, true, .raw (.int .i64 (IntKind.i64.wrap ((IntKind.i64.wrap (p0.2.2 * (6364136223846793005 : Int))) + (1442695040888963407 : Int))))⟩ :: ⟨_, true, .raw (.int .i64 ((IntKind.i64.wrap ((IntKind.i64.wrap (p0.2.2 * (6364136223846793005 : Int))) + (1442695040888963407 : Int))) / 2 ^ min (33 : Int).toNat 64))⟩ :: ⟨_, true, .raw (.pointer (some ⟨b0, 0, none⟩))⟩ :: ⟨_, true, .raw (.pointer (some ⟨b0, 0, none⟩))⟩ :: ⟨_, true, .raw (.pointer (some ⟨b0, 2, none⟩))⟩ :: ⟨_, true, .raw (.int .i64 (IntKind.i64.wrap ((IntKind.i64.wrap (p0.2.2 * (6364136223846793005 : Int))) + (1442695040888963407 : Int))))⟩ :: ⟨_, true, .raw (.int .i64 ((IntKind.i64.wrap ((IntKind.i64.wrap (p0.2.2 * (6364136223846793005 : Int))) + (1442695040888963407 : Int))) / 2 ^ min (45 : Int).toNat 64))⟩ :: ⟨_, true, .raw (.int .i64 (bitI (fun u v => u ^^^ v) .i64 ((IntKind.i64.wrap ((IntKind.i64.wrap (p0.2.2 * (6364136223846793005 : Int))) + (1442695040888963407 : Int))) / 2 ^ min (33 : Int).toNat 64) ((IntKind.i64.wrap ((IntKind.i64.wrap (p0.2.2 * (6364136223846793005 : Int))) + (1442695040888963407 : Int))) / 2 ^ min (45 : Int).toNat 64)))⟩ :: ⟨_, true, .raw (.int .i64 (bitI (fun u v => u &&& v) .i64 (bitI (fun u v => u ^^^ v) .i64 ((IntKind.i64.wrap ((IntKind.i64.wrap (p0.2.2 * (6364136223846793005 : Int))) + (1442695040888963407 : Int))) / 2 ^ min (33 : Int).toNat 64) ((IntKind.i64.wrap ((IntKind.i64.wrap (p0.2.2 * (6364136223846793005 : Int))) + (1442695040888963407 : Int))) / 2 ^ min (45 : Int).toNat 64)) (255 : Int)))⟩ :: ⟨_, true, .raw (.int .i64 (bitI (fun u v => u &&& v) .i64 (bitI (fun u v => u ^^^ v) .i64 ((IntKind.i64.wrap ((IntKind.i64.wrap (p0.2.2 * (6364136223846793005 : Int))) + (1442695040888963407 : Int))) / 2 ^ min (33 : Int).toNat 64) ((IntKind.i64.wrap ((IntKind.i64.wrap (p0.2.2 * (6364136223846793005 : Int))) + (1442695040888963407 : Int))) / 2 ^ min (45 : Int).toNat 64)) (255 : Int)))⟩ :: []) (tl := []) (by kernel_rfl) (by kernel_rfl) (by kernel_rfl) (by kernel_rfl) ?_ ?_
 ·exact
   Obls.p (fun R' w' hw hs hd => of_move ((hs 0 rfl).trans h0)) <|
   Obls.p (fun R' w' hw hs hd => by have a0 : R' 13 = (.pointer (some ⟨b0, 0, none⟩)) := hd.g 0 rfl; exact of_nilCheck a0) <|
   Obls.p (fun R' w' hw hs hd => by have a0 : R' 14 = (.pointer (some ⟨b0, 0, none⟩)) := hd.g 0 rfl; exact of_fieldAddr_raw a0 ff_84_2 Tryz.sizeOf3 (by decide) rfl) <|
   Obls.p (fun R' w' hw hs hd => by have a0 : R' 15 = (.pointer (some ⟨b0, 2, none⟩)) := hd.g 0 rfl; exact OpF.int (of_load_box ((hO.fr hw).ok 0 _ rfl).1 a0 fl_spec_l1Cur_2 rfl Tryz.isAgg3 Tryz.sizeOf3)) <|
   Obls.p (fun R' w' hw hs hd => by have a0 : R' 16 = .int .i64 (IntKind.i64.wrap ((IntKind.i64.wrap (p0.2.2 * (6364136223846793005 : Int))) + (1442695040888963407 : Int))) := hd.g 0 rfl; exact of_shr a0 rfl e3) <|
   Obls.p (fun R' w' hw hs hd => of_move ((hs 0 rfl).trans h0)) <|
   Obls.p (fun R' w' hw hs hd => by have a0 : R' 18 = (.pointer (some ⟨b0, 0, none⟩)) := hd.g 0 rfl; exact of_nilCheck a0) <|
   Obls.p (fun R' w' hw hs hd => by have a0 : R' 19 = (.pointer (some ⟨b0, 0, none⟩)) := hd.g 0 rfl; exact of_fieldAddr_raw a0 ff_84_2 Tryz.sizeOf3 (by decide) rfl) <|
   Obls.p (fun R' w' hw hs hd => by have a0 : R' 20 = (.pointer (some ⟨b0, 2, none⟩)) := hd.g 0 rfl; exact OpF.int (of_load_box ((hO.fr hw).ok 0 _ rfl).1 a0 fl_spec_l1Cur_2 rfl Tryz.isAgg3 Tryz.sizeOf3)) <|
   Obls.p (fun R' w' hw hs hd => by have a0 : R' 21 = .int .i64 (IntKind.i64.wrap ((IntKind.i64.wrap (p0.2.2 * (6364136223846793005 : Int))) + (1442695040888963407 : Int))) := hd.g 0 rfl; exact of_shr a0 rfl e4) <|
   Obls.p (fun R' w' hw hs hd => by have a0 : R' 17 = .int .i64 ((IntKind.i64.wrap ((IntKind.i64.wrap (p0.2.2 * (6364136223846793005 : Int))) + (1442695040888963407 : Int))) / 2 ^ min (33 : Int).toNat 64) := hd.g 0 rfl; have a1 : R' 22 = .int .i64 ((IntKind.i64.wrap ((IntKind.i64.wrap (p0.2.2 * (6364136223846793005 : Int))) + (1442695040888963407 : Int))) / 2 ^ min (45 : Int).toNat 64) := hd.g 1 rfl; exact of_xor a0 a1) <|
   Obls.p (fun R' w' hw hs hd => by have a0 : R' 23 = .int .i64 (bitI (fun u v => u ^^^ v) .i64 ((IntKind.i64.wrap ((IntKind.i64.wrap (p0.2.2 * (6364136223846793005 : Int))) + (1442695040888963407 : Int))) / 2 ^ min (33 : Int).toNat 64) ((IntKind.i64.wrap ((IntKind.i64.wrap (p0.2.2 * (6364136223846793005 : Int))) + (1442695040888963407 : Int))) / 2 ^ min (45 : Int).toNat 64)) := hd.g 0 rfl; exact of_and a0 rfl) <|
   Obls.p (fun R' w' hw hs hd => by have a0 : R' 24 = .int .i64 (bitI (fun u v => u &&& v) .i64 (bitI (fun u v => u ^^^ v) .i64 ((IntKind.i64.wrap ((IntKind.i64.wrap (p0.2.2 * (6364136223846793005 : Int))) + (1442695040888963407 : Int))) / 2 ^ min (33 : Int).toNat 64) ((IntKind.i64.wrap ((IntKind.i64.wrap (p0.2.2 * (6364136223846793005 : Int))) + (1442695040888963407 : Int))) / 2 ^ min (45 : Int).toNat 64)) (255 : Int)) := hd.g 0 rfl; exact of_assign a0) <|
   Obls.nil
 intro R w hw hs hF'
 replace h0 := (hs 0 rfl).trans h0
 have h3 : R 3 = .int .i64 (bitI (fun u v => u &&& v) .i64 (bitI (fun u v => u ^^^ v) .i64 ((IntKind.i64.wrap ((IntKind.i64.wrap (p0.2.2 * (6364136223846793005 : Int))) + (1442695040888963407 : Int))) / 2 ^ min (33 : Int).toNat 64) ((IntKind.i64.wrap ((IntKind.i64.wrap (p0.2.2 * (6364136223846793005 : Int))) + (1442695040888963407 : Int))) / 2 ^ min (45 : Int).toNat 64)) (255 : Int)) := hF' 12 _ _ rfl rfl rfl
 replace hO := hO.fr hw
 replace hA := hA.fr hw.size
 replace hF := hF.tr (hw.ch noB) fun _ h => False.elim h
 clear hs hF' hw
 refine seqR_nil ?_
 refine HT.seq ?_
 refine HT.seq ?_
 refine HT.draw (by kernel_rfl) (l := ⟨_, true, .raw (.pointer (some ⟨b0, 0, none⟩))⟩ :: ⟨_, true, .raw (.pointer (some ⟨b0, 0, none⟩))⟩ :: ⟨_, true, .raw (.pointer (some ⟨b0, 1, none⟩))⟩ :: ⟨_, true, .raw (.int .i64 p0.2.1)⟩ :: ⟨_, true, .raw (.pointer (some ⟨b0, 0, none⟩))⟩ :: ⟨_, true, .raw (.pointer (some ⟨b0, 0, none⟩))⟩ :: ⟨_, true, .raw (.pointer (some ⟨b0, 0, none⟩))⟩ :: ⟨_, true, .rep (eSl (eInt .u8)) A p0.1⟩ :: ⟨_, true, .raw (.int .i64 (p0.1.length : Int))⟩ :: ⟨_, true, .raw (.bool (decide (p0.2.1 < (p0.1.length : Int))))⟩ :: []) (tl := []) (by kernel_rfl) (by kernel_rfl) (by kernel_rfl) (by kernel_rfl) ?_ ?_
 ·exact
   Obls.p (fun R' w' hw hs hd => of_move ((hs 0 rfl).trans h0)) <|
   Obls.p (fun R' w' hw hs hd => by have a0 : R' 25 = (.pointer (some ⟨b0, 0, none⟩)) := hd.g 0 rfl; exact of_nilCheck a0) <|
   Obls.p (fun R' w' hw hs hd => by have a0 : R' 26 = (.pointer (some ⟨b0, 0, none⟩)) := hd.g 0 rfl; exact of_fieldAddr_raw a0 ff_84_1 Tryz.sizeOf3 (by decide) rfl) <|
   Obls.p (fun R' w' hw hs hd => by have a0 : R' 27 = (.pointer (some ⟨b0, 1, none⟩)) := hd.g 0 rfl; exact OpF.int (of_load_box ((hO.fr hw).ok 0 _ rfl).1 a0 fl_spec_l1Cur_1 rfl Tryz.isAgg3 Tryz.sizeOf3)) <|
   Obls.p (fun R' w' hw hs hd => of_move ((hs 0 rfl).trans h0)) <|
   Obls.p (fun R' w' hw hs hd => by have a0 : R' 29 = (.pointer (some ⟨b0, 0, none⟩)) := hd.g 0 rfl; exact of_nilCheck a0) <|
   Obls.p (fun R' w' hw hs hd => by have a0 : R' 30 = (.pointer (some ⟨b0, 0, none⟩)) := hd.g 0 rfl; exact of_fieldAddr_raw a0 ff_84_0 Tryz.sizeOf22 (by decide) rfl) <|
   Obls.p (fun R' w' hw hs hd => by have a0 : R' 31 = (.pointer (some ⟨b0, 0, none⟩)) := hd.g 0 rfl; exact (of_load_box ((hO.fr hw).ok 0 _ rfl).1 a0 fl_spec_l1Cur_0 rfl Tryz.isAgg22 Tryz.sizeOf22)) <|
   Obls.p (fun R' w' hw hs hd => by have a0 : Rep (eSl (eInt .u8)) A w' (R' 32) p0.1 := hd.g 0 rfl; exact of_len_sl (aT := #[]) a0 Tryz.underlying22) <|
   Obls.p (fun R' w' hw hs hd => by have a0 : R' 28 = .int .i64 p0.2.1 := hd.g 0 rfl; have a1 : R' 33 = .int .i64 (p0.1.length : Int) := hd.g 1 rfl; exact of_lss a0 a1) <|
   Obls.nil
 intro R w hw hs hF'
 replace h0 := (hs 0 rfl).trans h0
 replace h3 := (hs 3 rfl).trans h3
 have h34 : R 34 = .bool (decide (p0.2.1 < (p0.1.length : Int))) := hF' 9 _ _ rfl rfl rfl
 replace hO := hO.fr hw
 replace hA := hA.fr hw.size
 replace hF := hF.tr (hw.ch noB) fun _ h => False.elim h
 clear hs hF' hw
 refine seqR_nil ?_
 refine HT.cond (decide (p0.2.1 < (p0.1.length : Int))) h34 (fun c5 => ?_) (fun c5 => ?_)
 ·have hr := cnd_t c5 hr
  refine HT.seq ?_
  obtain ⟨e6, hr⟩ := ck_some hr
  refine HT.draw (by kernel_rfl) (l := ⟨_, true, .raw (.int .i64 (bitI (fun u v => u &&& v) .i64 (bitI (fun u v => u ^^^ v) .i64 ((IntKind.i64.wrap ((IntKind.i64.wrap (p0.2.2 * (6364136223846793005 : Int))) + (1442695040888963407 : Int))) / 2 ^ min (33 : Int).toNat 64) ((IntKind.i64.wrap ((IntKind.i64.wrap (p0.2.2 * (6364136223846793005 : Int))) + (1442695040888963407 : Int))) / 2 ^ min (45 : Int).toNat 64)) (255 : Int)))⟩ :: ⟨_, true, .raw (.pointer (some ⟨b0, 0, none⟩))⟩ :: ⟨_, true, .raw (.pointer (some ⟨b0, 0, none⟩))⟩ :: ⟨_, true, .raw (.pointer (some ⟨b0, 0, none⟩))⟩ :: ⟨_, true, .rep (eSl (eInt .u8)) A p0.1⟩ :: ⟨_, true, .raw (.pointer (some ⟨b0, 0, none⟩))⟩ :: ⟨_, true, .raw (.pointer (some ⟨b0, 0, none⟩))⟩ :: ⟨_, true, .raw (.pointer (some ⟨b0, 1, none⟩))⟩ :: ⟨_, true, .raw (.int .i64 p0.2.1)⟩ :: ⟨_, true, .qtr (eInt .u8) A (gtD p0.1 p0.2.1)⟩ :: ⟨_, true, .raw (.int .u8 (gtD p0.1 p0.2.1))⟩ :: ⟨_, true, .raw (.int .i64 (IntKind.i64.wrap (gtD p0.1 p0.2.1)))⟩ :: ⟨_, true, .raw (.int .i64 (IntKind.i64.wrap ((bitI (fun u v => u &&& v) .i64 (bitI (fun u v => u ^^^ v) .i64 ((IntKind.i64.wrap ((IntKind.i64.wrap (p0.2.2 * (6364136223846793005 : Int))) + (1442695040888963407 : Int))) / 2 ^ min (33 : Int).toNat 64) ((IntKind.i64.wrap ((IntKind.i64.wrap (p0.2.2 * (6364136223846793005 : Int))) + (1442695040888963407 : Int))) / 2 ^ min (45 : Int).toNat 64)) (255 : Int)) + (IntKind.i64.wrap (gtD p0.1 p0.2.1)))))⟩ :: ⟨_, true, .raw (.int .i64 (bitI (fun u v => u &&& v) .i64 (IntKind.i64.wrap ((bitI (fun u v => u &&& v) .i64 (bitI (fun u v => u ^^^ v) .i64 ((IntKind.i64.wrap ((IntKind.i64.wrap (p0.2.2 * (6364136223846793005 : Int))) + (1442695040888963407 : Int))) / 2 ^ min (33 : Int).toNat 64) ((IntKind.i64.wrap ((IntKind.i64.wrap (p0.2.2 * (6364136223846793005 : Int))) + (1442695040888963407 : Int))) / 2 ^ min (45 : Int).toNat 64)) (255 : Int)) + (IntKind.i64.wrap (gtD p0.1 p0.2.1)))) (255 : Int)))⟩ :: ⟨_, true, .raw (.int .i64 (bitI (fun u v => u &&& v) .i64 (IntKind.i64.wrap ((bitI (fun u v => u &&& v) .i64 (bitI (fun u v => u ^^^ v) .i64 ((IntKind.i64.wrap ((IntKind.i64.wrap (p0.2.2 * (6364136223846793005 : Int))) + (1442695040888963407 : Int))) / 2 ^ min (33 : Int).toNat 64) ((IntKind.i64.wrap ((IntKind.i64.wrap (p0.2.2 * (6364136223846793005 : Int))) + (1442695040888963407 : Int))) / 2 ^ min (45 : Int).toNat 64)) (255 : Int)) + (IntKind.i64.wrap (gtD p0.1 p0.2.1)))) (255 : Int)))⟩ :: []) (tl := []) (by kernel_rfl) (by kernel_rfl) (by kernel_rfl) (by kernel_rfl) ?_ ?_
  ·exact
    Obls.p (fun R' w' hw hs hd => of_move ((hs 3 rfl).trans h3)) <|
    Obls.p (fun R' w' hw hs hd => of_move ((hs 0 rfl).trans h0)) <|
    Obls.p (fun R' w' hw hs hd => by have a0 : R' 36 = (.pointer (some ⟨b0, 0, none⟩)) := hd.g 0 rfl; exact of_nilCheck a0) <|
    Obls.p (fun R' w' hw hs hd => by have a0 : R' 37 = (.pointer (some ⟨b0, 0, none⟩)) := hd.g 0 rfl; exact of_fieldAddr_raw a0 ff_84_0 Tryz.sizeOf22 (by decide) rfl) <|
    Obls.p (fun R' w' hw hs hd => by have a0 : R' 38 = (.pointer (some ⟨b0, 0, none⟩)) := hd.g 0 rfl; exact (of_load_box ((hO.fr hw).ok 0 _ rfl).1 a0 fl_spec_l1Cur_0 rfl Tryz.isAgg22 Tryz.sizeOf22)) <|
    Obls.p (fun R' w' hw hs hd => of_move ((hs 0 rfl).trans h0)) <|
    Obls.p (fun R' w' hw hs hd => by have a0 : R' 40 = (.pointer (some ⟨b0, 0, none⟩)) := hd.g 0 rfl; exact of_nilCheck a0) <|
    Obls.p (fun R' w' hw hs hd => by have a0 : R' 41 = (.pointer (some ⟨b0, 0, none⟩)) := hd.g 0 rfl; exact of_fieldAddr_raw a0 ff_84_1 Tryz.sizeOf3 (by decide) rfl) <|
    Obls.p (fun R' w' hw hs hd => by have a0 : R' 42 = (.pointer (some ⟨b0, 1, none⟩)) := hd.g 0 rfl; exact OpF.int (of_load_box ((hO.fr hw).ok 0 _ rfl).1 a0 fl_spec_l1Cur_1 rfl Tryz.isAgg3 Tryz.sizeOf3)) <|
    Obls.p (fun R' w' hw hs hd => by have a0 : Rep (eSl (eInt .u8)) A w' (R' 39) p0.1 := hd.g 0 rfl; have a1 : R' 43 = .int .i64 p0.2.1 := hd.g 1 rfl; exact of_indexAddr a0 a1 Tryz.underlying22 Tryz.sizeOf5 e6) <|
    Obls.p (fun R' w' hw hs hd => by have a0 : QRep (eInt .u8) A w' (R' 44) (gtD p0.1 p0.2.1) := hd.g 0 rfl; exact OpF.int (of_load a0.ptr Tryz.isAgg5 Tryz.sizeOf5)) <|
    Obls.p (fun R' w' hw hs hd => by have a0 : R' 45 = .int .u8 (gtD p0.1 p0.2.1) := hd.g 0 rfl; exact of_conv_int a0 Tryz.underlying5 Tryz.underlying3) <|
    Obls.p (fun R' w' hw hs hd => by have a0 : R' 35 = .int .i64 (bitI (fun u v => u &&& v) .i64 (bitI (fun u v => u ^^^ v) .i64 ((IntKind.i64.wrap ((IntKind.i64.wrap (p0.2.2 * (6364136223846793005 : Int))) + (1442695040888963407 : Int))) / 2 ^ min (33 : Int).toNat 64) ((IntKind.i64.wrap ((IntKind.i64.wrap (p0.2.2 * (6364136223846793005 : Int))) + (1442695040888963407 : Int))) / 2 ^ min (45 : Int).toNat 64)) (255 : Int)) := hd.g 0 rfl; have a1 : R' 46 = .int .i64 (IntKind.i64.wrap (gtD p0.1 p0.2.1)) := hd.g 1 rfl; exact of_add_w a0 a1) <|
    Obls.p (fun R' w' hw hs hd => by have a0 : R' 47 = .int .i64 (IntKind.i64.wrap ((bitI (fun u v => u &&& v) .i64 (bitI (fun u v => u ^^^ v) .i64 ((IntKind.i64.wrap ((IntKind.i64.wrap (p0.2.2 * (6364136223846793005 : Int))) + (1442695040888963407 : Int))) / 2 ^ min (33 : Int).toNat 64) ((IntKind.i64.wrap ((IntKind.i64.wrap (p0.2.2 * (6364136223846793005 : Int))) + (1442695040888963407 : Int))) / 2 ^ min (45 : Int).toNat 64)) (255 : Int)) + (IntKind.i64.wrap (gtD p0.1 p0.2.1)))) := hd.g 0 rfl; exact of_and a0 rfl) <|
    Obls.p (fun R' w' hw hs hd => by have a0 : R' 48 = .int .i64 (bitI (fun u v => u &&& v) .i64 (IntKind.i64.wrap ((bitI (fun u v => u &&& v) .i64 (bitI (fun u v => u ^^^ v) .i64 ((IntKind.i64.wrap ((IntKind.i64.wrap (p0.2.2 * (6364136223846793005 : Int))) + (1442695040888963407 : Int))) / 2 ^ min (33 : Int).toNat 64) ((IntKind.i64.wrap ((IntKind.i64.wrap (p0.2.2 * (6364136223846793005 : Int))) + (1442695040888963407 : Int))) / 2 ^ min (45 : Int).toNat 64)) (255 : Int)) + (IntKind.i64.wrap (gtD p0.1 p0.2.1)))) (255 : Int)) := hd.g 0 rfl; exact of_assign a0) <|
    Obls.nil
  intro R w hw hs hF'
  replace h0 := (hs 0 rfl).trans h0
  have h3 : R 3 = .int .i64 (bitI (fun u v => u &&& v) .i64 (IntKind.i64.wrap ((bitI (fun u v => u &&& v) .i64 (bitI (fun u v => u ^^^ v) .i64 ((IntKind.i64.wrap ((IntKind.i64.wrap (p0.2.2 * (6364136223846793005 : Int))) + (1442695040888963407 : Int))) / 2 ^ min (33 : Int).toNat 64) ((IntKind.i64.wrap ((IntKind.i64.wrap (p0.2.2 * (6364136223846793005 : Int))) + (1442695040888963407 : Int))) / 2 ^ min (45 : Int).toNat 64)) (255 : Int)) + (IntKind.i64.wrap (gtD p0.1 p0.2.1)))) (255 : Int)) := hF' 14 _ _ rfl rfl rfl
  replace hO := hO.fr hw
  replace hA := hA.fr hw.size
  replace hF := hF.tr (hw.ch noB) fun _ h => False.elim h
  clear hs hF' hw
  refine seqR_nil ?_
  refine HT.textR [ob (.pointer (some ⟨b0, 0, none⟩)) (.box B0 84 E_spec_l1Cur (p0.1, p0.2.1, (IntKind.i64.wrap ((IntKind.i64.wrap (p0.2.2 * (6364136223846793005 : Int))) + (1442695040888963407 : Int)))))] (⟨_, true, [], none, true, fun A => .raw (.pointer (some ⟨b0, 0, none⟩))⟩ :: ⟨_, true, [], none, true, fun A => .raw (.pointer (some ⟨b0, 0, none⟩))⟩ :: ⟨_, true, [], none, true, fun A => .raw (.pointer (some ⟨b0, 0, none⟩))⟩ :: ⟨_, true, [], none, true, fun A => .raw (.pointer (some ⟨b0, 1, none⟩))⟩ :: ⟨_, true, [], none, true, fun A => .raw (.int .i64 p0.2.1)⟩ :: ⟨_, true, [], none, true, fun A => .raw (.int .i64 (IntKind.i64.wrap (p0.2.1 + (1 : Int))))⟩ :: ⟨_, true, [], none, true, fun A => .raw (.pointer (some ⟨b0, 0, none⟩))⟩ :: ⟨_, true, [], none, true, fun A => .raw (.pointer (some ⟨b0, 1, none⟩))⟩ :: ⟨_, true, [0], some (.box B0 84 E_spec_l1Cur (p0.1, (IntKind.i64.wrap (p0.2.1 + (1 : Int))), (IntKind.i64.wrap ((IntKind.i64.wrap (p0.2.2 * (6364136223846793005 : Int))) + (1442695040888963407 : Int))))), false, fun A => .any⟩ :: []) (by kernel_rfl) (by kernel_rfl) (Wf.mk' (by kernel_rfl) (UAll.cons ust_raw (UAll.cons ust_raw (UAll.cons ust_raw (UAll.cons ust_raw (UAll.cons ust_raw (UAll.cons ust_raw (UAll.cons ust_raw (UAll.cons ust_raw (UAll.cons ust_any (UAll.nil)))))))))) (by kernel_rfl) (by kernel_rfl)) hO hA ?_ ?_
  ·exact
    OblsR.p (fun A' R' w' ho hd => of_move ((ho.old 0 rfl).trans h0)) <|
    OblsR.p (fun A' R' w' ho hd => of_move ((ho.old 0 rfl).trans h0)) <|
    OblsR.p (fun A' R' w' ho hd => by have a0 : R' 50 = (.pointer (some ⟨b0, 0, none⟩)) := hd.g 0 rfl; exact of_nilCheck a0) <|
    OblsR.p (fun A' R' w' ho hd => by have a0 : R' 51 = (.pointer (some ⟨b0, 0, none⟩)) := hd.g 0 rfl; exact of_fieldAddr_raw a0 ff_84_1 Tryz.sizeOf3 (by decide) rfl) <|
    OblsR.p (fun A' R' w' ho hd => by have a0 : R' 52 = (.pointer (some ⟨b0, 1, none⟩)) := hd.g 0 rfl; exact OpF.int (of_load_box (ho.rd 0 _ rfl rfl) a0 fl_spec_l1Cur_1 rfl Tryz.isAgg3 Tryz.sizeOf3)) <|
    OblsR.p (fun A' R' w' ho hd => by have a0 : R' 53 = .int .i64 p0.2.1 := hd.g 0 rfl; exact of_add_w a0 rfl) <|
    OblsR.p (fun A' R' w' ho hd => by have a0 : R' 49 = (.pointer (some ⟨b0, 0, none⟩)) := hd.g 0 rfl; exact of_nilCheck a0) <|
    OblsR.p (fun A' R' w' ho hd => by have a0 : R' 55 = (.pointer (some ⟨b0, 0, none⟩)) := hd.g 0 rfl; exact of_fieldAddr_raw a0 ff_84_1 Tryz.sizeOf3 (by decide) rfl) <|
    OblsR.cons (OblR.took 0 _ _ rfl rfl rfl rfl rfl fun A' R' w' ho hd u hok hav hin hop hds => by have a0 : R' 56 = (.pointer (some ⟨b0, 1, none⟩)) := hd.g 0 rfl; have a1 : R' 54 = .int .i64 (IntKind.i64.wrap (p0.2.1 + (1 : Int))) := hd.g 1 rfl; exact took_store (rep_int.eq a1) a0 (hin _ rfl) hok hav fs_spec_l1Cur_1 Tryz.sizeOf3 rfl) <|
    OblsR.nil
  intro done ρ σ A R w hdn hI
  replace h3 : R 3 = .int .i64 (bitI (fun u v => u &&& v) .i64 (IntKind.i64.wrap ((bitI (fun u v => u &&& v) .i64 (bitI (fun u v => u ^^^ v) .i64 ((IntKind.i64.wrap ((IntKind.i64.wrap (p0.2.2 * (6364136223846793005 : Int))) + (1442695040888963407 : Int))) / 2 ^ min (33 : Int).toNat 64) ((IntKind.i64.wrap ((IntKind.i64.wrap (p0.2.2 * (6364136223846793005 : Int))) + (1442695040888963407 : Int))) / 2 ^ min (45 : Int).toNat 64)) (255 : Int)) + (IntKind.i64.wrap (gtD p0.1 p0.2.1)))) (255 : Int)) := (hI.reg rfl).trans h3
  have z7 := hI.inivR 0 rfl
  have z8 := (hI.opnR hdn 9 8 rfl rfl rfl rfl rfl).trans z7
  replace hAA := hI.lowK hAA hA0 hN (hO.geK (⟨.inr (fun k h => .inr h), trivial⟩))
  replace hF : Ch (ownsB (.pointer (some ⟨b0, 0, none⟩))) w0 w := hF.tr hI.ch (hO.geK (⟨.inr (fun k h => .inr h), trivial⟩))
  replace hO : IniOK [ob (.pointer (some ⟨b0, 0, none⟩)) (.box B0 84 E_spec_l1Cur (p0.1, (IntKind.i64.wrap (p0.2.1 + (1 : Int))), (IntKind.i64.wrap ((IntKind.i64.wrap (p0.2.2 * (6364136223846793005 : Int))) + (1442695040888963407 : Int)))))] A w := hI.left hdn [(9, ob (.pointer (some ⟨b0, 0, none⟩)) (.box B0 84 E_spec_l1Cur (p0.1, (IntKind.i64.wrap (p0.2.1 + (1 : Int))), (IntKind.i64.wrap ((IntKind.i64.wrap (p0.2.2 * (6364136223846793005 : Int))) + (1442695040888963407 : Int))))))] ⟨rfl, rfl, z8, rfl, rfl, trivial⟩
  replace hA := hI.avok
  clear hI
  refine HT.seq ?_
  refine HT.text (l := ⟨_, true, .raw (.int .i64 (bitI (fun u v => u &&& v) .i64 (IntKind.i64.wrap ((bitI (fun u v => u &&& v) .i64 (bitI (fun u v => u ^^^ v) .i64 ((IntKind.i64.wrap ((IntKind.i64.wrap (p0.2.2 * (6364136223846793005 : Int))) + (1442695040888963407 : Int))) / 2 ^ min (33 : Int).toNat 64) ((IntKind.i64.wrap ((IntKind.i64.wrap (p0.2.2 * (6364136223846793005 : Int))) + (1442695040888963407 : Int))) / 2 ^ min (45 : Int).toNat 64)) (255 : Int)) + (IntKind.i64.wrap (gtD p0.1 p0.2.1)))) (255 : Int)))⟩ :: ⟨_, true, .raw (.int .i64 (bitI (fun u v => u &&& v) .i64 (IntKind.i64.wrap ((bitI (fun u v => u &&& v) .i64 (bitI (fun u v => u ^^^ v) .i64 ((IntKind.i64.wrap ((IntKind.i64.wrap (p0.2.2 * (6364136223846793005 : Int))) + (1442695040888963407 : Int))) / 2 ^ min (33 : Int).toNat 64) ((IntKind.i64.wrap ((IntKind.i64.wrap (p0.2.2 * (6364136223846793005 : Int))) + (1442695040888963407 : Int))) / 2 ^ min (45 : Int).toNat 64)) (255 : Int)) + (IntKind.i64.wrap (gtD p0.1 p0.2.1)))) (255 : Int)))⟩ :: []) (tl := []) (by kernel_rfl) (by kernel_rfl) (by kernel_rfl) ?_ ?_
  ·exact
    Obls.p (fun R' w' hw hs hd => of_move ((hs 3 rfl).trans h3)) <|
    Obls.p (fun R' w' hw hs hd => by have a0 : R' 57 = .int .i64 (bitI (fun u v => u &&& v) .i64 (IntKind.i64.wrap ((bitI (fun u v => u &&& v) .i64 (bitI (fun u v => u ^^^ v) .i64 ((IntKind.i64.wrap ((IntKind.i64.wrap (p0.2.2 * (6364136223846793005 : Int))) + (1442695040888963407 : Int))) / 2 ^ min (33 : Int).toNat 64) ((IntKind.i64.wrap ((IntKind.i64.wrap (p0.2.2 * (6364136223846793005 : Int))) + (1442695040888963407 : Int))) / 2 ^ min (45 : Int).toNat 64)) (255 : Int)) + (IntKind.i64.wrap (gtD p0.1 p0.2.1)))) (255 : Int)) := hd.g 0 rfl; exact of_assign a0) <|
    Obls.nil
  intro R w hw hs hF'
  have h2 : R 2 = .int .i64 (bitI (fun u v => u &&& v) .i64 (IntKind.i64.wrap ((bitI (fun u v => u &&& v) .i64 (bitI (fun u v => u ^^^ v) .i64 ((IntKind.i64.wrap ((IntKind.i64.wrap (p0.2.2 * (6364136223846793005 : Int))) + (1442695040888963407 : Int))) / 2 ^ min (33 : Int).toNat 64) ((IntKind.i64.wrap ((IntKind.i64.wrap (p0.2.2 * (6364136223846793005 : Int))) + (1442695040888963407 : Int))) / 2 ^ min (45 : Int).toNat 64)) (255 : Int)) + (IntKind.i64.wrap (gtD p0.1 p0.2.1)))) (255 : Int)) := hF' 1 _ _ rfl rfl rfl
  replace hO := hO.fr hw
  replace hA := hA.fr hw.size
  replace hF := hF.tr (hw.ch noB) fun _ h => False.elim h
  clear hs hF' hw
  refine seqR_nil ?_
  refine HT.ret ?_
  obtain rfl := Option.some.inj hr
  obtain ⟨A1, hA1, hG1⟩ := GPost.of hO hA hAA (hO.geK (⟨.inr (fun k h => .inr h), trivial⟩)) hF
  exact ⟨.inr rfl, [R 2], ⟨rfl, trivial⟩, A1, hG1, h2⟩
 ·have hr := cnd_f c5 hr
  refine HT.skip ?_
  refine HT.seq ?_
  refine HT.text (l := ⟨_, true, .raw (.int .i64 (bitI (fun u v => u &&& v) .i64 (bitI (fun u v => u ^^^ v) .i64 ((IntKind.i64.wrap ((IntKind.i64.wrap (p0.2.2 * (6364136223846793005 : Int))) + (1442695040888963407 : Int))) / 2 ^ min (33 : Int).toNat 64) ((IntKind.i64.wrap ((IntKind.i64.wrap (p0.2.2 * (6364136223846793005 : Int))) + (1442695040888963407 : Int))) / 2 ^ min (45 : Int).toNat 64)) (255 : Int)))⟩ :: ⟨_, true, .raw (.int .i64 (bitI (fun u v => u &&& v) .i64 (bitI (fun u v => u ^^^ v) .i64 ((IntKind.i64.wrap ((IntKind.i64.wrap (p0.2.2 * (6364136223846793005 : Int))) + (1442695040888963407 : Int))) / 2 ^ min (33 : Int).toNat 64) ((IntKind.i64.wrap ((IntKind.i64.wrap (p0.2.2 * (6364136223846793005 : Int))) + (1442695040888963407 : Int))) / 2 ^ min (45 : Int).toNat 64)) (255 : Int)))⟩ :: []) (tl := []) (by kernel_rfl) (by kernel_rfl) (by kernel_rfl) ?_ ?_
  ·exact
    Obls.p (fun R' w' hw hs hd => of_move ((hs 3 rfl).trans h3)) <|
    Obls.p (fun R' w' hw hs hd => by have a0 : R' 57 = .int .i64 (bitI (fun u v => u &&& v) .i64 (bitI (fun u v => u ^^^ v) .i64 ((IntKind.i64.wrap ((IntKind.i64.wrap (p0.2.2 * (6364136223846793005 : Int))) + (1442695040888963407 : Int))) / 2 ^ min (33 : Int).toNat 64) ((IntKind.i64.wrap ((IntKind.i64.wrap (p0.2.2 * (6364136223846793005 : Int))) + (1442695040888963407 : Int))) / 2 ^ min (45 : Int).toNat 64)) (255 : Int)) := hd.g 0 rfl; exact of_assign a0) <|
    Obls.nil
  intro R w hw hs hF'
  have h2 : R 2 = .int .i64 (bitI (fun u v => u &&& v) .i64 (bitI (fun u v => u ^^^ v) .i64 ((IntKind.i64.wrap ((IntKind.i64.wrap (p0.2.2 * (6364136223846793005 : Int))) + (1442695040888963407 : Int))) / 2 ^ min (33 : Int).toNat 64) ((IntKind.i64.wrap ((IntKind.i64.wrap (p0.2.2 * (6364136223846793005 : Int))) + (1442695040888963407 : Int))) / 2 ^ min (45 : Int).toNat 64)) (255 : Int)) := hF' 1 _ _ rfl rfl rfl
  replace hO := hO.fr hw
  replace hA := hA.fr hw.size
  replace hF := hF.tr (hw.ch noB) fun _ h => False.elim h
  clear hs hF' hw
  refine seqR_nil ?_
  refine HT.ret ?_
  obtain rfl := Option.some.inj hr
  obtain ⟨A1, hA1, hG1⟩ := GPost.of hO hA hAA (hO.geK (⟨.inr (fun k h => .inr h), trivial⟩)) hF
  exact ⟨.inr rfl, [R 2], ⟨rfl, trivial⟩, A1, hG1, h2⟩
def M_spec_l1Below (fu : Nat) (p0 : T_spec_l1Cur) (p1 : Int) : Option (Int × T_spec_l1Cur) :=
 bif (decide (p1 ≤ (0 : Int))) then (
  some ((0 : Int), p0)
 ) else (
  bif (decide (p1 ≤ (256 : Int))) then (
   cl true (M_spec_l1Byte fu p0) fun x4 =>
   ck (p1 != 0) <|
   some ((x4.1.tmod p1), x4.2)
  ) else (
   cl true (M_spec_l1Byte fu p0) fun x9 =>
   cl true (M_spec_l1Byte fu x9.2) fun x13 =>
   cl true (M_spec_l1Byte fu x13.2) fun x17 =>
   cl true (M_spec_l1Byte fu x17.2) fun x21 =>
   ck (i64B (x9.1 * (16777216 : Int))) <|
   ck (i64B (x13.1 * (65536 : Int))) <|
   ck (i64B ((x9.1 * (16777216 : Int)) + (x13.1 * (65536 : Int)))) <|
   ck (i64B (x17.1 * (256 : Int))) <|
   ck (i64B (((x9.1 * (16777216 : Int)) + (x13.1 * (65536 : Int))) + (x17.1 * (256 : Int)))) <|
   ck (i64B ((((x9.1 * (16777216 : Int)) + (x13.1 * (65536 : Int))) + (x17.1 * (256 : Int))) + x21.1)) <|
   ck (p1 != 0) <|
   some ((((((x9.1 * (16777216 : Int)) + (x13.1 * (65536 : Int))) + (x17.1 * (256 : Int))) + x21.1).tmod p1), x21.2)
  )
 )
theorem M_spec_l1Below_ok {fu : Nat} {Aq : Av} {p0 : T_spec_l1Cur} {p1 : Int} {r : Int × T_spec_l1Cur} (hr : M_spec_l1Below fu p0 p1 = some r) {w : World} {v0 : Value} {v1 : Value} {b0 B0 : Nat} (hA : AvOK Aq w) (h0 : v0 = .pointer (some ⟨b0, 0, none⟩)) (hO0 : IniOK [ob (.pointer (some ⟨b0, 0, none⟩)) (.box B0 84 E_spec_l1Cur p0)] Aq w) (h1 : v1 = .int .i64 p1) :
  Calls Tryz.prog 73 #[v0, v1] w fun e w' => ∃ v, e = .returned v ∧ (∃ (A1 : Av), GPost (subS Aq (ownsB (.pointer (some ⟨b0, 0, none⟩)))) (ownsB (.pointer (some ⟨b0, 0, none⟩))) w [ob (.pointer (some ⟨b0, 0, none⟩)) (.box B0 84 E_spec_l1Cur r.2)] A1 w' ∧ (Fact.raw (.int .i64 r.1)).ok v w') := by
 unfold M_spec_l1Below at hr
 obtain ⟨w0, hw0⟩ : ∃ w0, w0 = w := ⟨_, rfl⟩
 have hF : Ch (ownsB (.pointer (some ⟨b0, 0, none⟩))) w0 w := hw0 ▸ Ch.refl _ _
 obtain ⟨A0, hA0e⟩ : ∃ A0, A0 = subS Aq (ownsB (.pointer (some ⟨b0, 0, none⟩))) := ⟨_, rfl⟩
 have hA0 : ∀ b o, A0 b o → b < w0.heap.size := fun b o h => hw0 ▸ hA b o (hA0e ▸ h : subS Aq _ b o).1
 have hN : ∀ b o, A0 b o → ¬ (ownsB (.pointer (some ⟨b0, 0, none⟩))) b := fun b o h => (hA0e ▸ h : subS Aq _ b o).2
 have hA00 : AvOK A0 w0 := hA0
 rw [show GPost (subS Aq (ownsB (.pointer (some ⟨b0, 0, none⟩)))) (ownsB (.pointer (some ⟨b0, 0, none⟩))) w = GPost A0 (ownsB (.pointer (some ⟨b0, 0, none⟩))) w0 from by rw [hA0e, hw0]]
 clear hw0
 obtain ⟨A, hAe⟩ : ∃ A, A = Aq := ⟨_, rfl⟩
 have hAA : ∀ b o, A0 b o → A b o := fun b o h => hAe ▸ (hA0e ▸ h : subS Aq _ b o).1
 replace hA : AvOK A w := hAe ▸ hA
 have hO : IniOK [ob (.pointer (some ⟨b0, 0, none⟩)) (.box B0 84 E_spec_l1Cur p0)] A w := hAe ▸ hO0
 clear hA0e hO0
 refine calls_of_HT2 [.tmp 4] Tryz.func73 Tryz.ntmps73 (by decide) rfl rfl (Nat.le_of_ble_eq_true rfl) ?_
 intro R hR
 replace h0 : R 0 = .pointer (some ⟨b0, 0, none⟩) := (hR 0 _ rfl).trans h0
 replace h1 : R 1 = .int .i64 p1 := (hR 1 _ rfl).trans h1
 clear hR hAe
 refine HT.seq ?_
 refine HT.text (l := ⟨_, true, .raw (.int .i64 (0 : Int))⟩ :: []) (tl := []) (by kernel_rfl) (by kernel_rfl) (by kernel_rfl) ?_ ?_
 ·exact
   Obls.p (fun R' w' hw hs hd => of_assign rfl) <|
   Obls.nil
 intro R w hw hs hF'
 replace h0 := (hs 0 rfl).trans h0
 replace h1 := (hs 1 rfl).trans h1
 replace hO := hO.fr hw
 replace hA := hA.fr hw.size
 replace hF := hF.tr (hw.ch noB) fun _ h => False.elim h
 clear hs hF' hw
 refine seqR_nil ?_
 refine HT.seq ?_
 refine HT.seq ?_
 refine HT.text (l := ⟨_, true, .raw (.int .i64 p1)⟩ :: ⟨_, true, .raw (.bool (decide (p1 ≤ (0 : Int))))⟩ :: []) (tl := []) (by kernel_rfl) (by kernel_rfl) (by kernel_rfl) ?_ ?_
 ·exact
   Obls.p (fun R' w' hw hs hd => of_move ((hs 1 rfl).trans h1)) <|
   Obls.p (fun R' w' hw hs hd => by have a0 : R' 9 = .int .i64 p1 := hd.g 0 rfl; exact of_leq a0 rfl) <|
   Obls.nil
 intro R w hw hs hF'
 replace h0 := (hs 0 rfl).trans h0
 replace h1 := (hs 1 rfl).trans h1
 have h10 : R 10 = .bool (decide (p1 ≤ (0 : Int))) := hF' 1 _ _ rfl rfl rfl
 replace hO := hO.fr hw
 replace hA := hA.fr hw.size
 replace hF := hF.tr (hw.ch noB) fun _ h => False.elim h
 clear hs hF' hw
 refine seqR_nil ?_
 refine HT.cond (decide (p1 ≤ (0 : Int))) h10 (fun c1 => ?_) (fun c1 => ?_)
 ·have hr := cnd_t c1 hr
  refine HT.seq ?_
  refine HT.text (l := ⟨_, true, .raw (.int .i64 (0 : Int))⟩ :: []) (tl := []) (by kernel_rfl) (by kernel_rfl) (by kernel_rfl) ?_ ?_
  ·exact
    Obls.p (fun R' w' hw hs hd => of_assign rfl) <|
    Obls.nil
  intro R w hw hs hF'
  have h4 : R 4 = .int .i64 (0 : Int) := hF' 0 _ _ rfl rfl rfl
  replace hO := hO.fr hw
  replace hA := hA.fr hw.size
  replace hF := hF.tr (hw.ch noB) fun _ h => False.elim h
  clear hs hF' hw
  refine seqR_nil ?_
  refine HT.ret ?_
  obtain rfl := Option.some.inj hr
  obtain ⟨A1, hA1, hG1⟩ := GPost.of hO hA hAA (hO.geK (⟨.inr (fun k h => .inr h), trivial⟩)) hF
  exact ⟨.inr rfl, [R 4], ⟨rfl, trivial⟩, A1, hG1, h4⟩
 ·have hr := cnd_f c1 hr
  refine HT.skip ?_
  refine HT.seq ?_
  refine HT.seq ?_
  refine HT.text (l := ⟨_, true, .raw (.int .i64 p1)⟩ :: ⟨_, true, .raw (.bool (decide (p1 ≤ (256 : Int))))⟩ :: []) (tl := []) (by kernel_rfl) (by kernel_rfl) (by kernel_rfl) ?_ ?_
  ·exact
    Obls.p (fun R' w' hw hs hd => of_move ((hs 1 rfl).trans h1)) <|
    Obls.p (fun R' w' hw hs hd => by have a0 : R' 11 = .int .i64 p1 := hd.g 0 rfl; exact of_leq a0 rfl) <|
    Obls.nil
  intro R w hw hs hF'
  replace h0 := (hs 0 rfl).trans h0
  replace h1 := (hs 1 rfl).trans h1
  have h12 : R 12 = .bool (decide (p1 ≤ (256 : Int))) := hF' 1 _ _ rfl rfl rfl
  replace hO := hO.fr hw
  replace hA := hA.fr hw.size
  replace hF := hF.tr (hw.ch noB) fun _ h => False.elim h
  clear hs hF' hw
  refine seqR_nil ?_
  refine HT.cond (decide (p1 ≤ (256 : Int))) h12 (fun c2 => ?_) (fun c2 => ?_)
  ·have hr := cnd_t c2 hr
   refine HT.seq ?_
   refine SG.of ?_
   refine SG.textR [ob (.pointer (some ⟨b0, 0, none⟩)) (.box B0 84 E_spec_l1Cur p0)] (⟨_, true, [], none, true, fun A => .raw (.pointer (some ⟨b0, 0, none⟩))⟩ :: []) 1 rfl rfl rfl (by kernel_rfl) (by kernel_rfl) (Wf.mk' (by kernel_rfl) (UAll.cons ust_raw (UAll.nil)) (by kernel_rfl) (by kernel_rfl)) hO hA (trivial) ?_ ?_
   ·exact
     OblsR.p (fun A' R' w' ho hd => of_move ((ho.old 0 rfl).trans h0)) <|
     OblsR.nil
   intro done ρ σ A R w hdn hI
   replace h1 : R 1 = .int .i64 p1 := (hI.reg rfl).trans h1
   have z3 := hI.inivR 0 rfl
   have h13 : R 13 = (.pointer (some ⟨b0, 0, none⟩)) := hI.fact hdn (i := 0) rfl rfl rfl
   replace hAA := hI.lowK hAA hA0 hN (hO.geK (⟨.inr (fun k h => .inr h), trivial⟩))
   replace hF : Ch (ownsB (.pointer (some ⟨b0, 0, none⟩))) w0 w := hF.tr hI.ch (hO.geK (⟨.inr (fun k h => .inr h), trivial⟩))
   replace hO : IniOK [ob (.pointer (some ⟨b0, 0, none⟩)) (.box B0 84 E_spec_l1Cur p0)] A w := hI.left hdn [(0, ob (.pointer (some ⟨b0, 0, none⟩)) (.box B0 84 E_spec_l1Cur p0))] ⟨rfl, rfl, z3, rfl, rfl, trivial⟩
   replace hA := hI.avok
   clear hI
   obtain ⟨x4, q5, hr⟩ := cl_some hr
   have hFz : w0.heap.size ≤ w.heap.size := hF.size
   refine SG.op 14 rfl rfl rfl rfl (call_run Tryz.call97 (M_spec_l1Byte_ok (q5 rfl) hA h13 (hO.sub [(0, ob (.pointer (some ⟨b0, 0, none⟩)) (.box B0 84 E_spec_l1Cur p0))] ⟨rfl, rfl, trivial⟩))) ?_
   rintro v_ w ⟨A, hG1, hv⟩ R hs hd
   have hst := stp_call hA hG1 (hO.ok 0 _ rfl).2
   replace hAA : ∀ b o, A0 b o → A b o := low_callK hAA hA0 hN (hO.geK (⟨.inr (fun k h => .inr h), trivial⟩)) 0 rfl hG1
   replace hF : Ch (ownsB (.pointer (some ⟨b0, 0, none⟩))) w0 w := hF.tr hG1.ch (fun k hk => (hO.geK (⟨.inr (fun k h => .inr h), trivial⟩)) k ⟨0, _, rfl, hk⟩)
   replace hO := GPost.next hO hA 0 rfl hG1
   replace hA := hG1.avok
   replace hO : IniOK [ob (.pointer (some ⟨b0, 0, none⟩)) (.box B0 84 E_spec_l1Cur x4.2)] A w := hO
   replace h1 := (hs 1 rfl).trans h1
   replace h13 := (hs 13 rfl).trans h13
   have h14 : R 14 = .int .i64 x4.1 := hd.trans hv
   clear hFz hG1 hv hs hd
   obtain ⟨e6, hr⟩ := ck_some hr
   refine SG.textR [ob (.pointer (some ⟨b0, 0, none⟩)) (.box B0 84 E_spec_l1Cur x4.2)] (⟨_, true, [], none, true, fun A => .raw (.pointer (some ⟨b0, 0, none⟩))⟩ :: ⟨_, true, [], none, true, fun A => .raw (.int .i64 x4.1)⟩ :: ⟨_, true, [], none, true, fun A => .raw (.int .i64 p1)⟩ :: ⟨_, true, [], none, true, fun A => .raw (.int .i64 (x4.1.tmod p1))⟩ :: ⟨_, true, [], none, true, fun A => .raw (.int .i64 (x4.1.tmod p1))⟩ :: []) 5 rfl rfl rfl (by kernel_rfl) (by kernel_rfl) (Wf.mk' (by kernel_rfl) (UAll.cons ust_raw (UAll.cons ust_raw (UAll.cons ust_raw (UAll.cons ust_raw (UAll.cons ust_raw (UAll.nil)))))) (by kernel_rfl) (by kernel_rfl)) hO hA (⟨⟨rfl, rfl, rfl, h13⟩, ⟨⟨rfl, rfl, rfl, h14⟩, trivial⟩⟩) ?_ ?_
   ·exact
     OblsR.p (fun A' R' w' ho hd => of_move ((ho.old 1 rfl).trans h1)) <|
     OblsR.p (fun A' R' w' ho hd => by have a0 : R' 14 = .int .i64 x4.1 := hd.g 0 rfl; have a1 : R' 15 = .int .i64 p1 := hd.g 1 rfl; exact of_rem a0 a1 e6) <|
     OblsR.p (fun A' R' w' ho hd => by have a0 : R' 16 = .int .i64 (x4.1.tmod p1) := hd.g 0 rfl; exact of_assign a0) <|
     OblsR.nil
   intro done ρ σ A R w hdn hI
   have z7 := hI.inivR 0 rfl
   have h4 : R 4 = .int .i64 (x4.1.tmod p1) := hI.fact hdn (i := 4) rfl rfl rfl
   replace hAA := hI.lowK hAA hA0 hN (hO.geK (⟨.inr (fun k h => .inr h), trivial⟩))
   replace hF : Ch (ownsB (.pointer (some ⟨b0, 0, none⟩))) w0 w := hF.tr hI.ch (hO.geK (⟨.inr (fun k h => .inr h), trivial⟩))
   replace hO : IniOK [ob (.pointer (some ⟨b0, 0, none⟩)) (.box B0 84 E_spec_l1Cur x4.2)] A w := hI.left hdn [(0, ob (.pointer (some ⟨b0, 0, none⟩)) (.box B0 84 E_spec_l1Cur x4.2))] ⟨rfl, rfl, z7, rfl, rfl, trivial⟩
   replace hA := hI.avok
   clear hI
   refine SG.fin rfl ?_
   refine HT.ret ?_
   obtain rfl := Option.some.inj hr
   obtain ⟨A1, hA1, hG1⟩ := GPost.of hO hA hAA (hO.geK (⟨.inr (fun k h => .inr h), trivial⟩)) hF
   exact ⟨.inr rfl, [R 4], ⟨rfl, trivial⟩, A1, hG1, h4⟩
  ·have hr := cnd_f c2 hr
   refine HT.skip ?_
   refine HT.seq ?_
   refine SG.of ?_
   refine SG.textR [ob (.pointer (some ⟨b0, 0, none⟩)) (.box B0 84 E_spec_l1Cur p0)] (⟨_, true, [], none, true, fun A => .raw (.pointer (some ⟨b0, 0, none⟩))⟩ :: []) 1 rfl rfl rfl (by kernel_rfl) (by kernel_rfl) (Wf.mk' (by kernel_rfl) (UAll.cons ust_raw (UAll.nil)) (by kernel_rfl) (by kernel_rfl)) hO hA (trivial) ?_ ?_
   ·exact
     OblsR.p (fun A' R' w' ho hd => of_move ((ho.old 0 rfl).trans h0)) <|
     OblsR.nil
   intro done ρ σ A R w hdn hI
   replace h0 : R 0 = (.pointer (some ⟨b0, 0, none⟩)) := (hI.reg rfl).trans h0
   replace h1 : R 1 = .int .i64 p1 := (hI.reg rfl).trans h1
   have z8 := hI.inivR 0 rfl
   have h17 : R 17 = (.pointer (some ⟨b0, 0, none⟩)) := hI.fact hdn (i := 0) rfl rfl rfl
   replace hAA := hI.lowK hAA hA0 hN (hO.geK (⟨.inr (fun k h => .inr h), trivial⟩))
   replace hF : Ch (ownsB (.pointer (some ⟨b0, 0, none⟩))) w0 w := hF.tr hI.ch (hO.geK (⟨.inr (fun k h => .inr h), trivial⟩))
   replace hO : IniOK [ob (.pointer (some ⟨b0, 0, none⟩)) (.box B0 84 E_spec_l1Cur p0)] A w := hI.left hdn [(0, ob (.pointer (some ⟨b0, 0, none⟩)) (.box B0 84 E_spec_l1Cur p0))] ⟨rfl, rfl, z8, rfl, rfl, trivial⟩
   replace hA := hI.avok
   clear hI
   obtain ⟨x9, q10, hr⟩ := cl_some hr
   have hFz : w0.heap.size ≤ w.heap.size := hF.size
   refine SG.op 18 rfl rfl rfl rfl (call_run Tryz.call97 (M_spec_l1Byte_ok (q10 rfl) hA h17 (hO.sub [(0, ob (.pointer (some ⟨b0, 0, none⟩)) (.box B0 84 E_spec_l1Cur p0))] ⟨rfl, rfl, trivial⟩))) ?_
   rintro v_ w ⟨A, hG1, hv⟩ R hs hd
   have hst := stp_call hA hG1 (hO.ok 0 _ rfl).2
   replace hAA : ∀ b o, A0 b o → A b o := low_callK hAA hA0 hN (hO.geK (⟨.inr (fun k h => .inr h), trivial⟩)) 0 rfl hG1
   replace hF : Ch (ownsB (.pointer (some ⟨b0, 0, none⟩))) w0 w := hF.tr hG1.ch (fun k hk => (hO.geK (⟨.inr (fun k h => .inr h), trivial⟩)) k ⟨0, _, rfl, hk⟩)
   replace hO := GPost.next hO hA 0 rfl hG1
   replace hA := hG1.avok
   replace hO : IniOK [ob (.pointer (some ⟨b0, 0, none⟩)) (.box B0 84 E_spec_l1Cur x9.2)] A w := hO
   replace h0 := (hs 0 rfl).trans h0
   replace h1 := (hs 1 rfl).trans h1
   replace h17 := (hs 17 rfl).trans h17
   have h18 : R 18 = .int .i64 x9.1 := hd.trans hv
   clear hFz hG1 hv hs hd
   refine SG.textR [ob (.pointer (some ⟨b0, 0, none⟩)) (.box B0 84 E_spec_l1Cur x9.2)] (⟨_, true, [], none, true, fun A => .raw (.pointer (some ⟨b0, 0, none⟩))⟩ :: ⟨_, true, [], none, true, fun A => .raw (.int .i64 x9.1)⟩ :: ⟨_, true, [], none, true, fun A => .raw (.int .i64 x9.1)⟩ :: []) 3 rfl rfl rfl (by kernel_rfl) (by kernel_rfl) (Wf.mk' (by kernel_rfl) (UAll.cons ust_raw (UAll.cons ust_raw (UAll.cons ust_raw (UAll.nil)))) (by kernel_rfl) (by kernel_rfl)) hO hA (⟨⟨rfl, rfl, rfl, h17⟩, ⟨⟨rfl, rfl, rfl, h18⟩, trivial⟩⟩) ?_ ?_
   ·exact
     OblsR.p (fun A' R' w' ho hd => by have a0 : R' 18 = .int .i64 x9.1 := hd.g 0 rfl; exact of_assign a0) <|
     OblsR.nil
   intro done ρ σ A R w hdn hI
   replace h0 : R 0 = (.pointer (some ⟨b0, 0, none⟩)) := (hI.reg rfl).trans h0
   replace h1 : R 1 = .int .i64 p1 := (hI.reg rfl).trans h1
   have z11 := hI.inivR 0 rfl
   have h5 : R 5 = .int .i64 x9.1 := hI.fact hdn (i := 2) rfl rfl rfl
   replace hAA := hI.lowK hAA hA0 hN (hO.geK (⟨.inr (fun k h => .inr h), trivial⟩))
   replace hF : Ch (ownsB (.pointer (some ⟨b0, 0, none⟩))) w0 w := hF.tr hI.ch (hO.geK (⟨.inr (fun k h => .inr h), trivial⟩))
   replace hO : IniOK [ob (.pointer (some ⟨b0, 0, none⟩)) (.box B0 84 E_spec_l1Cur x9.2)] A w := hI.left hdn [(0, ob (.pointer (some ⟨b0, 0, none⟩)) (.box B0 84 E_spec_l1Cur x9.2))] ⟨rfl, rfl, z11, rfl, rfl, trivial⟩
   replace hA := hI.avok
   clear hI
   refine SG.fin rfl ?_
   refine HT.seq ?_
   refine SG.of ?_
   refine SG.textR [ob (.pointer (some ⟨b0, 0, none⟩)) (.box B0 84 E_spec_l1Cur x9.2)] (⟨_, true, [], none, true, fun A => .raw (.pointer (some ⟨b0, 0, none⟩))⟩ :: []) 1 rfl rfl rfl (by kernel_rfl) (by kernel_rfl) (Wf.mk' (by kernel_rfl) (UAll.cons ust_raw (UAll.nil)) (by kernel_rfl) (by kernel_rfl)) hO hA (trivial) ?_ ?_
   ·exact
     OblsR.p (fun A' R' w' ho hd => of_move ((ho.old 0 rfl).trans h0)) <|
     OblsR.nil
   intro done ρ σ A R w hdn hI
   replace h0 : R 0 = (.pointer (some ⟨b0, 0, none⟩)) := (hI.reg rfl).trans h0
   replace h1 : R 1 = .int .i64 p1 := (hI.reg rfl).trans h1
   replace h5 : R 5 = .int .i64 x9.1 := (hI.reg rfl).trans h5
   have z12 := hI.inivR 0 rfl
   have h19 : R 19 = (.pointer (some ⟨b0, 0, none⟩)) := hI.fact hdn (i := 0) rfl rfl rfl
   replace hAA := hI.lowK hAA hA0 hN (hO.geK (⟨.inr (fun k h => .inr h), trivial⟩))
   replace hF : Ch (ownsB (.pointer (some ⟨b0, 0, none⟩))) w0 w := hF.tr hI.ch (hO.geK (⟨.inr (fun k h => .inr h), trivial⟩))
   replace hO : IniOK [ob (.pointer (some ⟨b0, 0, none⟩)) (.box B0 84 E_spec_l1Cur x9.2)] A w := hI.left hdn [(0, ob (.pointer (some ⟨b0, 0, none⟩)) (.box B0 84 E_spec_l1Cur x9.2))] ⟨rfl, rfl, z12, rfl, rfl, trivial⟩
   replace hA := hI.avok
   clear hI
   obtain ⟨x13, q14, hr⟩ := cl_some hr
   have hFz : w0.heap.size ≤ w.heap.size := hF.size
   refine SG.op 20 rfl rfl rfl rfl (call_run Tryz.call97 (M_spec_l1Byte_ok (q14 rfl) hA h19 (hO.sub [(0, ob (.pointer (some ⟨b0, 0, none⟩)) (.box B0 84 E_spec_l1Cur x9.2))] ⟨rfl, rfl, trivial⟩))) ?_
   rintro v_ w ⟨A, hG1, hv⟩ R hs hd
   have hst := stp_call hA hG1 (hO.ok 0 _ rfl).2
   replace hAA : ∀ b o, A0 b o → A b o := low_callK hAA hA0 hN (hO.geK (⟨.inr (fun k h => .inr h), trivial⟩)) 0 rfl hG1
   replace hF : Ch (ownsB (.pointer (some ⟨b0, 0, none⟩))) w0 w := hF.tr hG1.ch (fun k hk => (hO.geK (⟨.inr (fun k h => .inr h), trivial⟩)) k ⟨0, _, rfl, hk⟩)
   replace hO := GPost.next hO hA 0 rfl hG1
   replace hA := hG1.avok
   replace hO : IniOK [ob (.pointer (some ⟨b0, 0, none⟩)) (.box B0 84 E_spec_l1Cur x13.2)] A w := hO
   replace h0 := (hs 0 rfl).trans h0
   replace h1 := (hs 1 rfl).trans h1
   replace h5 := (hs 5 rfl).trans h5
   replace h19 := (hs 19 rfl).trans h19
   have h20 : R 20 = .int .i64 x13.1 := hd.trans hv
   clear hFz hG1 hv hs hd
   refine SG.textR [ob (.pointer (some ⟨b0, 0, none⟩)) (.box B0 84 E_spec_l1Cur x13.2)] (⟨_, true, [], none, true, fun A => .raw (.pointer (some ⟨b0, 0, none⟩))⟩ :: ⟨_, true, [], none, true, fun A => .raw (.int .i64 x13.1)⟩ :: ⟨_, true, [], none, true, fun A => .raw (.int .i64 x13.1)⟩ :: []) 3 rfl rfl rfl (by kernel_rfl) (by kernel_rfl) (Wf.mk' (by kernel_rfl) (UAll.cons ust_raw (UAll.cons ust_raw (UAll.cons ust_raw (UAll.nil)))) (by kernel_rfl) (by kernel_rfl)) hO hA (⟨⟨rfl, rfl, rfl, h19⟩, ⟨⟨rfl, rfl, rfl, h20⟩, trivial⟩⟩) ?_ ?_
   ·exact
     OblsR.p (fun A' R' w' ho hd => by have a0 : R' 20 = .int .i64 x13.1 := hd.g 0 rfl; exact of_assign a0) <|
     OblsR.nil
   intro done ρ σ A R w hdn hI
   replace h0 : R 0 = (.pointer (some ⟨b0, 0, none⟩)) := (hI.reg rfl).trans h0
   replace h1 : R 1 = .int .i64 p1 := (hI.reg rfl).trans h1
   replace h5 : R 5 = .int .i64 x9.1 := (hI.reg rfl).trans h5
   have z15 := hI.inivR 0 rfl
   have h6 : R 6 = .int .i64 x13.1 := hI.fact hdn (i := 2) rfl rfl rfl
   replace hAA := hI.lowK hAA hA0 hN (hO.geK (⟨.inr (fun k h => .inr h), trivial⟩))
   replace hF : Ch (ownsB (.pointer (some ⟨b0, 0, none⟩))) w0 w := hF.tr hI.ch (hO.geK (⟨.inr (fun k h => .inr h), trivial⟩))
   replace hO : IniOK [ob (.pointer (some ⟨b0, 0, none⟩)) (.box B0 84 E_spec_l1Cur x13.2)] A w := hI.left hdn [(0, ob (.pointer (some ⟨b0, 0, none⟩)) (.box B0 84 E_spec_l1Cur x13.2))] ⟨rfl, rfl, z15, rfl, rfl, trivial⟩
   replace hA := hI.avok
   clear hI
   refine SG.fin rfl ?_
   refine HT.seq ?_
   refine SG.of ?_
   refine SG.textR [ob (.pointer (some ⟨b0, 0, none⟩)) (.box B0 84 E_spec_l1Cur x13.2)] (⟨_, true, [], none, true, fun A => .raw (.pointer (some ⟨b0, 0, none⟩))⟩ :: []) 1 rfl rfl rfl (by kernel_rfl) (by kernel_rfl) (Wf.mk' (by kernel_rfl) (UAll.cons ust_raw (UAll.nil)) (by kernel_rfl) (by kernel_rfl)) hO hA (trivial) ?_ ?_
   ·exact
     OblsR.p (fun A' R' w' ho hd => of_move ((ho.old 0 rfl).trans h0)) <|
     OblsR.nil
   intro done ρ σ A R w hdn hI
   replace h0 : R 0 = (.pointer (some ⟨b0, 0, none⟩)) := (hI.reg rfl).trans h0
   replace h1 : R 1 = .int .i64 p1 := (hI.reg rfl).trans h1
   replace h5 : R 5 = .int .i64 x9.1 := (hI.reg rfl).trans h5
   replace h6 : R 6 = .int .i64 x13.1 := (hI.reg rfl).trans h6
   have z16 := hI.inivR 0 rfl
   have h21 : R 21 = (.pointer (some ⟨b0, 0, none⟩)) := hI.fact hdn (i := 0) rfl rfl rfl
   replace hAA := hI.lowK hAA hA0 hN (hO.geK (⟨.inr (fun k h => .inr h), trivial⟩))
   replace hF : Ch (ownsB (.pointer (some ⟨b0, 0, none⟩))) w0 w := hF.tr hI.ch (hO.geK (⟨.inr (fun k h => .inr h), trivial⟩))
   replace hO : IniOK [ob (.pointer (some ⟨b0, 0, none⟩)) (.box B0 84 E_spec_l1Cur x13.2)] A w := hI.left hdn [(0, ob (.pointer (some ⟨b0, 0, none⟩)) (.box B0 84 E_spec_l1Cur x13.2))] ⟨rfl, rfl, z16, rfl, rfl, trivial⟩
   replace hA := hI.avok
   clear hI
   obtain ⟨x17, q18, hr⟩ := cl_some hr
   have hFz : w0.heap.size ≤ w.heap.size := hF.size
   refine SG.op 22 rfl rfl rfl rfl (call_run Tryz.call97 (M_spec_l1Byte_ok (q18 rfl) hA h21 (hO.sub [(0, ob (.pointer (some ⟨b0, 0, none⟩)) (.box B0 84 E_spec_l1Cur x13.2))] ⟨rfl, rfl, trivial⟩))) ?_
   rintro v_ w ⟨A, hG1, hv⟩ R hs hd
   have hst := stp_call hA hG1 (hO.ok 0 _ rfl).2
   replace hAA : ∀ b o, A0 b o → A b o := low_callK hAA hA0 hN (hO.geK (⟨.inr (fun k h => .inr h), trivial⟩)) 0 rfl hG1
   replace hF : Ch (ownsB (.pointer (some ⟨b0, 0, none⟩))) w0 w := hF.tr hG1.ch (fun k hk => (hO.geK (⟨.inr (fun k h => .inr h), trivial⟩)) k ⟨0, _, rfl, hk⟩)
   replace hO := GPost.next hO hA 0 rfl hG1
   replace hA := hG1.avok
   replace hO : IniOK [ob (.pointer (some ⟨b0, 0, none⟩)) (.box B0 84 E_spec_l1Cur x17.2)] A w := hO
   replace h0 := (hs 0 rfl).trans h0
   replace h1 := (hs 1 rfl).trans h1
   replace h5 := (hs 5 rfl).trans h5
   replace h6 := (hs 6 rfl).trans h6
   replace h21 := (hs 21 rfl).trans h21
   have h22 : R 22 = .int .i64 x17.1 := hd.trans hv
   clear hFz hG1 hv hs hd
   refine SG.textR [ob (.pointer (some ⟨b0, 0, none⟩)) (.box B0 84 E_spec_l1Cur x17.2)] (⟨_, true, [], none, true, fun A => .raw (.pointer (some ⟨b0, 0, none⟩))⟩ :: ⟨_, true, [], none, true, fun A => .raw (.int .i64 x17.1)⟩ :: ⟨_, true, [], none, true, fun A => .raw (.int .i64 x17.1)⟩ :: []) 3 rfl rfl rfl (by kernel_rfl) (by kernel_rfl) (Wf.mk' (by kernel_rfl) (UAll.cons ust_raw (UAll.cons ust_raw (UAll.cons ust_raw (UAll.nil)))) (by kernel_rfl) (by kernel_rfl)) hO hA (⟨⟨rfl, rfl, rfl, h21⟩, ⟨⟨rfl, rfl, rfl, h22⟩, trivial⟩⟩) ?_ ?_
   ·exact
     OblsR.p (fun A' R' w' ho hd => by have a0 : R' 22 = .int .i64 x17.1 := hd.g 0 rfl; exact of_assign a0) <|
     OblsR.nil
   intro done ρ σ A R w hdn hI
   replace h0 : R 0 = (.pointer (some ⟨b0, 0, none⟩)) := (hI.reg rfl).trans h0
   replace h1 : R 1 = .int .i64 p1 := (hI.reg rfl).trans h1
   replace h5 : R 5 = .int .i64 x9.1 := (hI.reg rfl).trans h5
   replace h6 : R 6 = .int .i64 x13.1 := (hI.reg rfl).trans h6
   have z19 := hI.inivR 0 rfl
   have h7 : R 7 = .int .i64 x17.1 := hI.fact hdn (i := 2) rfl rfl rfl
   replace hAA := hI.lowK hAA hA0 hN (hO.geK (⟨.inr (fun k h => .inr h), trivial⟩))
   replace hF : Ch (ownsB (.pointer (some ⟨b0, 0, none⟩))) w0 w := hF.tr hI.ch (hO.geK (⟨.inr (fun k h => .inr h), trivial⟩))
   replace hO : IniOK [ob (.pointer (some ⟨b0, 0, none⟩)) (.box B0 84 E_spec_l1Cur x17.2)] A w := hI.left hdn [(0, ob (.pointer (some ⟨b0, 0, none⟩)) (.box B0 84 E_spec_l1Cur x17.2))] ⟨rfl, rfl, z19, rfl, rfl, trivial⟩
   replace hA := hI.avok
   clear hI
   refine SG.fin rfl ?_
   refine HT.seq ?_
   refine SG.of ?_
   refine SG.textR [ob (.pointer (some ⟨b0, 0, none⟩)) (.box B0 84 E_spec_l1Cur x17.2)] (⟨_, true, [], none, true, fun A => .raw (.pointer (some ⟨b0, 0, none⟩))⟩ :: []) 1 rfl rfl rfl (by kernel_rfl) (by kernel_rfl) (Wf.mk' (by kernel_rfl) (UAll.cons ust_raw (UAll.nil)) (by kernel_rfl) (by kernel_rfl)) hO hA (trivial) ?_ ?_
   ·exact
     OblsR.p (fun A' R' w' ho hd => of_move ((ho.old 0 rfl).trans h0)) <|
     OblsR.nil
   intro done ρ σ A R w hdn hI
   replace h1 : R 1 = .int .i64 p1 := (hI.reg rfl).trans h1
   replace h5 : R 5 = .int .i64 x9.1 := (hI.reg rfl).trans h5
   replace h6 : R 6 = .int .i64 x13.1 := (hI.reg rfl).trans h6
   replace h7 : R 7 = .int .i64 x17.1 := (hI.reg rfl).trans h7
   have z20 := hI.inivR 0 rfl
   have h23 : R 23 = (.pointer (some ⟨b0, 0, none⟩)) := hI.fact hdn (i := 0) rfl rfl rfl
   replace hAA := hI.lowK hAA hA0 hN (hO.geK (⟨.inr (fun k h => .inr h), trivial⟩))
   replace hF : Ch (ownsB (.pointer (some ⟨b0, 0, none⟩))) w0 w := hF.tr hI.ch (hO.geK (⟨.inr (fun k h => .inr h), trivial⟩))
   replace hO : IniOK [ob (.pointer (some ⟨b0, 0, none⟩)) (.box B0 84 E_spec_l1Cur x17.2)] A w := hI.left hdn [(0, ob (.pointer (some ⟨b0, 0, none⟩)) (.box B0 84 E_spec_l1Cur x17.2))] ⟨rfl, rfl, z20, rfl, rfl, trivial⟩
   replace hA := hI.avok
   clear hI
   obtain ⟨x21, q22, hr⟩ := cl_some hr
   have hFz : w0.heap.size ≤ w.heap.size := hF.size
   refine SG.op 24 rfl rfl rfl rfl (call_run Tryz.call97 (M_spec_l1Byte_ok (q22 rfl) hA h23 (hO.sub [(0, ob (.pointer (some ⟨b0, 0, none⟩)) (.box B0 84 E_spec_l1Cur x17.2))] ⟨rfl, rfl, trivial⟩))) ?_
   rintro v_ w ⟨A, hG1, hv⟩ R hs hd
   have hst := stp_call hA hG1 (hO.ok 0 _ rfl).2
   replace hAA : ∀ b o, A0 b o → A b o := low_callK hAA hA0 hN (hO.geK (⟨.inr (fun k h => .inr h), trivial⟩)) 0 rfl hG1
   replace hF : Ch (ownsB (.pointer (some ⟨b0, 0, none⟩))) w0 w := hF.tr hG1.ch (fun k hk => (hO.geK (⟨.inr (fun k h => .inr h), trivial⟩)) k ⟨0, _, rfl, hk⟩)
   replace hO := GPost.next hO hA 0 rfl hG1
   replace hA := hG1.avok
   replace hO : IniOK [ob (.pointer (some ⟨b0, 0, none⟩)) (.box B0 84 E_spec_l1Cur x21.2)] A w := hO
   replace h1 := (hs 1 rfl).trans h1
   replace h5 := (hs 5 rfl).trans h5
   replace h6 := (hs 6 rfl).trans h6
   replace h7 := (hs 7 rfl).trans h7
   replace h23 := (hs 23 rfl).trans h23
   have h24 : R 24 = .int .i64 x21.1 := hd.trans hv
   clear hFz hG1 hv hs hd
   refine SG.textR [ob (.pointer (some ⟨b0, 0, none⟩)) (.box B0 84 E_spec_l1Cur x21.2)] (⟨_, true, [], none, true, fun A => .raw (.pointer (some ⟨b0, 0, none⟩))⟩ :: ⟨_, true, [], none, true, fun A => .raw (.int .i64 x21.1)⟩ :: ⟨_, true, [], none, true, fun A => .raw (.int .i64 x21.1)⟩ :: []) 3 rfl rfl rfl (by kernel_rfl) (by kernel_rfl) (Wf.mk' (by kernel_rfl) (UAll.cons ust_raw (UAll.cons ust_raw (UAll.cons ust_raw (UAll.nil)))) (by kernel_rfl) (by kernel_rfl)) hO hA (⟨⟨rfl, rfl, rfl, h23⟩, ⟨⟨rfl, rfl, rfl, h24⟩, trivial⟩⟩) ?_ ?_
   ·exact
     OblsR.p (fun A' R' w' ho hd => by have a0 : R' 24 = .int .i64 x21.1 := hd.g 0 rfl; exact of_assign a0) <|
     OblsR.nil
   intro done ρ σ A R w hdn hI
   replace h1 : R 1 = .int .i64 p1 := (hI.reg rfl).trans h1
   replace h5 : R 5 = .int .i64 x9.1 := (hI.reg rfl).trans h5
   replace h6 : R 6 = .int .i64 x13.1 := (hI.reg rfl).trans h6
   replace h7 : R 7 = .int .i64 x17.1 := (hI.reg rfl).trans h7
   have z23 := hI.inivR 0 rfl
   have h8 : R 8 = .int .i64 x21.1 := hI.fact hdn (i := 2) rfl rfl rfl
   replace hAA := hI.lowK hAA hA0 hN (hO.geK (⟨.inr (fun k h => .inr h), trivial⟩))
   replace hF : Ch (ownsB (.pointer (some ⟨b0, 0, none⟩))) w0 w := hF.tr hI.ch (hO.geK (⟨.inr (fun k h => .inr h), trivial⟩))
   replace hO : IniOK [ob (.pointer (some ⟨b0, 0, none⟩)) (.box B0 84 E_spec_l1Cur x21.2)] A w := hI.left hdn [(0, ob (.pointer (some ⟨b0, 0, none⟩)) (.box B0 84 E_spec_l1Cur x21.2))] ⟨rfl, rfl, z23, rfl, rfl, trivial⟩
   replace hA := hI.avok
   clear hI
   refine SG.fin rfl ?_
   refine HT.seq ?_
   obtain ⟨e24, hr⟩ := ck_some hr
   obtain ⟨e25, hr⟩ := ck_some hr
   obtain ⟨e26, hr⟩ := ck_some hr
   obtain ⟨e27, hr⟩ := ck_some hr
   obtain ⟨e28, hr⟩ := ck_some hr
   obtain ⟨e29, hr⟩ := ck_some hr
   obtain ⟨e30, hr⟩ := ck_some hr
   refine HT.text (l := ⟨_, true, .raw (.int .i64 x9.1)⟩ :: ⟨_, true, .raw (.int .i64 (x9.1 * (16777216 : Int)))⟩ :: ⟨_, true, .raw (.int .i64 x13.1)⟩ :: ⟨_, true, .raw (.int .i64 (x13.1 * (65536 : Int)))⟩ :: ⟨_, true, .raw (.int .i64 ((x9.1 * (16777216 : Int)) + (x13.1 * (65536 : Int))))⟩ :: ⟨_, true, .raw (.int .i64 x17.1)⟩ :: ⟨_, true, .raw (.int .i64 (x17.1 * (256 : Int)))⟩ :: ⟨_, true, .raw (.int .i64 (((x9.1 * (16777216 : Int)) + (x13.1 * (65536 : Int))) + (x17.1 * (256 : Int))))⟩ :: ⟨_, true, .raw (.int .i64 x21.1)⟩ :: ⟨_, true, .raw (.int .i64 ((((x9.1 * (16777216 : Int)) + (x13.1 * (65536 : Int))) + (x17.1 * (256 : Int))) + x21.1))⟩ :: ⟨_, true, .raw (.int .i64 p1)⟩ :: ⟨_, true, .raw (.int .i64 (((((x9.1 * (16777216 : Int)) + (x13.1 * (65536 : Int))) + (x17.1 * (256 : Int))) + x21.1).tmod p1))⟩ :: ⟨_, true, .raw (.int .i64 (((((x9.1 * (16777216 : Int)) + (x13.1 * (65536 : Int))) + (x17.1 * (256 : Int))) + x21.1).tmod p1))⟩ :: []) (tl := []) (by kernel_rfl) (by kernel_rfl) (by kernel_rfl) ?_ ?_
   ·exact
     Obls.p (fun R' w' hw hs hd => of_move ((hs 5 rfl).trans h5)) <|
     Obls.p (fun R' w' hw hs hd => by have a0 : R' 25 = .int .i64 x9.1 := hd.g 0 rfl; exact of_mul a0 rfl e24) <|
     Obls.p (fun R' w' hw hs hd => of_move ((hs 6 rfl).trans h6)) <|
     Obls.p (fun R' w' hw hs hd => by have a0 : R' 27 = .int .i64 x13.1 := hd.g 0 rfl; exact of_mul a0 rfl e25) <|
     Obls.p (fun R' w' hw hs hd => by have a0 : R' 26 = .int .i64 (x9.1 * (16777216 : Int)) := hd.g 0 rfl; have a1 : R' 28 = .int .i64 (x13.1 * (65536 : Int)) := hd.g 1 rfl; exact of_add a0 a1 e26) <|
     Obls.p (fun R' w' hw hs hd => of_move ((hs 7 rfl).trans h7)) <|
     Obls.p (fun R' w' hw hs hd => by have a0 : R' 30 = .int .i64 x17.1 := hd.g 0 rfl; exact of_mul a0 rfl e27) <|
     Obls.p (fun R' w' hw hs hd => by have a0 : R' 29 = .int .i64 ((x9.1 * (16777216 : Int)) + (x13.1 * (65536 : Int))) := hd.g 0 rfl; have a1 : R' 31 = .int .i64 (x17.1 * (256 : Int)) := hd.g 1 rfl; exact of_add a0 a1 e28) <|
     Obls.p (fun R' w' hw hs hd => of_move ((hs 8 rfl).trans h8)) <|
     Obls.p (fun R' w' hw hs hd => by have a0 : R' 32 = .int .i64 (((x9.1 * (16777216 : Int)) + (x13.1 * (65536 : Int))) + (x17.1 * (256 : Int))) := hd.g 0 rfl; have a1 : R' 33 = .int .i64 x21.1 := hd.g 1 rfl; exact of_add a0 a1 e29) <|
     Obls.p (fun R' w' hw hs hd => of_move ((hs 1 rfl).trans h1)) <|
     Obls.p (fun R' w' hw hs hd => by have a0 : R' 34 = .int .i64 ((((x9.1 * (16777216 : Int)) + (x13.1 * (65536 : Int))) + (x17.1 * (256 : Int))) + x21.1) := hd.g 0 rfl; have a1 : R' 35 = .int .i64 p1 := hd.g 1 rfl; exact of_rem a0 a1 e30) <|
     Obls.p (fun R' w' hw hs hd => by have a0 : R' 36 = .int .i64 (((((x9.1 * (16777216 : Int)) + (x13.1 * (65536 : Int))) + (x17.1 * (256 : Int))) + x21.1).tmod p1) := hd.g 0 rfl; exact of_assign a0) <|
     Obls.nil
   intro R w hw hs hF'
   have h4 : R 4 = .int .i64 (((((x9.1 * (16777216 : Int)) + (x13.1 * (65536 : Int))) + (x17.1 * (256 : Int))) + x21.1).tmod p1) := hF' 12 _ _ rfl rfl rfl
   replace hO := hO.fr hw
   replace hA := hA.fr hw.size
   replace hF := hF.tr (hw.ch noB) fun _ h => False.elim h
   clear hs hF' hw
   refine seqR_nil ?_
   refine HT.ret ?_
   obtain rfl := Option.some.inj hr
   obtain ⟨A1, hA1, hG1⟩ := GPost.of hO hA hAA (hO.geK (⟨.inr (fun k h => .inr h), trivial⟩)) hF
   exact ⟨.inr rfl, [R 4], ⟨rfl, trivial⟩, A1, hG1, h4⟩
def M_spec_l1Pick (fu : Nat) (p0 : T_spec_l1Cur) (p1 : List (List UInt8)) : Option ((List UInt8) × T_spec_l1Cur) :=
 cl true (M_spec_l1Below fu p0 (p1.length : Int)) fun x2 =>
 ck (inR x2.1 p1.length) <|
 some ((gtD p1 x2.1), x2.2)
theorem M_spec_l1Pick_ok {fu : Nat} {Aq : Av} {p0 : T_spec_l1Cur} {p1 : List (List UInt8)} {r : (List UInt8) × T_spec_l1Cur} (hr : M_spec_l1Pick fu p0 p1 = some r) {w : World} {v0 : Value} {v1 : Value} {b0 B0 : Nat} (hA : AvOK Aq w) (h0 : v0 = .pointer (some ⟨b0, 0, none⟩)) (hO0 : IniOK [ob (.pointer (some ⟨b0, 0, none⟩)) (.box B0 84 E_spec_l1Cur p0)] Aq w) (h1 : Rep (eSl eStr) Aq w v1 p1) :
  Calls Tryz.prog 75 #[v0, v1] w fun e w' => ∃ v, e = .returned v ∧ (∃ (A1 : Av), GPost (subS Aq (ownsB (.pointer (some ⟨b0, 0, none⟩)))) (ownsB (.pointer (some ⟨b0, 0, none⟩))) w [ob (.pointer (some ⟨b0, 0, none⟩)) (.box B0 84 E_spec_l1Cur r.2)] A1 w' ∧ (Fact.rep eStr A1 r.1).ok v w') := by
 unfold M_spec_l1Pick at hr
 obtain ⟨w0, hw0⟩ : ∃ w0, w0 = w := ⟨_, rfl⟩
 have hF : Ch (ownsB (.pointer (some ⟨b0, 0, none⟩))) w0 w := hw0 ▸ Ch.refl _ _
 obtain ⟨A0, hA0e⟩ : ∃ A0, A0 = subS Aq (ownsB (.pointer (some ⟨b0, 0, none⟩))) := ⟨_, rfl⟩
 have hA0 : ∀ b o, A0 b o → b < w0.heap.size := fun b o h => hw0 ▸ hA b o (hA0e ▸ h : subS Aq _ b o).1
 have hN : ∀ b o, A0 b o → ¬ (ownsB (.pointer (some ⟨b0, 0, none⟩))) b := fun b o h => (hA0e ▸ h : subS Aq _ b o).2
 have hA00 : AvOK A0 w0 := hA0
 rw [show GPost (subS Aq (ownsB (.pointer (some ⟨b0, 0, none⟩)))) (ownsB (.pointer (some ⟨b0, 0, none⟩))) w = GPost A0 (ownsB (.pointer (some ⟨b0, 0, none⟩))) w0 from by rw [hA0e, hw0]]
 clear hw0
 obtain ⟨A, hAe⟩ : ∃ A, A = Aq := ⟨_, rfl⟩
 have hAA : ∀ b o, A0 b o → A b o := fun b o h => hAe ▸ (hA0e ▸ h : subS Aq _ b o).1
 replace hA : AvOK A w := hAe ▸ hA
 have hO : IniOK [ob (.pointer (some ⟨b0, 0, none⟩)) (.box B0 84 E_spec_l1Cur p0)] A w := hAe ▸ hO0
 clear hA0e hO0
 refine calls_of_HT2 [.tmp 4] Tryz.func75 Tryz.ntmps75 (by decide) rfl rfl (Nat.le_of_ble_eq_true rfl) ?_
 intro R hR
 replace h0 : R 0 = .pointer (some ⟨b0, 0, none⟩) := (hR 0 _ rfl).trans h0
 have f_v1 : Rep (eSl eStr) A w v1 p1 := hAe ▸ h1
 replace h1 : R 1 = v1 := hR 1 _ rfl
 clear hR hAe
 refine HT.seq ?_
 refine HT.text (l := ⟨_, true, .rep eStr A ([] : List UInt8)⟩ :: []) (tl := []) (by kernel_rfl) (by kernel_rfl) (by kernel_rfl) ?_ ?_
 ·exact
   Obls.p (fun R' w' hw hs hd => of_assign ⟨_, rfl, ⟨_, rfl, rfl, by decide⟩⟩) <|
   Obls.nil
 intro R w hw hs hF'
 replace h0 := (hs 0 rfl).trans h0
 replace h1 := (hs 1 rfl).trans h1
 replace f_v1 := f_v1.fr hw
 replace hO := hO.fr hw
 replace hA := hA.fr hw.size
 replace hF := hF.tr (hw.ch noB) fun _ h => False.elim h
 clear hs hF' hw
 refine seqR_nil ?_
 refine HT.seq ?_
 refine SG.of ?_
 refine SG.textR [ob (.pointer (some ⟨b0, 0, none⟩)) (.box B0 84 E_spec_l1Cur p0)] (⟨_, true, [], none, true, fun A => .raw v1⟩ :: ⟨_, true, [], none, true, fun A => .raw (.pointer (some ⟨b0, 0, none⟩))⟩ :: ⟨_, true, [], none, true, fun A => .raw v1⟩ :: ⟨_, true, [], none, true, fun A => .raw (.int .i64 (p1.length : Int))⟩ :: []) 4 rfl rfl rfl (by kernel_rfl) (by kernel_rfl) (Wf.mk' (by kernel_rfl) (UAll.cons ust_raw (UAll.cons ust_raw (UAll.cons ust_raw (UAll.cons ust_raw (UAll.nil))))) (by kernel_rfl) (by kernel_rfl)) hO hA (trivial) ?_ ?_
 ·exact
   OblsR.p (fun A' R' w' ho hd => of_move ((ho.old 1 rfl).trans h1)) <|
   OblsR.p (fun A' R' w' ho hd => of_move ((ho.old 0 rfl).trans h0)) <|
   OblsR.p (fun A' R' w' ho hd => of_move ((ho.old 1 rfl).trans h1)) <|
   OblsR.p (fun A' R' w' ho hd => by have a0 : R' 7 = v1 := hd.g 0 rfl; have ra0 := (f_v1.stp ho.stp).eq a0; exact of_len_sl (aT := #[]) ra0 Tryz.underlying25) <|
   OblsR.nil
 intro done ρ σ A R w hdn hI
 have z1 := hI.inivR 0 rfl
 have h5 : R 5 = v1 := hI.fact hdn (i := 0) rfl rfl rfl
 have h6 : R 6 = (.pointer (some ⟨b0, 0, none⟩)) := hI.fact hdn (i := 1) rfl rfl rfl
 have h8 : R 8 = .int .i64 (p1.length : Int) := hI.fact hdn (i := 3) rfl rfl rfl
 replace f_v1 := f_v1.stp hI.stp
 replace hAA := hI.lowK hAA hA0 hN (hO.geK (⟨.inr (fun k h => .inr h), trivial⟩))
 replace hF : Ch (ownsB (.pointer (some ⟨b0, 0, none⟩))) w0 w := hF.tr hI.ch (hO.geK (⟨.inr (fun k h => .inr h), trivial⟩))
 replace hO : IniOK [ob (.pointer (some ⟨b0, 0, none⟩)) (.box B0 84 E_spec_l1Cur p0)] A w := hI.left hdn [(0, ob (.pointer (some ⟨b0, 0, none⟩)) (.box B0 84 E_spec_l1Cur p0))] ⟨rfl, rfl, z1, rfl, rfl, trivial⟩
 replace hA := hI.avok
 clear hI
 obtain ⟨x2, q3, hr⟩ := cl_some hr
 have hFz : w0.heap.size ≤ w.heap.size := hF.size
 refine SG.op 9 rfl rfl rfl rfl (call_run Tryz.call73 (M_spec_l1Below_ok (q3 rfl) hA h6 (hO.sub [(0, ob (.pointer (some ⟨b0, 0, none⟩)) (.box B0 84 E_spec_l1Cur p0))] ⟨rfl, rfl, trivial⟩) h8)) ?_
 rintro v_ w ⟨A, hG1, hv⟩ R hs hd
 have hst := stp_call hA hG1 (hO.ok 0 _ rfl).2
 replace hAA : ∀ b o, A0 b o → A b o := low_callK hAA hA0 hN (hO.geK (⟨.inr (fun k h => .inr h), trivial⟩)) 0 rfl hG1
 replace hF : Ch (ownsB (.pointer (some ⟨b0, 0, none⟩))) w0 w := hF.tr hG1.ch (fun k hk => (hO.geK (⟨.inr (fun k h => .inr h), trivial⟩)) k ⟨0, _, rfl, hk⟩)
 replace hO := GPost.next hO hA 0 rfl hG1
 replace hA := hG1.avok
 replace hO : IniOK [ob (.pointer (some ⟨b0, 0, none⟩)) (.box B0 84 E_spec_l1Cur x2.2)] A w := hO
 replace h5 := (hs 5 rfl).trans h5
 replace h6 := (hs 6 rfl).trans h6
 replace h8 := (hs 8 rfl).trans h8
 replace f_v1 := f_v1.stp hst
 have h9 : R 9 = .int .i64 x2.1 := hd.trans hv
 clear hFz hG1 hv hs hd
 obtain ⟨e4, hr⟩ := ck_some hr
 refine SG.textR [ob (.pointer (some ⟨b0, 0, none⟩)) (.box B0 84 E_spec_l1Cur x2.2)] (⟨_, true, [], none, true, fun A => .raw v1⟩ :: ⟨_, true, [], none, true, fun A => .raw (.pointer (some ⟨b0, 0, none⟩))⟩ :: ⟨_, true, [], none, true, fun A => .any⟩ :: ⟨_, true, [], none, true, fun A => .raw (.int .i64 (p1.length : Int))⟩ :: ⟨_, true, [], none, true, fun A => .raw (.int .i64 x2.1)⟩ :: ⟨_, true, [], none, true, fun A => .qtr eStr A (gtD p1 x2.1)⟩ :: ⟨_, true, [], none, true, fun A => .rep eStr A (gtD p1 x2.1)⟩ :: ⟨_, true, [], none, true, fun A => .rep eStr A (gtD p1 x2.1)⟩ :: []) 8 rfl rfl rfl (by kernel_rfl) (by kernel_rfl) (Wf.mk' (by kernel_rfl) (UAll.cons ust_raw (UAll.cons ust_raw (UAll.cons ust_any (UAll.cons ust_raw (UAll.cons ust_raw (UAll.cons ust_qtr (UAll.cons ust_rep (UAll.cons ust_rep (UAll.nil))))))))) (by kernel_rfl) (by kernel_rfl)) hO hA (⟨⟨rfl, rfl, rfl, h5⟩, ⟨⟨rfl, rfl, rfl, h6⟩, ⟨⟨rfl, rfl, rfl, trivial⟩, ⟨⟨rfl, rfl, rfl, h8⟩, ⟨⟨rfl, rfl, rfl, h9⟩, trivial⟩⟩⟩⟩⟩) ?_ ?_
 ·exact
   OblsR.p (fun A' R' w' ho hd => by have a0 : R' 5 = v1 := hd.g 0 rfl; have a1 : R' 9 = .int .i64 x2.1 := hd.g 1 rfl; have ra0 := (f_v1.stp ho.stp).eq a0; exact of_indexAddr ra0 a1 Tryz.underlying25 Tryz.sizeOf9 e4) <|
   OblsR.p (fun A' R' w' ho hd => by have a0 : QRep eStr A' w' (R' 10) (gtD p1 x2.1) := hd.g 0 rfl; exact (of_load a0.ptr Tryz.isAgg9 Tryz.sizeOf9)) <|
   OblsR.p (fun A' R' w' ho hd => by have a0 : Rep eStr A' w' (R' 11) (gtD p1 x2.1) := hd.g 0 rfl; exact of_assign a0) <|
   OblsR.nil
 intro done ρ σ A R w hdn hI
 have z5 := hI.inivR 0 rfl
 obtain ⟨u6, h4, f_u6⟩ : ∃ u, R 4 = u ∧ Rep eStr A w u (gtD p1 x2.1) := ⟨_, rfl, hI.fact hdn (i := 7) rfl rfl rfl⟩
 replace hAA := hI.lowK hAA hA0 hN (hO.geK (⟨.inr (fun k h => .inr h), trivial⟩))
 replace hF : Ch (ownsB (.pointer (some ⟨b0, 0, none⟩))) w0 w := hF.tr hI.ch (hO.geK (⟨.inr (fun k h => .inr h), trivial⟩))
 replace hO : IniOK [ob (.pointer (some ⟨b0, 0, none⟩)) (.box B0 84 E_spec_l1Cur x2.2)] A w := hI.left hdn [(0, ob (.pointer (some ⟨b0, 0, none⟩)) (.box B0 84 E_spec_l1Cur x2.2))] ⟨rfl, rfl, z5, rfl, rfl, trivial⟩
 replace hA := hI.avok
 clear hI
 refine SG.fin rfl ?_
 refine HT.ret ?_
 obtain rfl := Option.some.inj hr
 obtain ⟨A1, hA1, hG1⟩ := GPost.of hO hA hAA (hO.geK (⟨.inr (fun k h => .inr h), trivial⟩)) hF
 exact ⟨.inr rfl, [R 4], ⟨rfl, trivial⟩, A1, hG1, (f_u6.eq h4).down hA1⟩
def M_spec_l3Put_L0 (fu : Nat) (p0 : List (List UInt8)) (p1 : List UInt8) : Nat → Int → Option Int
 | 0, _ => none
 | k + 1, y4 =>
  ck (!(true && ((decide (y4 < (p0.length : Int))) == true)) || inR y4 p0.length) <|
  bd ((decide (y4 < (p0.length : Int))) && (bLt (gtD p0 y4) p1)) fun x6 =>
  bif x6 then (
   ck (i64B (y4 + (1 : Int))) <|
   M_spec_l3Put_L0 fu p0 p1 k (y4 + (1 : Int))
  ) else (
   some y4
  )
def M_spec_l3Put (fu : Nat) (p0 : List (List UInt8)) (p1 : List UInt8) (p2 : Bool) : Option (List (List UInt8)) :=
 cl true (M_spec_l3Put_L0 fu p0 p1 fu (0 : Int)) fun s3 =>
 bd ((!p2) && (decide (s3 < (p0.length : Int)))) fun x10 =>
 ck (!(true && (x10 == true)) || inR s3 p0.length) <|
 bd (x10 && ((gtD p0 s3) == p1)) fun x13 =>
 bif x13 then (
  some p0
 ) else (
  ck (subR 0 s3 p0.length) <|
  bd (s3.toNat - (0 : Int).toNat) fun x17 =>
  ck (lenOK (([] : List (List UInt8)).length + (subL p0 0 s3).length)) <|
  ck (lenOK ((([] : List (List UInt8)) ++ (subL p0 0 s3)).length + ([p1] : List (List UInt8)).length)) <|
  ck (subR s3 (p0.length : Int) p0.length) <|
  bd ((p0.length : Int).toNat - s3.toNat) fun x22 =>
  ck (lenOK (((([] : List (List UInt8)) ++ (subL p0 0 s3)) ++ ([p1] : List (List UInt8))).length + (subL p0 s3 (p0.length : Int)).length)) <|
  some (((([] : List (List UInt8)) ++ (subL p0 0 s3)) ++ ([p1] : List (List UInt8))) ++ (subL p0 s3 (p0.length : Int)))
 )
theorem M_spec_l3Put_ok {fu : Nat} {A0 : Av} {p0 : List (List UInt8)} {p1 : List UInt8} {p2 : Bool} {r : List (List UInt8)} (hr : M_spec_l3Put fu p0 p1 p2 = some r) {w : World} {v0 : Value} {v1 : Value} {v2 : Value} {B0 : Nat} (hA : AvOK A0 w) (hN : ∀ b o, A0 b o → ¬ ownsB v0 b) (hB0 : B0 ≤ w.heap.size) (h0 : (Res.vec B0 9 eStr p0).ok A0 v0 w) (h1 : Rep eStr A0 w v1 p1) (h2 : v2 = .bool p2) :
  Calls Tryz.prog 56 #[v0, v1, v2] w fun e w' => ∃ v, e = .returned v ∧ Took (addA A0 v0) true v0 (.vec B0 9 eStr r) (fun _ => .any) w v w' := by
 unfold M_spec_l3Put at hr
 obtain ⟨w0, hw0⟩ : ∃ w0, w0 = w := ⟨_, rfl⟩
 have hF : Ch (ownsB v0) w0 w := hw0 ▸ Ch.refl _ _
 replace hB0 : B0 ≤ w0.heap.size := hw0 ▸ hB0
 have hA0 : ∀ b o, A0 b o → b < w0.heap.size := fun b o h => hw0 ▸ hA b o h
 have hA00 : AvOK A0 w0 := hA0
 rw [show Took (addA A0 v0) true v0 (.vec B0 9 eStr r) (fun _ => .any) w = Took (addA A0 v0) true v0 (.vec B0 9 eStr r) (fun _ => .any) w0 from hw0 ▸ rfl]
 clear hw0
 obtain ⟨A, hAe⟩ : ∃ A, A = addA A0 v0 := ⟨_, rfl⟩
 have hAA : ∀ b o, A0 b o → A b o := fun b o h => hAe ▸ .inl h
 replace hA : AvOK A w := hAe ▸ hA.one h0
 have hO : IniOK [ob v0 (.vec B0 9 eStr p0)] A w := hAe ▸ IniOK.one h0 (fun _ _ _ _ _ h => h)
 refine calls_of_HT2 [.tmp 6] Tryz.func56 Tryz.ntmps56 (by decide) rfl rfl (Nat.le_of_ble_eq_true rfl) ?_
 intro R hR
 replace h0 : R 0 = v0 := hR 0 _ rfl
 have f_v1 : Rep eStr A w v1 p1 := h1
 replace h1 : R 1 = v1 := hR 1 _ rfl
 replace h2 : R 2 = .bool p2 := (hR 2 _ rfl).trans h2
 clear hR hAe
 refine HT.seq ?_
 refine HT.text (l := ⟨_, true, .any⟩ :: []) (tl := []) (by kernel_rfl) (by kernel_rfl) (by kernel_rfl) ?_ ?_
 ·exact
   Obls.p (fun R' w' hw hs hd => of_assign trivial) <|
   Obls.nil
 intro R w hw hs hF'
 replace h0 := (hs 0 rfl).trans h0
 replace h1 := (hs 1 rfl).trans h1
 replace h2 := (hs 2 rfl).trans h2
 replace f_v1 := f_v1.fr hw
 replace hO := hO.fr hw
 replace hA := hA.fr hw.size
 replace hF := hF.tr (hw.ch noB) fun _ h => False.elim h
 clear hs hF' hw
 refine seqR_nil ?_
 refine HT.seq ?_
 refine HT.text (l := ⟨_, true, .raw (.int .i64 (0 : Int))⟩ :: []) (tl := []) (by kernel_rfl) (by kernel_rfl) (by kernel_rfl) ?_ ?_
 ·exact
   Obls.p (fun R' w' hw hs hd => of_assign rfl) <|
   Obls.nil
 intro R w hw hs hF'
 replace h0 := (hs 0 rfl).trans h0
 replace h1 := (hs 1 rfl).trans h1
 replace h2 := (hs 2 rfl).trans h2
 have h7 : R 7 = .int .i64 (0 : Int) := hF' 0 _ _ rfl rfl rfl
 replace f_v1 := f_v1.fr hw
 replace hO := hO.fr hw
 replace hA := hA.fr hw.size
 replace hF := hF.tr (hw.ch noB) fun _ h => False.elim h
 clear hs hF' hw
 refine seqR_nil ?_
 obtain ⟨rl1, q2, hr⟩ := cl_some hr
 replace q2 := q2 rfl
 refine HT.cut (fun R w => ∃ A : Av, ∃ (s3 : Int), rl1 = s3 ∧ AvOK A w ∧ Ch (ownsB v0) w0 w ∧ (∀ b o, A0 b o → A b o) ∧ IniOK [ob v0 (.vec B0 9 eStr p0)] A w ∧ R 0 = v0 ∧ R 1 = v1 ∧ R 2 = .bool p2 ∧ R 7 = .int .i64 s3 ∧ Rep eStr A w v1 p1) ?_ ?_
 ·refine HT.block ?_
  refine HT.loop (fun k R w => ∃ A : Av, ∃ (y4 : Int), M_spec_l3Put_L0 fu p0 p1 k y4 = some rl1 ∧ AvOK A w ∧ Ch (ownsB v0) w0 w ∧ (∀ b o, A0 b o → A b o) ∧ IniOK [ob v0 (.vec B0 9 eStr p0)] A w ∧ R 0 = v0 ∧ R 1 = v1 ∧ R 2 = .bool p2 ∧ R 7 = .int .i64 y4 ∧ Rep eStr A w v1 p1) fu ⟨_, _, q2, hA, hF, hAA, hO, h0, h1, h2, h7, f_v1⟩ ?_
  have hr0 := hr; clear hr q2
  rintro k R w ⟨A, y4, hr, hA, hF, hAA, hO, h0, h1, h2, h7, f_v1⟩
  rcases k with _ | k
  ·cases (show none = some _ from hr)
  rw [M_spec_l3Put_L0] at hr
  refine HT.seq ?_
  refine HT.seq ?_
  obtain ⟨e5, hr⟩ := ck_some hr
  obtain ⟨x6, q7, hr⟩ := bd_some hr
  refine HT.text (l := ⟨_, true, .raw (.int .i64 y4)⟩ :: ⟨_, true, .raw v0⟩ :: ⟨_, true, .raw (.int .i64 (p0.length : Int))⟩ :: ⟨_, true, .raw (.bool (decide (y4 < (p0.length : Int))))⟩ :: ⟨_, true, .raw (.bool (decide (y4 < (p0.length : Int))))⟩ :: ⟨_, (true && ((decide (y4 < (p0.length : Int))) == true)), .raw v0⟩ :: ⟨_, (true && ((decide (y4 < (p0.length : Int))) == true)), .raw (.int .i64 y4)⟩ :: ⟨_, (true && ((decide (y4 < (p0.length : Int))) == true)), .raw (vptr v0 (y4.toNat * 1))⟩ :: ⟨_, (true && ((decide (y4 < (p0.length : Int))) == true)), .rep eStr A (gtD p0 y4)⟩ :: ⟨_, (true && ((decide (y4 < (p0.length : Int))) == true)), .raw v1⟩ :: ⟨_, (true && ((decide (y4 < (p0.length : Int))) == true)), .raw (.bool (bLt (gtD p0 y4) p1))⟩ :: ⟨_, true, .raw (.bool x6)⟩ :: []) (tl := []) (by kernel_rfl) (by kernel_rfl) (by kernel_rfl) ?_ ?_
  ·exact
    Obls.p (fun R' w' hw hs hd => of_move ((hs 7 rfl).trans h7)) <|
    Obls.p (fun R' w' hw hs hd => of_move ((hs 0 rfl).trans h0)) <|
    Obls.p (fun R' w' hw hs hd => by have a0 : R' 9 = v0 := hd.g 0 rfl; exact of_len_vec (hO.ok 0 _ rfl).1 a0 Tryz.underlying25) <|
    Obls.p (fun R' w' hw hs hd => by have a0 : R' 8 = .int .i64 y4 := hd.g 0 rfl; have a1 : R' 10 = .int .i64 (p0.length : Int) := hd.g 1 rfl; exact of_lss a0 a1) <|
    Obls.p (fun R' w' hw hs hd => by have a0 : R' 11 = .bool (decide (y4 < (p0.length : Int))) := hd.g 0 rfl; exact of_move a0) <|
    Obls.cons (Obl.grd 4 true _ _ _ rfl rfl rfl rfl rfl (by kernel_rfl) fun hg R' w' hw hs hd => by have a0 : R' 0 = v0 := (hs 0 rfl).trans h0; exact of_move a0) <|
    Obls.cons (Obl.grd 4 true _ _ _ rfl rfl rfl rfl rfl (by kernel_rfl) fun hg R' w' hw hs hd => by have a0 : R' 7 = .int .i64 y4 := (hs 7 rfl).trans h7; exact of_move a0) <|
    Obls.cons (Obl.grd 4 true _ _ _ rfl rfl rfl rfl rfl (by kernel_rfl) fun hg R' w' hw hs hd => by have a0 : R' 13 = v0 := hd 0 _ _ _ rfl rfl rfl rfl hg; have a1 : R' 14 = .int .i64 y4 := hd 1 _ _ _ rfl rfl rfl rfl hg; exact of_indexAddr_vec (hO.ok 0 _ rfl).1 a0 a1 Tryz.underlying25 Tryz.sizeOf9 (gd e5 hg) rfl) <|
    Obls.cons (Obl.grd 4 true _ _ _ rfl rfl rfl rfl rfl (by kernel_rfl) fun hg R' w' hw hs hd => by have a0 : R' 15 = (vptr v0 (y4.toNat * 1)) := hd 0 _ _ _ rfl rfl rfl rfl hg; exact (of_load_vec ((hO.fr hw).ok 0 _ rfl).1 a0 (gd e5 hg) rfl (Fld.id _) rfl Tryz.isAgg9 Tryz.sizeOf9)) <|
    Obls.cons (Obl.grd 4 true _ _ _ rfl rfl rfl rfl rfl (by kernel_rfl) fun hg R' w' hw hs hd => by have a0 : R' 1 = v1 := (hs 1 rfl).trans h1; exact of_move a0) <|
    Obls.cons (Obl.grd 4 true _ _ _ rfl rfl rfl rfl rfl (by kernel_rfl) fun hg R' w' hw hs hd => by have a0 : Rep eStr A w' (R' 16) (gtD p0 y4) := hd 0 _ _ _ rfl rfl rfl rfl hg; have a1 : R' 17 = v1 := hd 1 _ _ _ rfl rfl rfl rfl hg; have ra1 := (f_v1.fr hw).eq a1; exact of_slss a0 ra1) <|
    Obls.p (fun R' w' hw hs hd => by have a0 : R' 12 = .bool (decide (y4 < (p0.length : Int))) := hd.g 0 rfl; exact of_pick (decide (y4 < (p0.length : Int))) a0 (fun hc => by have a1 : R' 18 = .bool (bLt (gtD p0 y4) p1) := hd 1 _ _ _ rfl rfl rfl rfl (g_and rfl (beq_of hc)); show _ = Value.bool x6; rw [q7, hc]; exact a1) (fun hc => by show _ = Value.bool x6; rw [q7, hc]; exact rfl)) <|
    Obls.nil
  intro R w hw hs hF'
  replace h0 := (hs 0 rfl).trans h0
  replace h1 := (hs 1 rfl).trans h1
  replace h2 := (hs 2 rfl).trans h2
  replace h7 := (hs 7 rfl).trans h7
  have h19 : R 19 = .bool x6 := hF' 11 _ _ rfl rfl rfl
  replace f_v1 := f_v1.fr hw
  replace hO := hO.fr hw
  replace hA := hA.fr hw.size
  replace hF := hF.tr (hw.ch noB) fun _ h => False.elim h
  clear hs hF' hw
  refine seqR_nil ?_
  refine HT.cond x6 h19 (fun c8 => ?_) (fun c8 => ?_)
  ·have hr := cnd_t c8 hr
   refine HT.skip ?_
   refine HT.block ?_
   obtain ⟨e9, hr⟩ := ck_some hr
   refine HT.text (l := ⟨_, true, .raw (.int .i64 y4)⟩ :: ⟨_, true, .raw (.int .i64 (y4 + (1 : Int)))⟩ :: ⟨_, true, .raw (.int .i64 (y4 + (1 : Int)))⟩ :: []) (tl := []) (by kernel_rfl) (by kernel_rfl) (by kernel_rfl) ?_ ?_
   ·exact
     Obls.p (fun R' w' hw hs hd => of_move ((hs 7 rfl).trans h7)) <|
     Obls.p (fun R' w' hw hs hd => by have a0 : R' 20 = .int .i64 y4 := hd.g 0 rfl; exact of_add a0 rfl e9) <|
     Obls.p (fun R' w' hw hs hd => by have a0 : R' 21 = .int .i64 (y4 + (1 : Int)) := hd.g 0 rfl; exact of_assign a0) <|
     Obls.nil
   intro R w hw hs hF'
   replace h0 := (hs 0 rfl).trans h0
   replace h1 := (hs 1 rfl).trans h1
   replace h2 := (hs 2 rfl).trans h2
   have h7 : R 7 = .int .i64 (y4 + (1 : Int)) := hF' 2 _ _ rfl rfl rfl
   replace f_v1 := f_v1.fr hw
   replace hO := hO.fr hw
   replace hA := hA.fr hw.size
   replace hF := hF.tr (hw.ch noB) fun _ h => False.elim h
   clear hs hF' hw
   refine seqR_nil ?_
   exact Exists.intro k (And.intro (Nat.lt_succ_self k) ⟨_, _, hr, hA, hF, hAA, hO, h0, h1, h2, h7, f_v1⟩)
  ·have hr := cnd_f c8 hr
   refine HT.exit ?_
   obtain rfl := Option.some.inj hr
   exact Exists.intro _ ⟨_, rfl, hA, hF, hAA, hO, h0, h1, h2, h7, f_v1⟩
 rintro R w ⟨A, s3, es, hA, hF, hAA, hO, h0, h1, h2, h7, f_v1⟩
 obtain rfl := es.symm
 refine HT.seq ?_
 refine HT.seq ?_
 obtain ⟨x10, q11, hr⟩ := bd_some hr
 obtain ⟨e12, hr⟩ := ck_some hr
 obtain ⟨x13, q14, hr⟩ := bd_some hr
 refine HT.text (l := ⟨_, true, .raw (.bool p2)⟩ :: ⟨_, true, .raw (.bool (!p2))⟩ :: ⟨_, true, .raw (.bool (!p2))⟩ :: ⟨_, (true && ((!p2) == true)), .raw (.int .i64 s3)⟩ :: ⟨_, (true && ((!p2) == true)), .raw v0⟩ :: ⟨_, (true && ((!p2) == true)), .raw (.int .i64 (p0.length : Int))⟩ :: ⟨_, (true && ((!p2) == true)), .raw (.bool (decide (s3 < (p0.length : Int))))⟩ :: ⟨_, true, .raw (.bool x10)⟩ :: ⟨_, true, .raw (.bool x10)⟩ :: ⟨_, (true && (x10 == true)), .raw v0⟩ :: ⟨_, (true && (x10 == true)), .raw (.int .i64 s3)⟩ :: ⟨_, (true && (x10 == true)), .raw (vptr v0 (s3.toNat * 1))⟩ :: ⟨_, (true && (x10 == true)), .rep eStr A (gtD p0 s3)⟩ :: ⟨_, (true && (x10 == true)), .raw v1⟩ :: ⟨_, (true && (x10 == true)), .raw (.bool ((gtD p0 s3) == p1))⟩ :: ⟨_, true, .raw (.bool x13)⟩ :: []) (tl := []) (by kernel_rfl) (by kernel_rfl) (by kernel_rfl) ?_ ?_
 ·exact
   Obls.p (fun R' w' hw hs hd => of_move ((hs 2 rfl).trans h2)) <|
   Obls.p (fun R' w' hw hs hd => by have a0 : R' 22 = .bool p2 := hd.g 0 rfl; exact of_not a0) <|
   Obls.p (fun R' w' hw hs hd => by have a0 : R' 23 = .bool (!p2) := hd.g 0 rfl; exact of_move a0) <|
   Obls.cons (Obl.grd 2 true _ _ _ rfl rfl rfl rfl rfl (by kernel_rfl) fun hg R' w' hw hs hd => by have a0 : R' 7 = .int .i64 s3 := (hs 7 rfl).trans h7; exact of_move a0) <|
   Obls.cons (Obl.grd 2 true _ _ _ rfl rfl rfl rfl rfl (by kernel_rfl) fun hg R' w' hw hs hd => by have a0 : R' 0 = v0 := (hs 0 rfl).trans h0; exact of_move a0) <|
   Obls.cons (Obl.grd 2 true _ _ _ rfl rfl rfl rfl rfl (by kernel_rfl) fun hg R' w' hw hs hd => by have a0 : R' 26 = v0 := hd 0 _ _ _ rfl rfl rfl rfl hg; exact of_len_vec (hO.ok 0 _ rfl).1 a0 Tryz.underlying25) <|
   Obls.cons (Obl.grd 2 true _ _ _ rfl rfl rfl rfl rfl (by kernel_rfl) fun hg R' w' hw hs hd => by have a0 : R' 25 = .int .i64 s3 := hd 0 _ _ _ rfl rfl rfl rfl hg; have a1 : R' 27 = .int .i64 (p0.length : Int) := hd 1 _ _ _ rfl rfl rfl rfl hg; exact of_lss a0 a1) <|
   Obls.p (fun R' w' hw hs hd => by have a0 : R' 24 = .bool (!p2) := hd.g 0 rfl; exact of_pick (!p2) a0 (fun hc => by have a1 : R' 28 = .bool (decide (s3 < (p0.length : Int))) := hd 1 _ _ _ rfl rfl rfl rfl (g_and rfl (beq_of hc)); show _ = Value.bool x10; rw [q11, hc]; exact a1) (fun hc => by show _ = Value.bool x10; rw [q11, hc]; exact rfl)) <|
   Obls.p (fun R' w' hw hs hd => by have a0 : R' 29 = .bool x10 := hd.g 0 rfl; exact of_move a0) <|
   Obls.cons (Obl.grd 8 true _ _ _ rfl rfl rfl rfl rfl (by kernel_rfl) fun hg R' w' hw hs hd => by have a0 : R' 0 = v0 := (hs 0 rfl).trans h0; exact of_move a0) <|
   Obls.cons (Obl.grd 8 true _ _ _ rfl rfl rfl rfl rfl (by kernel_rfl) fun hg R' w' hw hs hd => by have a0 : R' 7 = .int .i64 s3 := (hs 7 rfl).trans h7; exact of_move a0) <|
   Obls.cons (Obl.grd 8 true _ _ _ rfl rfl rfl rfl rfl (by kernel_rfl) fun hg R' w' hw hs hd => by have a0 : R' 31 = v0 := hd 0 _ _ _ rfl rfl rfl rfl hg; have a1 : R' 32 = .int .i64 s3 := hd 1 _ _ _ rfl rfl rfl rfl hg; exact of_indexAddr_vec (hO.ok 0 _ rfl).1 a0 a1 Tryz.underlying25 Tryz.sizeOf9 (gd e12 hg) rfl) <|
   Obls.cons (Obl.grd 8 true _ _ _ rfl rfl rfl rfl rfl (by kernel_rfl) fun hg R' w' hw hs hd => by have a0 : R' 33 = (vptr v0 (s3.toNat * 1)) := hd 0 _ _ _ rfl rfl rfl rfl hg; exact (of_load_vec ((hO.fr hw).ok 0 _ rfl).1 a0 (gd e12 hg) rfl (Fld.id _) rfl Tryz.isAgg9 Tryz.sizeOf9)) <|
   Obls.cons (Obl.grd 8 true _ _ _ rfl rfl rfl rfl rfl (by kernel_rfl) fun hg R' w' hw hs hd => by have a0 : R' 1 = v1 := (hs 1 rfl).trans h1; exact of_move a0) <|
   Obls.cons (Obl.grd 8 true _ _ _ rfl rfl rfl rfl rfl (by kernel_rfl) fun hg R' w' hw hs hd => by have a0 : Rep eStr A w' (R' 34) (gtD p0 s3) := hd 0 _ _ _ rfl rfl rfl rfl hg; have a1 : R' 35 = v1 := hd 1 _ _ _ rfl rfl rfl rfl hg; have ra1 := (f_v1.fr hw).eq a1; exact of_seql a0 ra1) <|
   Obls.p (fun R' w' hw hs hd => by have a0 : R' 30 = .bool x10 := hd.g 0 rfl; exact of_pick x10 a0 (fun hc => by have a1 : R' 36 = .bool ((gtD p0 s3) == p1) := hd 1 _ _ _ rfl rfl rfl rfl (g_and rfl (beq_of hc)); show _ = Value.bool x13; rw [q14, hc]; exact a1) (fun hc => by show _ = Value.bool x13; rw [q14, hc]; exact rfl)) <|
   Obls.nil
 intro R w hw hs hF'
 replace h0 := (hs 0 rfl).trans h0
 replace h1 := (hs 1 rfl).trans h1
 replace h7 := (hs 7 rfl).trans h7
 have h37 : R 37 = .bool x13 := hF' 15 _ _ rfl rfl rfl
 replace f_v1 := f_v1.fr hw
 replace hO := hO.fr hw
 replace hA := hA.fr hw.size
 replace hF := hF.tr (hw.ch noB) fun _ h => False.elim h
 clear hs hF' hw
 refine seqR_nil ?_
 refine HT.cond x13 h37 (fun c15 => ?_) (fun c15 => ?_)
 ·have hr := cnd_t c15 hr
  refine HT.seq ?_
  refine HT.text (l := ⟨_, true, .raw v0⟩ :: ⟨_, true, .raw v0⟩ :: []) (tl := []) (by kernel_rfl) (by kernel_rfl) (by kernel_rfl) ?_ ?_
  ·exact
    Obls.p (fun R' w' hw hs hd => of_move ((hs 0 rfl).trans h0)) <|
    Obls.p (fun R' w' hw hs hd => by have a0 : R' 38 = v0 := hd.g 0 rfl; exact of_assign a0) <|
    Obls.nil
  intro R w hw hs hF'
  have h6 : R 6 = v0 := hF' 1 _ _ rfl rfl rfl
  replace hO := hO.fr hw
  replace hA := hA.fr hw.size
  replace hF := hF.tr (hw.ch noB) fun _ h => False.elim h
  clear hs hF' hw
  refine seqR_nil ?_
  refine HT.ret ?_
  obtain rfl := Option.some.inj hr
  exact ⟨.inr rfl, [R 6], ⟨rfl, trivial⟩, by show Took _ true _ _ _ w0 (R 6) w; rw [h6]; exact took_post (fun k h o => .inr h) hF (hO.ok 0 _ rfl).1 (hO.own_ge (⟨.inr (fun k h => .inr h), trivial⟩) (i := 0) rfl) (fun _ _ _ _ _ h => h)⟩
 ·have hr := cnd_f c15 hr
  refine HT.skip ?_
  refine HT.seq ?_
  obtain ⟨e16, hr⟩ := ck_some hr
  obtain ⟨x17, q18, hr⟩ := bd_some hr
  obtain ⟨e19, hr⟩ := ck_some hr
  obtain ⟨e20, hr⟩ := ck_some hr
  obtain ⟨e21, hr⟩ := ck_some hr
  obtain ⟨x22, q23, hr⟩ := bd_some hr
  obtain ⟨e24, hr⟩ := ck_some hr
  refine HT.drawR [ob v0 (.vec B0 9 eStr p0)] (⟨_, true, [], some (.vec w0.heap.size 9 eStr ([] : List (List UInt8))), true, fun A => .any⟩ :: ⟨_, true, [], none, true, fun A => .raw v0⟩ :: ⟨_, true, [], none, true, fun A => .raw (.int .i64 s3)⟩ :: ⟨_, true, [], none, true, fun A => .raw (vsub v0 (0 : Int).toNat x17 1)⟩ :: ⟨_, true, [1], some (.vec w0.heap.size 9 eStr (([] : List (List UInt8)) ++ (subL p0 0 s3))), true, fun A => .any⟩ :: ⟨_, true, [], none, true, fun A => .raw v1⟩ :: ⟨_, true, [], none, true, fun A => .rep (eSl eStr) A ([p1] : List (List UInt8))⟩ :: ⟨_, true, [5], some (.vec w0.heap.size 9 eStr ((([] : List (List UInt8)) ++ (subL p0 0 s3)) ++ ([p1] : List (List UInt8)))), true, fun A => .any⟩ :: ⟨_, true, [], none, true, fun A => .raw v0⟩ :: ⟨_, true, [], none, true, fun A => .raw (.int .i64 s3)⟩ :: ⟨_, true, [], none, true, fun A => .raw (vsub v0 s3.toNat x22 1)⟩ :: ⟨_, true, [8], some (.vec w0.heap.size 9 eStr (((([] : List (List UInt8)) ++ (subL p0 0 s3)) ++ ([p1] : List (List UInt8))) ++ (subL p0 s3 (p0.length : Int)))), true, fun A => .any⟩ :: ⟨_, true, [12], some (.vec w0.heap.size 9 eStr (((([] : List (List UInt8)) ++ (subL p0 0 s3)) ++ ([p1] : List (List UInt8))) ++ (subL p0 s3 (p0.length : Int)))), true, fun A => .any⟩ :: []) (by kernel_rfl) (by kernel_rfl) (by kernel_rfl) (Wf.mk' (by kernel_rfl) (UAll.cons ust_any (UAll.cons ust_raw (UAll.cons ust_raw (UAll.cons ust_raw (UAll.cons ust_any (UAll.cons ust_raw (UAll.cons ust_rep (UAll.cons ust_any (UAll.cons ust_raw (UAll.cons ust_raw (UAll.cons ust_raw (UAll.cons ust_any (UAll.cons ust_any (UAll.nil)))))))))))))) (by kernel_rfl) (by kernel_rfl)) hO hA ?_ ?_
  ·exact
    OblsR.cons (OblR.made _ rfl rfl rfl rfl fun A' R' w' ho hd => by exact made_build [] (E := eStr) trivial Tryz.underlying25 Tryz.sizeOf9 Tryz.zeroValue9 rfl rfl rfl (Nat.le_trans hF.size ho.ch.size)) <|
    OblsR.p (fun A' R' w' ho hd => of_move ((ho.old 0 rfl).trans h0)) <|
    OblsR.p (fun A' R' w' ho hd => of_move ((ho.old 7 rfl).trans h7)) <|
    OblsR.p (fun A' R' w' ho hd => by have a0 : R' 40 = v0 := hd.g 0 rfl; have a1 : R' 41 = .int .i64 s3 := hd.g 1 rfl; exact (q18 ▸ of_view_hi (hO.ok 0 _ rfl).1 a0 a1 Tryz.underlying25 Tryz.sizeOf9 e16)) <|
    OblsR.cons (OblR.took 1 _ _ rfl rfl rfl rfl rfl fun A' R' w' ho hd u hok hav hin hop hds => by have a1 : R' 42 = (vsub v0 (0 : Int).toNat x17 1) := hd.g 1 rfl; have ra1 : Rep (eSl eStr) A0 w' (R' 42) _ := (view_rep (vec_repK (ho.rd 0 _ rfl rfl) (ho.lowK hAA hA0 hN (hO.geK (⟨.inr (fun k h => .inr h), trivial⟩))) hA0 hN (fun k h => .inr h)) e16 q18 rfl).eq a1; exact took_append1 (hop _ _ rfl rfl rfl rfl).symm hok hav (Nat.le_trans hF.size ho.ch.size) ra1 Tryz.underlying25 el_9 e19 (fun _ _ h => h)) <|
    OblsR.p (fun A' R' w' ho hd => of_move ((ho.old 1 rfl).trans h1)) <|
    OblsR.p (fun A' R' w' ho hd => by have a0 : R' 44 = v1 := hd.g 0 rfl; have ra0 := (f_v1.stp ho.stp).eq a0; exact of_build [_] (E := eStr) ⟨ra0, trivial⟩ Tryz.underlying25 Tryz.sizeOf9 Tryz.zeroValue9 rfl rfl rfl ho.av) <|
    OblsR.cons (OblR.took 5 _ _ rfl rfl rfl rfl rfl fun A' R' w' ho hd u hok hav hin hop hds => by have a1 : Rep (eSl eStr) A' w' (R' 45) ([p1] : List (List UInt8)) := hd.g 1 rfl; exact took_append (hop _ _ rfl rfl rfl rfl).symm hok hav (Nat.le_trans hF.size ho.ch.size) a1 Tryz.underlying25 el_9 e20) <|
    OblsR.p (fun A' R' w' ho hd => of_move ((ho.old 0 rfl).trans h0)) <|
    OblsR.p (fun A' R' w' ho hd => of_move ((ho.old 7 rfl).trans h7)) <|
    OblsR.p (fun A' R' w' ho hd => by have a0 : R' 47 = v0 := hd.g 0 rfl; have a1 : R' 48 = .int .i64 s3 := hd.g 1 rfl; exact (q23 ▸ of_view (hO.ok 0 _ rfl).1 a0 a1 Tryz.underlying25 Tryz.sizeOf9 e21)) <|
    OblsR.cons (OblR.took 8 _ _ rfl rfl rfl rfl rfl fun A' R' w' ho hd u hok hav hin hop hds => by have a1 : R' 49 = (vsub v0 s3.toNat x22 1) := hd.g 1 rfl; have ra1 : Rep (eSl eStr) A0 w' (R' 49) _ := (view_rep (vec_repK (ho.rd 0 _ rfl rfl) (ho.lowK hAA hA0 hN (hO.geK (⟨.inr (fun k h => .inr h), trivial⟩))) hA0 hN (fun k h => .inr h)) e21 q23 rfl).eq a1; exact took_append1 (hop _ _ rfl rfl rfl rfl).symm hok hav (Nat.le_trans hF.size ho.ch.size) ra1 Tryz.underlying25 el_9 e24 (fun _ _ h => h)) <|
    OblsR.cons (OblR.took 12 _ _ rfl rfl rfl rfl rfl fun A' R' w' ho hd u hok hav hin hop hds => by exact took_assign (hop _ _ rfl rfl rfl rfl).symm hok hav) <|
    OblsR.nil
  intro done ρ σ A R w hdn hI
  have z25 := hI.inivR 0 rfl
  obtain ⟨u26, e_u26⟩ : ∃ u, ρ 13 = u := ⟨_, rfl⟩
  have h6 : R 6 = u26 := (hI.opvR hdn 13 12 rfl rfl rfl rfl rfl).symm.trans e_u26
  replace hAA := hI.lowK hAA hA0 hN (hO.geK (⟨.inr (fun k h => .inr h), trivial⟩))
  replace hF : Ch (ownsB v0) w0 w := hF.tr hI.ch (hO.geK (⟨.inr (fun k h => .inr h), trivial⟩))
  replace hO : IniOK [ob u26 (.vec w0.heap.size 9 eStr (((([] : List (List UInt8)) ++ (subL p0 0 s3)) ++ ([p1] : List (List UInt8))) ++ (subL p0 s3 (p0.length : Int))))] A w := hI.left hdn [(13, ob u26 (.vec w0.heap.size 9 eStr (((([] : List (List UInt8)) ++ (subL p0 0 s3)) ++ ([p1] : List (List UInt8))) ++ (subL p0 s3 (p0.length : Int)))))] ⟨rfl, rfl, e_u26, rfl, rfl, trivial⟩
  replace hA := hI.avok
  clear hI
  refine HT.ret ?_
  obtain rfl := Option.some.inj hr
  exact ⟨.inr rfl, [R 6], ⟨rfl, trivial⟩, by show Took _ true _ _ _ w0 (R 6) w; rw [h6]; exact took_post (fun k h o => .inr h) hF (vec_base hB0 (hO.ok 0 _ rfl).1) (hO.own_ge (⟨.inl rfl, trivial⟩) (i := 0) rfl) (fun _ _ _ _ _ h => h)⟩
def M_spec_l3Set_L0 (fu : Nat) : Nat → Int → T_spec_l1Cur → (List (List UInt8)) → Option (T_spec_l1Cur × (List (List UInt8)))
 | 0, _, _, _ => none
 | k + 1, y12, y13, y14 =>
  bif (decide ((0 : Int) < y12)) then (
   cl true (M_spec_l1Pick fu y13 ([([97] : List UInt8), ([98] : List UInt8), ([99] : List UInt8), ([100] : List UInt8), ([101] : List UInt8), ([97, 110, 110] : List UInt8), ([108, 101, 101] : List UInt8), ([115, 109, 105, 116, 104] : List UInt8), ([57] : List UInt8)] : List (List UInt8))) fun x19 =>
   cl true (M_spec_l3Put fu y14 x19.1 false) fun x22 =>
   ck (i64B (y12 - (1 : Int))) <|
   M_spec_l3Set_L0 fu k (y12 - (1 : Int)) x19.2 x22
  ) else (
   some (y13, y14)
  )
def M_spec_l3Set (fu : Nat) (p0 : T_spec_l1Cur) : Option ((List (List UInt8)) × T_spec_l1Cur) :=
 cl true (M_spec_l1Below fu p0 (6 : Int)) fun x5 =>
 cl true (M_spec_l3Set_L0 fu fu x5.1 x5.2 ([] : List (List UInt8))) fun s11 =>
 some (s11.2, s11.1)
theorem M_spec_l3Set_ok {fu : Nat} {Aq : Av} {p0 : T_spec_l1Cur} {r : (List (List UInt8)) × T_spec_l1Cur} (hr : M_spec_l3Set fu p0 = some r) {w : World} {v0 : Value} {b0 B0 : Nat} (hA : AvOK Aq w) (h0 : v0 = .pointer (some ⟨b0, 0, none⟩)) (hO0 : IniOK [ob (.pointer (some ⟨b0, 0, none⟩)) (.box B0 84 E_spec_l1Cur p0)] Aq w) :
  Calls Tryz.prog 74 #[v0] w fun e w' => ∃ v, e = .returned v ∧ (∃ (u0 : Value) (A1 : Av), GPost (subS Aq (ownsB (.pointer (some ⟨b0, 0, none⟩)))) (ownsB (.pointer (some ⟨b0, 0, none⟩))) w [ob (.pointer (some ⟨b0, 0, none⟩)) (.box B0 84 E_spec_l1Cur r.2), ob u0 (.vec w.heap.size 9 eStr r.1)] A1 w' ∧ (Fact.raw u0).ok v w') := by
 unfold M_spec_l3Set at hr
 obtain ⟨w0, hw0⟩ : ∃ w0, w0 = w := ⟨_, rfl⟩
 have hF : Ch (ownsB (.pointer (some ⟨b0, 0, none⟩))) w0 w := hw0 ▸ Ch.refl _ _
 obtain ⟨A0, hA0e⟩ : ∃ A0, A0 = subS Aq (ownsB (.pointer (some ⟨b0, 0, none⟩))) := ⟨_, rfl⟩
 have hA0 : ∀ b o, A0 b o → b < w0.heap.size := fun b o h => hw0 ▸ hA b o (hA0e ▸ h : subS Aq _ b o).1
 have hN : ∀ b o, A0 b o → ¬ (ownsB (.pointer (some ⟨b0, 0, none⟩))) b := fun b o h => (hA0e ▸ h : subS Aq _ b o).2
 have hA00 : AvOK A0 w0 := hA0
 rw [show GPost (subS Aq (ownsB (.pointer (some ⟨b0, 0, none⟩)))) (ownsB (.pointer (some ⟨b0, 0, none⟩))) w = GPost A0 (ownsB (.pointer (some ⟨b0, 0, none⟩))) w0 from by rw [hA0e, hw0]]
 rw [show w.heap.size = w0.heap.size from by rw [hw0]]
 clear hw0
 obtain ⟨A, hAe⟩ : ∃ A, A = Aq := ⟨_, rfl⟩
 have hAA : ∀ b o, A0 b o → A b o := fun b o h => hAe ▸ (hA0e ▸ h : subS Aq _ b o).1
 replace hA : AvOK A w := hAe ▸ hA
 have hO : IniOK [ob (.pointer (some ⟨b0, 0, none⟩)) (.box B0 84 E_spec_l1Cur p0)] A w := hAe ▸ hO0
 clear hA0e hO0
 refine calls_of_HT2 [.tmp 2] Tryz.func74 Tryz.ntmps74 (by decide) rfl rfl (Nat.le_of_ble_eq_true rfl) ?_
 intro R hR
 replace h0 : R 0 = .pointer (some ⟨b0, 0, none⟩) := (hR 0 _ rfl).trans h0
 clear hR hAe
 refine HT.seq ?_
 refine HT.text (l := ⟨_, true, .any⟩ :: []) (tl := []) (by kernel_rfl) (by kernel_rfl) (by kernel_rfl) ?_ ?_
 ·exact
   Obls.p (fun R' w' hw hs hd => of_assign trivial) <|
   Obls.nil
 intro R w hw hs hF'
 replace h0 := (hs 0 rfl).trans h0
 replace hO := hO.fr hw
 replace hA := hA.fr hw.size
 replace hF := hF.tr (hw.ch noB) fun _ h => False.elim h
 clear hs hF' hw
 refine seqR_nil ?_
 refine HT.seq ?_
 refine HT.textR [ob (.pointer (some ⟨b0, 0, none⟩)) (.box B0 84 E_spec_l1Cur p0)] (⟨_, true, [], some (.vec w0.heap.size 9 eStr ([] : List (List UInt8))), true, fun A => .any⟩ :: ⟨_, true, [1], some (.vec w0.heap.size 9 eStr ([] : List (List UInt8))), true, fun A => .any⟩ :: []) (by kernel_rfl) (by kernel_rfl) (Wf.mk' (by kernel_rfl) (UAll.cons ust_any (UAll.cons ust_any (UAll.nil))) (by kernel_rfl) (by kernel_rfl)) hO hA ?_ ?_
 ·exact
   OblsR.cons (OblR.made _ rfl rfl rfl rfl fun A' R' w' ho hd => by exact made_build [] (E := eStr) trivial Tryz.underlying25 Tryz.sizeOf9 Tryz.zeroValue9 rfl rfl rfl (Nat.le_trans hF.size ho.ch.size)) <|
   OblsR.cons (OblR.took 1 _ _ rfl rfl rfl rfl rfl fun A' R' w' ho hd u hok hav hin hop hds => by exact took_assign (hop _ _ rfl rfl rfl rfl).symm hok hav) <|
   OblsR.nil
 intro done ρ σ A R w hdn hI
 replace h0 : R 0 = (.pointer (some ⟨b0, 0, none⟩)) := (hI.reg rfl).trans h0
 have z1 := hI.inivR 0 rfl
 obtain ⟨u2, e_u2⟩ : ∃ u, ρ 2 = u := ⟨_, rfl⟩
 have h3 : R 3 = u2 := (hI.opvR hdn 2 1 rfl rfl rfl rfl rfl).symm.trans e_u2
 replace hAA := hI.lowK hAA hA0 hN (hO.geK (⟨.inr (fun k h => .inr h), trivial⟩))
 replace hF : Ch (ownsB (.pointer (some ⟨b0, 0, none⟩))) w0 w := hF.tr hI.ch (hO.geK (⟨.inr (fun k h => .inr h), trivial⟩))
 replace hO : IniOK [ob (.pointer (some ⟨b0, 0, none⟩)) (.box B0 84 E_spec_l1Cur p0), ob u2 (.vec w0.heap.size 9 eStr ([] : List (List UInt8)))] A w := hI.left hdn [(0, ob (.pointer (some ⟨b0, 0, none⟩)) (.box B0 84 E_spec_l1Cur p0)), (2, ob u2 (.vec w0.heap.size 9 eStr ([] : List (List UInt8))))] ⟨rfl, rfl, z1, rfl, rfl, ⟨rfl, rfl, e_u2, rfl, rfl, trivial⟩⟩
 replace hA := hI.avok
 clear hI
 refine HT.seq ?_
 refine HT.seq ?_
 refine SG.of ?_
 refine SG.textR [ob (.pointer (some ⟨b0, 0, none⟩)) (.box B0 84 E_spec_l1Cur p0), ob u2 (.vec w0.heap.size 9 eStr ([] : List (List UInt8)))] (⟨_, true, [], none, true, fun A => .raw (.pointer (some ⟨b0, 0, none⟩))⟩ :: []) 1 rfl rfl rfl (by kernel_rfl) (by kernel_rfl) (Wf.mk' (by kernel_rfl) (UAll.cons ust_raw (UAll.nil)) (by kernel_rfl) (by kernel_rfl)) hO hA (trivial) ?_ ?_
 ·exact
   OblsR.p (fun A' R' w' ho hd => of_move ((ho.old 0 rfl).trans h0)) <|
   OblsR.nil
 intro done ρ σ A R w hdn hI
 replace h0 : R 0 = (.pointer (some ⟨b0, 0, none⟩)) := (hI.reg rfl).trans h0
 replace h3 : R 3 = u2 := (hI.reg rfl).trans h3
 have z3 := hI.inivR 0 rfl
 have z4 := hI.inivR 1 rfl
 have h6 : R 6 = (.pointer (some ⟨b0, 0, none⟩)) := hI.fact hdn (i := 0) rfl rfl rfl
 replace hAA := hI.lowK hAA hA0 hN (hO.geK (⟨.inr (fun k h => .inr h), ⟨.inl rfl, trivial⟩⟩))
 replace hF : Ch (ownsB (.pointer (some ⟨b0, 0, none⟩))) w0 w := hF.tr hI.ch (hO.geK (⟨.inr (fun k h => .inr h), ⟨.inl rfl, trivial⟩⟩))
 replace hO : IniOK [ob (.pointer (some ⟨b0, 0, none⟩)) (.box B0 84 E_spec_l1Cur p0), ob u2 (.vec w0.heap.size 9 eStr ([] : List (List UInt8)))] A w := hI.left hdn [(0, ob (.pointer (some ⟨b0, 0, none⟩)) (.box B0 84 E_spec_l1Cur p0)), (1, ob u2 (.vec w0.heap.size 9 eStr ([] : List (List UInt8))))] ⟨rfl, rfl, z3, rfl, rfl, ⟨rfl, rfl, z4, rfl, rfl, trivial⟩⟩
 replace hA := hI.avok
 clear hI
 obtain ⟨x5, q6, hr⟩ := cl_some hr
 have hFz : w0.heap.size ≤ w.heap.size := hF.size
 refine SG.op 7 rfl rfl rfl rfl (call_run Tryz.call73 (M_spec_l1Below_ok (q6 rfl) hA h6 (hO.sub [(0, ob (.pointer (some ⟨b0, 0, none⟩)) (.box B0 84 E_spec_l1Cur p0))] ⟨rfl, rfl, trivial⟩) rfl)) ?_
 rintro v_ w ⟨A, hG1, hv⟩ R hs hd
 have hst := stp_call hA hG1 (hO.ok 0 _ rfl).2
 replace hAA : ∀ b o, A0 b o → A b o := low_callK hAA hA0 hN (hO.geK (⟨.inr (fun k h => .inr h), ⟨.inl rfl, trivial⟩⟩)) 0 rfl hG1
 replace hF : Ch (ownsB (.pointer (some ⟨b0, 0, none⟩))) w0 w := hF.tr hG1.ch (fun k hk => (hO.geK (⟨.inr (fun k h => .inr h), ⟨.inl rfl, trivial⟩⟩)) k ⟨0, _, rfl, hk⟩)
 replace hO := GPost.next hO hA 0 rfl hG1
 replace hA := hG1.avok
 replace hO : IniOK [ob (.pointer (some ⟨b0, 0, none⟩)) (.box B0 84 E_spec_l1Cur x5.2), ob u2 (.vec w0.heap.size 9 eStr ([] : List (List UInt8)))] A w := hO
 replace h0 := (hs 0 rfl).trans h0
 replace h3 := (hs 3 rfl).trans h3
 replace h6 := (hs 6 rfl).trans h6
 have h7 : R 7 = .int .i64 x5.1 := hd.trans hv
 clear hFz hG1 hv hs hd
 refine SG.textR [ob (.pointer (some ⟨b0, 0, none⟩)) (.box B0 84 E_spec_l1Cur x5.2), ob u2 (.vec w0.heap.size 9 eStr ([] : List (List UInt8)))] (⟨_, true, [], none, true, fun A => .raw (.pointer (some ⟨b0, 0, none⟩))⟩ :: ⟨_, true, [], none, true, fun A => .raw (.int .i64 x5.1)⟩ :: ⟨_, true, [], none, true, fun A => .raw (.int .i64 x5.1)⟩ :: []) 3 rfl rfl rfl (by kernel_rfl) (by kernel_rfl) (Wf.mk' (by kernel_rfl) (UAll.cons ust_raw (UAll.cons ust_raw (UAll.cons ust_raw (UAll.nil)))) (by kernel_rfl) (by kernel_rfl)) hO hA (⟨⟨rfl, rfl, rfl, h6⟩, ⟨⟨rfl, rfl, rfl, h7⟩, trivial⟩⟩) ?_ ?_
 ·exact
   OblsR.p (fun A' R' w' ho hd => by have a0 : R' 7 = .int .i64 x5.1 := hd.g 0 rfl; exact of_assign a0) <|
   OblsR.nil
 intro done ρ σ A R w hdn hI
 replace h0 : R 0 = (.pointer (some ⟨b0, 0, none⟩)) := (hI.reg rfl).trans h0
 replace h3 : R 3 = u2 := (hI.reg rfl).trans h3
 have z7 := hI.inivR 0 rfl
 have z8 := hI.inivR 1 rfl
 have h4 : R 4 = .int .i64 x5.1 := hI.fact hdn (i := 2) rfl rfl rfl
 replace hAA := hI.lowK hAA hA0 hN (hO.geK (⟨.inr (fun k h => .inr h), ⟨.inl rfl, trivial⟩⟩))
 replace hF : Ch (ownsB (.pointer (some ⟨b0, 0, none⟩))) w0 w := hF.tr hI.ch (hO.geK (⟨.inr (fun k h => .inr h), ⟨.inl rfl, trivial⟩⟩))
 replace hO : IniOK [ob (.pointer (some ⟨b0, 0, none⟩)) (.box B0 84 E_spec_l1Cur x5.2), ob u2 (.vec w0.heap.size 9 eStr ([] : List (List UInt8)))] A w := hI.left hdn [(0, ob (.pointer (some ⟨b0, 0, none⟩)) (.box B0 84 E_spec_l1Cur x5.2)), (1, ob u2 (.vec w0.heap.size 9 eStr ([] : List (List UInt8))))] ⟨rfl, rfl, z7, rfl, rfl, ⟨rfl, rfl, z8, rfl, rfl, trivial⟩⟩
 replace hA := hI.avok
 clear hI
 refine SG.fin rfl ?_
 obtain ⟨rl9, q10, hr⟩ := cl_some hr
 replace q10 := q10 rfl
 refine HT.cut0 (fun R w => ∃ A : Av, ∃ (s11 : T_spec_l1Cur × (List (List UInt8))) (uo_u2 : Value), rl9 = s11 ∧ AvOK A w ∧ Ch (ownsB (.pointer (some ⟨b0, 0, none⟩))) w0 w ∧ (∀ b o, A0 b o → A b o) ∧ IniOK [ob (.pointer (some ⟨b0, 0, none⟩)) (.box B0 84 E_spec_l1Cur s11.1), ob uo_u2 (.vec w0.heap.size 9 eStr s11.2)] A w ∧ R 3 = uo_u2) ?_ ?_
 ·refine HT.block ?_
  refine HT.loop (fun k R w => ∃ A : Av, ∃ (y12 : Int) (y13 : T_spec_l1Cur) (y14 : List (List UInt8)) (ul_u2 : Value), M_spec_l3Set_L0 fu k y12 y13 y14 = some rl9 ∧ AvOK A w ∧ Ch (ownsB (.pointer (some ⟨b0, 0, none⟩))) w0 w ∧ (∀ b o, A0 b o → A b o) ∧ IniOK [ob (.pointer (some ⟨b0, 0, none⟩)) (.box B0 84 E_spec_l1Cur y13), ob ul_u2 (.vec w0.heap.size 9 eStr y14)] A w ∧ R 0 = (.pointer (some ⟨b0, 0, none⟩)) ∧ R 3 = ul_u2 ∧ R 4 = .int .i64 y12) fu ⟨_, _, _, _, u2, q10, hA, hF, hAA, hO, h0, h3, h4⟩ ?_
  have hr0 := hr; clear hr q10
  rintro k R w ⟨A, y12, y13, y14, ul_u2, hr, hA, hF, hAA, hO, h0, h3, h4⟩
  rcases k with _ | k
  ·cases (show none = some _ from hr)
  rw [M_spec_l3Set_L0] at hr
  refine HT.seq ?_
  refine HT.seq ?_
  refine HT.text (l := ⟨_, true, .raw (.int .i64 y12)⟩ :: ⟨_, true, .raw (.bool (decide ((0 : Int) < y12)))⟩ :: []) (tl := []) (by kernel_rfl) (by kernel_rfl) (by kernel_rfl) ?_ ?_
  ·exact
    Obls.p (fun R' w' hw hs hd => of_move ((hs 4 rfl).trans h4)) <|
    Obls.p (fun R' w' hw hs hd => by have a0 : R' 8 = .int .i64 y12 := hd.g 0 rfl; exact of_gtr a0 rfl) <|
    Obls.nil
  intro R w hw hs hF'
  replace h0 := (hs 0 rfl).trans h0
  replace h3 := (hs 3 rfl).trans h3
  replace h4 := (hs 4 rfl).trans h4
  have h9 : R 9 = .bool (decide ((0 : Int) < y12)) := hF' 1 _ _ rfl rfl rfl
  replace hO := hO.fr hw
  replace hA := hA.fr hw.size
  replace hF := hF.tr (hw.ch noB) fun _ h => False.elim h
  clear hs hF' hw
  refine seqR_nil ?_
  refine HT.cond (decide ((0 : Int) < y12)) h9 (fun c15 => ?_) (fun c15 => ?_)
  ·have hr := cnd_t c15 hr
   refine HT.skip ?_
   refine HT.seq ?_
   refine HT.block ?_
   refine SG.of ?_
   refine SG.textR [ob (.pointer (some ⟨b0, 0, none⟩)) (.box B0 84 E_spec_l1Cur y13), ob ul_u2 (.vec w0.heap.size 9 eStr y14)] (⟨_, true, [], none, true, fun A => .raw ul_u2⟩ :: ⟨_, true, [], none, true, fun A => .raw (.pointer (some ⟨b0, 0, none⟩))⟩ :: ⟨_, true, [], none, true, fun A => .rep (eSl eStr) A ([([97] : List UInt8), ([98] : List UInt8), ([99] : List UInt8), ([100] : List UInt8), ([101] : List UInt8), ([97, 110, 110] : List UInt8), ([108, 101, 101] : List UInt8), ([115, 109, 105, 116, 104] : List UInt8), ([57] : List UInt8)] : List (List UInt8))⟩ :: []) 3 rfl rfl rfl (by kernel_rfl) (by kernel_rfl) (Wf.mk' (by kernel_rfl) (UAll.cons ust_raw (UAll.cons ust_raw (UAll.cons ust_rep (UAll.nil)))) (by kernel_rfl) (by kernel_rfl)) hO hA (trivial) ?_ ?_
   ·exact
     OblsR.p (fun A' R' w' ho hd => of_move ((ho.old 3 rfl).trans h3)) <|
     OblsR.p (fun A' R' w' ho hd => of_move ((ho.old 0 rfl).trans h0)) <|
     OblsR.p (fun A' R' w' ho hd => of_build [_, _, _, _, _, _, _, _, _] (E := eStr) ⟨⟨_, rfl, ⟨_, rfl, rfl, by decide⟩⟩, ⟨⟨_, rfl, ⟨_, rfl, rfl, by decide⟩⟩, ⟨⟨_, rfl, ⟨_, rfl, rfl, by decide⟩⟩, ⟨⟨_, rfl, ⟨_, rfl, rfl, by decide⟩⟩, ⟨⟨_, rfl, ⟨_, rfl, rfl, by decide⟩⟩, ⟨⟨_, rfl, ⟨_, rfl, rfl, by decide⟩⟩, ⟨⟨_, rfl, ⟨_, rfl, rfl, by decide⟩⟩, ⟨⟨_, rfl, ⟨_, rfl, rfl, by decide⟩⟩, ⟨⟨_, rfl, ⟨_, rfl, rfl, by decide⟩⟩, trivial⟩⟩⟩⟩⟩⟩⟩⟩⟩ Tryz.underlying25 Tryz.sizeOf9 Tryz.zeroValue9 rfl rfl rfl ho.av) <|
     OblsR.nil
   intro done ρ σ A R w hdn hI
   replace h0 : R 0 = (.pointer (some ⟨b0, 0, none⟩)) := (hI.reg rfl).trans h0
   replace h3 : R 3 = ul_u2 := (hI.reg rfl).trans h3
   replace h4 : R 4 = .int .i64 y12 := (hI.reg rfl).trans h4
   have z16 := hI.inivR 0 rfl
   have z17 := hI.inivR 1 rfl
   have h12 : R 12 = ul_u2 := hI.fact hdn (i := 0) rfl rfl rfl
   have h13 : R 13 = (.pointer (some ⟨b0, 0, none⟩)) := hI.fact hdn (i := 1) rfl rfl rfl
   obtain ⟨u18, h14, f_u18⟩ : ∃ u, R 14 = u ∧ Rep (eSl eStr) A w u ([([97] : List UInt8), ([98] : List UInt8), ([99] : List UInt8), ([100] : List UInt8), ([101] : List UInt8), ([97, 110, 110] : List UInt8), ([108, 101, 101] : List UInt8), ([115, 109, 105, 116, 104] : List UInt8), ([57] : List UInt8)] : List (List UInt8)) := ⟨_, rfl, hI.fact hdn (i := 2) rfl rfl rfl⟩
   replace hAA := hI.lowK hAA hA0 hN (hO.geK (⟨.inr (fun k h => .inr h), ⟨.inl rfl, trivial⟩⟩))
   replace hF : Ch (ownsB (.pointer (some ⟨b0, 0, none⟩))) w0 w := hF.tr hI.ch (hO.geK (⟨.inr (fun k h => .inr h), ⟨.inl rfl, trivial⟩⟩))
   replace hO : IniOK [ob (.pointer (some ⟨b0, 0, none⟩)) (.box B0 84 E_spec_l1Cur y13), ob ul_u2 (.vec w0.heap.size 9 eStr y14)] A w := hI.left hdn [(0, ob (.pointer (some ⟨b0, 0, none⟩)) (.box B0 84 E_spec_l1Cur y13)), (1, ob ul_u2 (.vec w0.heap.size 9 eStr y14))] ⟨rfl, rfl, z16, rfl, rfl, ⟨rfl, rfl, z17, rfl, rfl, trivial⟩⟩
   replace hA := hI.avok
   clear hI
   obtain ⟨x19, q20, hr⟩ := cl_some hr
   have hFz : w0.heap.size ≤ w.heap.size := hF.size
   refine SG.op 15 rfl rfl rfl rfl (call_run Tryz.call75 (M_spec_l1Pick_ok (q20 rfl) hA h13 (hO.sub [(0, ob (.pointer (some ⟨b0, 0, none⟩)) (.box B0 84 E_spec_l1Cur y13))] ⟨rfl, rfl, trivial⟩) (f_u18.eq h14))) ?_
   rintro v_ w ⟨A, hG1, hv⟩ R hs hd
   have hst := stp_call hA hG1 (hO.ok 0 _ rfl).2
   replace hAA : ∀ b o, A0 b o → A b o := low_callK hAA hA0 hN (hO.geK (⟨.inr (fun k h => .inr h), ⟨.inl rfl, trivial⟩⟩)) 0 rfl hG1
   replace hF : Ch (ownsB (.pointer (some ⟨b0, 0, none⟩))) w0 w := hF.tr hG1.ch (fun k hk => (hO.geK (⟨.inr (fun k h => .inr h), ⟨.inl rfl, trivial⟩⟩)) k ⟨0, _, rfl, hk⟩)
   replace hO := GPost.next hO hA 0 rfl hG1
   replace hA := hG1.avok
   replace hO : IniOK [ob (.pointer (some ⟨b0, 0, none⟩)) (.box B0 84 E_spec_l1Cur x19.2), ob ul_u2 (.vec w0.heap.size 9 eStr y14)] A w := hO
   replace h0 := (hs 0 rfl).trans h0
   replace h3 := (hs 3 rfl).trans h3
   replace h4 := (hs 4 rfl).trans h4
   replace h12 := (hs 12 rfl).trans h12
   replace h13 := (hs 13 rfl).trans h13
   replace h14 := (hs 14 rfl).trans h14
   replace f_u18 := f_u18.stp hst
   obtain ⟨u21, h15, f_u21⟩ : ∃ u, R 15 = u ∧ Rep eStr A w u x19.1 := ⟨_, rfl, hd ▸ hv⟩
   clear hFz hG1 hv hs hd
   obtain ⟨x22, q23, hr⟩ := cl_some hr
   refine SG.textR [ob (.pointer (some ⟨b0, 0, none⟩)) (.box B0 84 E_spec_l1Cur x19.2), ob ul_u2 (.vec w0.heap.size 9 eStr y14)] (⟨_, true, [], none, true, fun A => .raw ul_u2⟩ :: ⟨_, true, [], none, true, fun A => .raw (.pointer (some ⟨b0, 0, none⟩))⟩ :: ⟨_, true, [], none, true, fun A => .raw u18⟩ :: ⟨_, true, [], none, true, fun A => .raw u21⟩ :: ⟨_, true, [1], some (.vec w0.heap.size 9 eStr x22), true, fun A => .any⟩ :: ⟨_, true, [6], some (.vec w0.heap.size 9 eStr x22), true, fun A => .any⟩ :: []) 6 rfl rfl rfl (by kernel_rfl) (by kernel_rfl) (Wf.mk' (by kernel_rfl) (UAll.cons ust_raw (UAll.cons ust_raw (UAll.cons ust_raw (UAll.cons ust_raw (UAll.cons ust_any (UAll.cons ust_any (UAll.nil))))))) (by kernel_rfl) (by kernel_rfl)) hO hA (⟨⟨rfl, rfl, rfl, h12⟩, ⟨⟨rfl, rfl, rfl, h13⟩, ⟨⟨rfl, rfl, rfl, h14⟩, ⟨⟨rfl, rfl, rfl, h15⟩, trivial⟩⟩⟩⟩) ?_ ?_
   ·exact
     OblsR.cons (OblR.took 1 _ _ rfl rfl rfl rfl rfl fun A' R' w' ho hd u hok hav hin hop hds => by have a0 : R' 12 = ul_u2 := hd.g 0 rfl; have a1 : R' 15 = u21 := hd.g 1 rfl; have ra1 := (f_u21.stp ho.stp).eq a1; have hu0 : evalR R' (.tmp 12) = u := a0.trans (hin _ rfl).symm; exact took_callm Tryz.call56 hav (by simp only [List.map, hu0]; exact M_spec_l3Put_ok (q23 rfl) (ho.av.sub _) (fun b o h => h.2) (Nat.le_trans hF.size ho.ch.size) (Vec.flat hok (fun _ _ _ _ _ h => h)) (ra1.less fun b o h => h.1) rfl)) <|
     OblsR.cons (OblR.took 6 _ _ rfl rfl rfl rfl rfl fun A' R' w' ho hd u hok hav hin hop hds => by exact took_assign (hop _ _ rfl rfl rfl rfl).symm hok hav) <|
     OblsR.nil
   intro done ρ σ A R w hdn hI
   replace h0 : R 0 = (.pointer (some ⟨b0, 0, none⟩)) := (hI.reg rfl).trans h0
   replace h4 : R 4 = .int .i64 y12 := (hI.reg rfl).trans h4
   have z24 := hI.inivR 0 rfl
   obtain ⟨u25, e_u25⟩ : ∃ u, ρ 7 = u := ⟨_, rfl⟩
   have h3 : R 3 = u25 := (hI.opvR hdn 7 5 rfl rfl rfl rfl rfl).symm.trans e_u25
   replace hAA := hI.lowK hAA hA0 hN (hO.geK (⟨.inr (fun k h => .inr h), ⟨.inl rfl, trivial⟩⟩))
   replace hF : Ch (ownsB (.pointer (some ⟨b0, 0, none⟩))) w0 w := hF.tr hI.ch (hO.geK (⟨.inr (fun k h => .inr h), ⟨.inl rfl, trivial⟩⟩))
   replace hO : IniOK [ob (.pointer (some ⟨b0, 0, none⟩)) (.box B0 84 E_spec_l1Cur x19.2), ob u25 (.vec w0.heap.size 9 eStr x22)] A w := hI.left hdn [(0, ob (.pointer (some ⟨b0, 0, none⟩)) (.box B0 84 E_spec_l1Cur x19.2)), (7, ob u25 (.vec w0.heap.size 9 eStr x22))] ⟨rfl, rfl, z24, rfl, rfl, ⟨rfl, rfl, e_u25, rfl, rfl, trivial⟩⟩
   replace hA := hI.avok
   clear hI
   refine SG.fin rfl ?_
   obtain ⟨e26, hr⟩ := ck_some hr
   refine HT.text (l := ⟨_, true, .raw (.int .i64 y12)⟩ :: ⟨_, true, .raw (.int .i64 (y12 - (1 : Int)))⟩ :: ⟨_, true, .raw (.int .i64 (y12 - (1 : Int)))⟩ :: []) (tl := []) (by kernel_rfl) (by kernel_rfl) (by kernel_rfl) ?_ ?_
   ·exact
     Obls.p (fun R' w' hw hs hd => of_move ((hs 4 rfl).trans h4)) <|
     Obls.p (fun R' w' hw hs hd => by have a0 : R' 10 = .int .i64 y12 := hd.g 0 rfl; exact of_sub a0 rfl e26) <|
     Obls.p (fun R' w' hw hs hd => by have a0 : R' 11 = .int .i64 (y12 - (1 : Int)) := hd.g 0 rfl; exact of_assign a0) <|
     Obls.nil
   intro R w hw hs hF'
   replace h0 := (hs 0 rfl).trans h0
   replace h3 := (hs 3 rfl).trans h3
   have h4 : R 4 = .int .i64 (y12 - (1 : Int)) := hF' 2 _ _ rfl rfl rfl
   replace hO := hO.fr hw
   replace hA := hA.fr hw.size
   replace hF := hF.tr (hw.ch noB) fun _ h => False.elim h
   clear hs hF' hw
   refine seqR_nil ?_
   exact Exists.intro k (And.intro (Nat.lt_succ_self k) ⟨_, _, _, _, u25, hr, hA, hF, hAA, hO, h0, h3, h4⟩)
  ·have hr := cnd_f c15 hr
   refine HT.exit ?_
   obtain rfl := Option.some.inj hr
   exact Exists.intro _ ⟨_, ul_u2, rfl, hA, hF, hAA, hO, h3⟩
 rintro R w ⟨A, s11, uo_u2, es, hA, hF, hAA, hO, h3⟩
 obtain rfl := es.symm
 refine HT.seq ?_
 refine HT.text (l := ⟨_, true, .raw uo_u2⟩ :: ⟨_, true, .raw uo_u2⟩ :: []) (tl := []) (by kernel_rfl) (by kernel_rfl) (by kernel_rfl) ?_ ?_
 ·exact
   Obls.p (fun R' w' hw hs hd => of_move ((hs 3 rfl).trans h3)) <|
   Obls.p (fun R' w' hw hs hd => by have a0 : R' 17 = uo_u2 := hd.g 0 rfl; exact of_assign a0) <|
   Obls.nil
 intro R w hw hs hF'
 have h2 : R 2 = uo_u2 := hF' 1 _ _ rfl rfl rfl
 replace hO := hO.fr hw
 replace hA := hA.fr hw.size
 replace hF := hF.tr (hw.ch noB) fun _ h => False.elim h
 clear hs hF' hw
 refine seqR_nil ?_
 refine HT.ret ?_
 obtain rfl := Option.some.inj hr
 obtain ⟨A1, hA1, hG1⟩ := GPost.of hO hA hAA (hO.geK (⟨.inr (fun k h => .inr h), ⟨.inl rfl, trivial⟩⟩)) hF
 exact ⟨.inr rfl, [R 2], ⟨rfl, trivial⟩, uo_u2, A1, hG1, h2⟩
def M_spec_l11Sets_L0 (fu : Nat) : Nat → Int → T_spec_l1Cur → (List (List (List UInt8))) → Option (T_spec_l1Cur × (List (List (List UInt8))))
 | 0, _, _, _ => none
 | k + 1, y12, y13, y14 =>
  bif (decide ((0 : Int) < y12)) then (
   cl true (M_spec_l3Set fu y13) fun x18 =>
   ck (lenOK (y14.length + ([x18.1] : List (List (List UInt8))).length)) <|
   ck (i64B (y12 - (1 : Int))) <|
   M_spec_l11Sets_L0 fu k (y12 - (1 : Int)) x18.2 (y14 ++ ([x18.1] : List (List (List UInt8))))
  ) else (
   some (y13, y14)
  )
def M_spec_l11Sets (fu : Nat) (p0 : T_spec_l1Cur) : Option ((List (List (List UInt8))) × T_spec_l1Cur) :=
 cl true (M_spec_l1Below fu p0 (6 : Int)) fun x5 =>
 cl true (M_spec_l11Sets_L0 fu fu x5.1 x5.2 ([] : List (List (List UInt8)))) fun s11 =>
 some (s11.2, s11.1)
theorem M_spec_l11Sets_ok {fu : Nat} {Aq : Av} {p0 : T_spec_l1Cur} {r : (List (List (List UInt8))) × T_spec_l1Cur} (hr : M_spec_l11Sets fu p0 = some r) {w : World} {v0 : Value} {b0 B0 : Nat} (hA : AvOK Aq w) (h0 : v0 = .pointer (some ⟨b0, 0, none⟩)) (hO0 : IniOK [ob (.pointer (some ⟨b0, 0, none⟩)) (.box B0 84 E_spec_l1Cur p0)] Aq w) :
  Calls Tryz.prog 71 #[v0] w fun e w' => ∃ v, e = .returned v ∧ (∃ (u0 : Value) (A1 : Av), GPost (subS Aq (ownsB (.pointer (some ⟨b0, 0, none⟩)))) (ownsB (.pointer (some ⟨b0, 0, none⟩))) w [ob (.pointer (some ⟨b0, 0, none⟩)) (.box B0 84 E_spec_l1Cur r.2), ob u0 (.vec w.heap.size 25 (eSl eStr) r.1)] A1 w' ∧ (Fact.raw u0).ok v w') := by
 unfold M_spec_l11Sets at hr
 obtain ⟨w0, hw0⟩ : ∃ w0, w0 = w := ⟨_, rfl⟩
 have hF : Ch (ownsB (.pointer (some ⟨b0, 0, none⟩))) w0 w := hw0 ▸ Ch.refl _ _
 obtain ⟨A0, hA0e⟩ : ∃ A0, A0 = subS Aq (ownsB (.pointer (some ⟨b0, 0, none⟩))) := ⟨_, rfl⟩
 have hA0 : ∀ b o, A0 b o → b < w0.heap.size := fun b o h => hw0 ▸ hA b o (hA0e ▸ h : subS Aq _ b o).1
 have hN : ∀ b o, A0 b o → ¬ (ownsB (.pointer (some ⟨b0, 0, none⟩))) b := fun b o h => (hA0e ▸ h : subS Aq _ b o).2
 have hA00 : AvOK A0 w0 := hA0
 rw [show GPost (subS Aq (ownsB (.pointer (some ⟨b0, 0, none⟩)))) (ownsB (.pointer (some ⟨b0, 0, none⟩))) w = GPost A0 (ownsB (.pointer (some ⟨b0, 0, none⟩))) w0 from by rw [hA0e, hw0]]
 rw [show w.heap.size = w0.heap.size from by rw [hw0]]
 clear hw0
 obtain ⟨A, hAe⟩ : ∃ A, A = Aq := ⟨_, rfl⟩
 have hAA : ∀ b o, A0 b o → A b o := fun b o h => hAe ▸ (hA0e ▸ h : subS Aq _ b o).1
 replace hA : AvOK A w := hAe ▸ hA
 have hO : IniOK [ob (.pointer (some ⟨b0, 0, none⟩)) (.box B0 84 E_spec_l1Cur p0)] A w := hAe ▸ hO0
 clear hA0e hO0
 refine calls_of_HT2 [.tmp 2] Tryz.func71 Tryz.ntmps71 (by decide) rfl rfl (Nat.le_of_ble_eq_true rfl) ?_
 intro R hR
 replace h0 : R 0 = .pointer (some ⟨b0, 0, none⟩) := (hR 0 _ rfl).trans h0
 clear hR hAe
 refine HT.seq ?_
 refine HT.text (l := ⟨_, true, .any⟩ :: []) (tl := []) (by kernel_rfl) (by kernel_rfl) (by kernel_rfl) ?_ ?_
 ·exact
   Obls.p (fun R' w' hw hs hd => of_assign trivial) <|
   Obls.nil
 intro R w hw hs hF'
 replace h0 := (hs 0 rfl).trans h0
 replace hO := hO.fr hw
 replace hA := hA.fr hw.size
 replace hF := hF.tr (hw.ch noB) fun _ h => False.elim h
 clear hs hF' hw
 refine seqR_nil ?_
 refine HT.seq ?_
 refine HT.textR [ob (.pointer (some ⟨b0, 0, none⟩)) (.box B0 84 E_spec_l1Cur p0)] (⟨_, true, [], some (.vec w0.heap.size 25 (eSl eStr) ([] : List (List (List UInt8)))), true, fun A => .any⟩ :: ⟨_, true, [1], some (.vec w0.heap.size 25 (eSl eStr) ([] : List (List (List UInt8)))), true, fun A => .any⟩ :: []) (by kernel_rfl) (by kernel_rfl) (Wf.mk' (by kernel_rfl) (UAll.cons ust_any (UAll.cons ust_any (UAll.nil))) (by kernel_rfl) (by kernel_rfl)) hO hA ?_ ?_
 ·exact
   OblsR.cons (OblR.made _ rfl rfl rfl rfl fun A' R' w' ho hd => by exact made_build [] (E := eSl eStr) trivial Tryz.underlying86 Tryz.sizeOf25 Tryz.zeroValue25 rfl rfl rfl (Nat.le_trans hF.size ho.ch.size)) <|
   OblsR.cons (OblR.took 1 _ _ rfl rfl rfl rfl rfl fun A' R' w' ho hd u hok hav hin hop hds => by exact took_assign (hop _ _ rfl rfl rfl rfl).symm hok hav) <|
   OblsR.nil
 intro done ρ σ A R w hdn hI
 replace h0 : R 0 = (.pointer (some ⟨b0, 0, none⟩)) := (hI.reg rfl).trans h0
 have z1 := hI.inivR 0 rfl
 obtain ⟨u2, e_u2⟩ : ∃ u, ρ 2 = u := ⟨_, rfl⟩
 have h3 : R 3 = u2 := (hI.opvR hdn 2 1 rfl rfl rfl rfl rfl).symm.trans e_u2
 replace hAA := hI.lowK hAA hA0 hN (hO.geK (⟨.inr (fun k h => .inr h), trivial⟩))
 replace hF : Ch (ownsB (.pointer (some ⟨b0, 0, none⟩))) w0 w := hF.tr hI.ch (hO.geK (⟨.inr (fun k h => .inr h), trivial⟩))
 replace hO : IniOK [ob (.pointer (some ⟨b0, 0, none⟩)) (.box B0 84 E_spec_l1Cur p0), ob u2 (.vec w0.heap.size 25 (eSl eStr) ([] : List (List (List UInt8))))] A w := hI.left hdn [(0, ob (.pointer (some ⟨b0, 0, none⟩)) (.box B0 84 E_spec_l1Cur p0)), (2, ob u2 (.vec w0.heap.size 25 (eSl eStr) ([] : List (List (List UInt8)))))] ⟨rfl, rfl, z1, rfl, rfl, ⟨rfl, rfl, e_u2, rfl, rfl, trivial⟩⟩
 replace hA := hI.avok
 clear hI
 refine HT.seq ?_
 refine HT.seq ?_
 refine SG.of ?_
 refine SG.textR [ob (.pointer (some ⟨b0, 0, none⟩)) (.box B0 84 E_spec_l1Cur p0), ob u2 (.vec w0.heap.size 25 (eSl eStr) ([] : List (List (List UInt8))))] (⟨_, true, [], none, true, fun A => .raw (.pointer (some ⟨b0, 0, none⟩))⟩ :: []) 1 rfl rfl rfl (by kernel_rfl) (by kernel_rfl) (Wf.mk' (by kernel_rfl) (UAll.cons ust_raw (UAll.nil)) (by kernel_rfl) (by kernel_rfl)) hO hA (trivial) ?_ ?_
 ·exact
   OblsR.p (fun A' R' w' ho hd => of_move ((ho.old 0 rfl).trans h0)) <|
   OblsR.nil
 intro done ρ σ A R w hdn hI
 replace h0 : R 0 = (.pointer (some ⟨b0, 0, none⟩)) := (hI.reg rfl).trans h0
 replace h3 : R 3 = u2 := (hI.reg rfl).trans h3
 have z3 := hI.inivR 0 rfl
 have z4 := hI.inivR 1 rfl
 have h6 : R 6 = (.pointer (some ⟨b0, 0, none⟩)) := hI.fact hdn (i := 0) rfl rfl rfl
 replace hAA := hI.lowK hAA hA0 hN (hO.geK (⟨.inr (fun k h => .inr h), ⟨.inl rfl, trivial⟩⟩))
 replace hF : Ch (ownsB (.pointer (some ⟨b0, 0, none⟩))) w0 w := hF.tr hI.ch (hO.geK (⟨.inr (fun k h => .inr h), ⟨.inl rfl, trivial⟩⟩))
 replace hO : IniOK [ob (.pointer (some ⟨b0, 0, none⟩)) (.box B0 84 E_spec_l1Cur p0), ob u2 (.vec w0.heap.size 25 (eSl eStr) ([] : List (List (List UInt8))))] A w := hI.left hdn [(0, ob (.pointer (some ⟨b0, 0, none⟩)) (.box B0 84 E_spec_l1Cur p0)), (1, ob u2 (.vec w0.heap.size 25 (eSl eStr) ([] : List (List (List UInt8)))))] ⟨rfl, rfl, z3, rfl, rfl, ⟨rfl, rfl, z4, rfl, rfl, trivial⟩⟩
 replace hA := hI.avok
 clear hI
 obtain ⟨x5, q6, hr⟩ := cl_some hr
 have hFz : w0.heap.size ≤ w.heap.size := hF.size
 refine SG.op 7 rfl rfl rfl rfl (call_run Tryz.call73 (M_spec_l1Below_ok (q6 rfl) hA h6 (hO.sub [(0, ob (.pointer (some ⟨b0, 0, none⟩)) (.box B0 84 E_spec_l1Cur p0))] ⟨rfl, rfl, trivial⟩) rfl)) ?_
 rintro v_ w ⟨A, hG1, hv⟩ R hs hd
 have hst := stp_call hA hG1 (hO.ok 0 _ rfl).2
 replace hAA : ∀ b o, A0 b o → A b o := low_callK hAA hA0 hN (hO.geK (⟨.inr (fun k h => .inr h), ⟨.inl rfl, trivial⟩⟩)) 0 rfl hG1
 replace hF : Ch (ownsB (.pointer (some ⟨b0, 0, none⟩))) w0 w := hF.tr hG1.ch (fun k hk => (hO.geK (⟨.inr (fun k h => .inr h), ⟨.inl rfl, trivial⟩⟩)) k ⟨0, _, rfl, hk⟩)
 replace hO := GPost.next hO hA 0 rfl hG1
 replace hA := hG1.avok
 replace hO : IniOK [ob (.pointer (some ⟨b0, 0, none⟩)) (.box B0 84 E_spec_l1Cur x5.2), ob u2 (.vec w0.heap.size 25 (eSl eStr) ([] : List (List (List UInt8))))] A w := hO
 replace h0 := (hs 0 rfl).trans h0
 replace h3 := (hs 3 rfl).trans h3
 replace h6 := (hs 6 rfl).trans h6
 have h7 : R 7 = .int .i64 x5.1 := hd.trans hv
 clear hFz hG1 hv hs hd
 refine SG.textR [ob (.pointer (some ⟨b0, 0, none⟩)) (.box B0 84 E_spec_l1Cur x5.2), ob u2 (.vec w0.heap.size 25 (eSl eStr) ([] : List (List (List UInt8))))] (⟨_, true, [], none, true, fun A => .raw (.pointer (some ⟨b0, 0, none⟩))⟩ :: ⟨_, true, [], none, true, fun A => .raw (.int .i64 x5.1)⟩ :: ⟨_, true, [], none, true, fun A => .raw (.int .i64 x5.1)⟩ :: []) 3 rfl rfl rfl (by kernel_rfl) (by kernel_rfl) (Wf.mk' (by kernel_rfl) (UAll.cons ust_raw (UAll.cons ust_raw (UAll.cons ust_raw (UAll.nil)))) (by kernel_rfl) (by kernel_rfl)) hO hA (⟨⟨rfl, rfl, rfl, h6⟩, ⟨⟨rfl, rfl, rfl, h7⟩, trivial⟩⟩) ?_ ?_
 ·exact
   OblsR.p (fun A' R' w' ho hd => by have a0 : R' 7 = .int .i64 x5.1 := hd.g 0 rfl; exact of_assign a0) <|
   OblsR.nil
 intro done ρ σ A R w hdn hI
 replace h0 : R 0 = (.pointer (some ⟨b0, 0, none⟩)) := (hI.reg rfl).trans h0
 replace h3 : R 3 = u2 := (hI.reg rfl).trans h3
 have z7 := hI.inivR 0 rfl
 have z8 := hI.inivR 1 rfl
 have h4 : R 4 = .int .i64 x5.1 := hI.fact hdn (i := 2) rfl rfl rfl
 replace hAA := hI.lowK hAA hA0 hN (hO.geK (⟨.inr (fun k h => .inr h), ⟨.inl rfl, trivial⟩⟩))
 replace hF : Ch (ownsB (.pointer (some ⟨b0, 0, none⟩))) w0 w := hF.tr hI.ch (hO.geK (⟨.inr (fun k h => .inr h), ⟨.inl rfl, trivial⟩⟩))
 replace hO : IniOK [ob (.pointer (some ⟨b0, 0, none⟩)) (.box B0 84 E_spec_l1Cur x5.2), ob u2 (.vec w0.heap.size 25 (eSl eStr) ([] : List (List (List UInt8))))] A w := hI.left hdn [(0, ob (.pointer (some ⟨b0, 0, none⟩)) (.box B0 84 E_spec_l1Cur x5.2)), (1, ob u2 (.vec w0.heap.size 25 (eSl eStr) ([] : List (List (List UInt8)))))] ⟨rfl, rfl, z7, rfl, rfl, ⟨rfl, rfl, z8, rfl, rfl, trivial⟩⟩
 replace hA := hI.avok
 clear hI
 refine SG.fin rfl ?_
 obtain ⟨rl9, q10, hr⟩ := cl_some hr
 replace q10 := q10 rfl
 refine HT.cut0 (fun R w => ∃ A : Av, ∃ (s11 : T_spec_l1Cur × (List (List (List UInt8)))) (uo_u2 : Value), rl9 = s11 ∧ AvOK A w ∧ Ch (ownsB (.pointer (some ⟨b0, 0, none⟩))) w0 w ∧ (∀ b o, A0 b o → A b o) ∧ IniOK [ob (.pointer (some ⟨b0, 0, none⟩)) (.box B0 84 E_spec_l1Cur s11.1), ob uo_u2 (.vec w0.heap.size 25 (eSl eStr) s11.2)] A w ∧ R 3 = uo_u2) ?_ ?_
 ·refine HT.block ?_
  refine HT.loop (fun k R w => ∃ A : Av, ∃ (y12 : Int) (y13 : T_spec_l1Cur) (y14 : List (List (List UInt8))) (ul_u2 : Value), M_spec_l11Sets_L0 fu k y12 y13 y14 = some rl9 ∧ AvOK A w ∧ Ch (ownsB (.pointer (some ⟨b0, 0, none⟩))) w0 w ∧ (∀ b o, A0 b o → A b o) ∧ IniOK [ob (.pointer (some ⟨b0, 0, none⟩)) (.box B0 84 E_spec_l1Cur y13), ob ul_u2 (.vec w0.heap.size 25 (eSl eStr) y14)] A w ∧ R 0 = (.pointer (some ⟨b0, 0, none⟩)) ∧ R 3 = ul_u2 ∧ R 4 = .int .i64 y12) fu ⟨_, _, _, _, u2, q10, hA, hF, hAA, hO, h0, h3, h4⟩ ?_
  have hr0 := hr; clear hr q10
  rintro k R w ⟨A, y12, y13, y14, ul_u2, hr, hA, hF, hAA, hO, h0, h3, h4⟩
  rcases k with _ | k
  ·cases (show none = some _ from hr)
  rw [M_spec_l11Sets_L0] at hr
  refine HT.seq ?_
  refine HT.seq ?_
  refine HT.text (l := ⟨_, true, .raw (.int .i64 y12)⟩ :: ⟨_, true, .raw (.bool (decide ((0 : Int) < y12)))⟩ :: []) (tl := []) (by kernel_rfl) (by kernel_rfl) (by kernel_rfl) ?_ ?_
  ·exact
    Obls.p (fun R' w' hw hs hd => of_move ((hs 4 rfl).trans h4)) <|
    Obls.p (fun R' w' hw hs hd => by have a0 : R' 8 = .int .i64 y12 := hd.g 0 rfl; exact of_gtr a0 rfl) <|
    Obls.nil
  intro R w hw hs hF'
  replace h0 := (hs 0 rfl).trans h0
  replace h3 := (hs 3 rfl).trans h3
  replace h4 := (hs 4 rfl).trans h4
  have h9 : R 9 = .bool (decide ((0 : Int) < y12)) := hF' 1 _ _ rfl rfl rfl
  replace hO := hO.fr hw
  replace hA := hA.fr hw.size
  replace hF := hF.tr (hw.ch noB) fun _ h => False.elim h
  clear hs hF' hw
  refine seqR_nil ?_
  refine HT.cond (decide ((0 : Int) < y12)) h9 (fun c15 => ?_) (fun c15 => ?_)
  ·have hr := cnd_t c15 hr
   refine HT.skip ?_
   refine HT.seq ?_
   refine HT.block ?_
   refine SG.of ?_
   refine SG.textR [ob (.pointer (some ⟨b0, 0, none⟩)) (.box B0 84 E_spec_l1Cur y13), ob ul_u2 (.vec w0.heap.size 25 (eSl eStr) y14)] (⟨_, true, [], none, true, fun A => .raw ul_u2⟩ :: ⟨_, true, [], none, true, fun A => .raw (.pointer (some ⟨b0, 0, none⟩))⟩ :: []) 2 rfl rfl rfl (by kernel_rfl) (by kernel_rfl) (Wf.mk' (by kernel_rfl) (UAll.cons ust_raw (UAll.cons ust_raw (UAll.nil))) (by kernel_rfl) (by kernel_rfl)) hO hA (trivial) ?_ ?_
   ·exact
     OblsR.p (fun A' R' w' ho hd => of_move ((ho.old 3 rfl).trans h3)) <|
     OblsR.p (fun A' R' w' ho hd => of_move ((ho.old 0 rfl).trans h0)) <|
     OblsR.nil
   intro done ρ σ A R w hdn hI
   replace h0 : R 0 = (.pointer (some ⟨b0, 0, none⟩)) := (hI.reg rfl).trans h0
   replace h3 : R 3 = ul_u2 := (hI.reg rfl).trans h3
   replace h4 : R 4 = .int .i64 y12 := (hI.reg rfl).trans h4
   have z16 := hI.inivR 0 rfl
   have z17 := hI.inivR 1 rfl
   have h12 : R 12 = ul_u2 := hI.fact hdn (i := 0) rfl rfl rfl
   have h13 : R 13 = (.pointer (some ⟨b0, 0, none⟩)) := hI.fact hdn (i := 1) rfl rfl rfl
   replace hAA := hI.lowK hAA hA0 hN (hO.geK (⟨.inr (fun k h => .inr h), ⟨.inl rfl, trivial⟩⟩))
   replace hF : Ch (ownsB (.pointer (some ⟨b0, 0, none⟩))) w0 w := hF.tr hI.ch (hO.geK (⟨.inr (fun k h => .inr h), ⟨.inl rfl, trivial⟩⟩))
   replace hO : IniOK [ob (.pointer (some ⟨b0, 0, none⟩)) (.box B0 84 E_spec_l1Cur y13), ob ul_u2 (.vec w0.heap.size 25 (eSl eStr) y14)] A w := hI.left hdn [(0, ob (.pointer (some ⟨b0, 0, none⟩)) (.box B0 84 E_spec_l1Cur y13)), (1, ob ul_u2 (.vec w0.heap.size 25 (eSl eStr) y14))] ⟨rfl, rfl, z16, rfl, rfl, ⟨rfl, rfl, z17, rfl, rfl, trivial⟩⟩
   replace hA := hI.avok
   clear hI
   obtain ⟨x18, q19, hr⟩ := cl_some hr
   have hFz : w0.heap.size ≤ w.heap.size := hF.size
   refine SG.op 14 rfl rfl rfl rfl (call_run Tryz.call74 (M_spec_l3Set_ok (q19 rfl) hA h13 (hO.sub [(0, ob (.pointer (some ⟨b0, 0, none⟩)) (.box B0 84 E_spec_l1Cur y13))] ⟨rfl, rfl, trivial⟩))) ?_
   rintro v_ w ⟨u20, A, hG1, hv⟩ R hs hd
   have hst := stp_call hA hG1 (hO.ok 0 _ rfl).2
   replace hAA : ∀ b o, A0 b o → A b o := low_callK hAA hA0 hN (hO.geK (⟨.inr (fun k h => .inr h), ⟨.inl rfl, trivial⟩⟩)) 0 rfl hG1
   replace hF : Ch (ownsB (.pointer (some ⟨b0, 0, none⟩))) w0 w := hF.tr hG1.ch (fun k hk => (hO.geK (⟨.inr (fun k h => .inr h), ⟨.inl rfl, trivial⟩⟩)) k ⟨0, _, rfl, hk⟩)
   replace hO := GPost.next hO hA 0 rfl hG1
   replace hA := hG1.avok
   replace hO := hO.reV (B' := w0.heap.size) 1 rfl hFz
   replace hO : IniOK [ob (.pointer (some ⟨b0, 0, none⟩)) (.box B0 84 E_spec_l1Cur x18.2), ob u20 (.vec w0.heap.size 9 eStr x18.1), ob ul_u2 (.vec w0.heap.size 25 (eSl eStr) y14)] A w := hO
   replace h0 := (hs 0 rfl).trans h0
   replace h3 := (hs 3 rfl).trans h3
   replace h4 := (hs 4 rfl).trans h4
   replace h12 := (hs 12 rfl).trans h12
   replace h13 := (hs 13 rfl).trans h13
   have h14 : R 14 = u20 := hd.trans hv
   clear hFz hG1 hv hs hd
   replace hO : IniOK [ob u20 (.vec w0.heap.size 9 eStr x18.1), ob (.pointer (some ⟨b0, 0, none⟩)) (.box B0 84 E_spec_l1Cur x18.2), ob ul_u2 (.vec w0.heap.size 25 (eSl eStr) y14)] A w := hO.sub [(1, ob u20 (.vec w0.heap.size 9 eStr x18.1)), (0, ob (.pointer (some ⟨b0, 0, none⟩)) (.box B0 84 E_spec_l1Cur x18.2)), (2, ob ul_u2 (.vec w0.heap.size 25 (eSl eStr) y14))] ⟨rfl, rfl, ⟨rfl, rfl, ⟨rfl, rfl, trivial⟩⟩⟩
   obtain ⟨A, hle, hAA, hA, hO, f_u20⟩ := hO.freeze hA hAA hA0
   clear hle
   obtain ⟨e21, hr⟩ := ck_some hr
   refine SG.textR [ob (.pointer (some ⟨b0, 0, none⟩)) (.box B0 84 E_spec_l1Cur x18.2), ob ul_u2 (.vec w0.heap.size 25 (eSl eStr) y14)] (⟨_, true, [], none, true, fun A => .raw ul_u2⟩ :: ⟨_, true, [], none, true, fun A => .raw (.pointer (some ⟨b0, 0, none⟩))⟩ :: ⟨_, true, [], none, true, fun A => .raw u20⟩ :: ⟨_, true, [], none, true, fun A => .rep (eSl (eSl eStr)) A ([x18.1] : List (List (List UInt8)))⟩ :: ⟨_, true, [1], some (.vec w0.heap.size 25 (eSl eStr) (y14 ++ ([x18.1] : List (List (List UInt8))))), true, fun A => .any⟩ :: ⟨_, true, [6], some (.vec w0.heap.size 25 (eSl eStr) (y14 ++ ([x18.1] : List (List (List UInt8))))), true, fun A => .any⟩ :: []) 6 rfl rfl rfl (by kernel_rfl) (by kernel_rfl) (Wf.mk' (by kernel_rfl) (UAll.cons ust_raw (UAll.cons ust_raw (UAll.cons ust_raw (UAll.cons ust_rep (UAll.cons ust_any (UAll.cons ust_any (UAll.nil))))))) (by kernel_rfl) (by kernel_rfl)) hO hA (⟨⟨rfl, rfl, rfl, h12⟩, ⟨⟨rfl, rfl, rfl, h13⟩, ⟨⟨rfl, rfl, rfl, h14⟩, trivial⟩⟩⟩) ?_ ?_
   ·exact
     OblsR.p (fun A' R' w' ho hd => by have a0 : R' 14 = u20 := hd.g 0 rfl; have ra0 := (f_u20.stp ho.stp).eq a0; exact of_build [_] (E := eSl eStr) ⟨ra0, trivial⟩ Tryz.underlying86 Tryz.sizeOf25 Tryz.zeroValue25 rfl rfl rfl ho.av) <|
     OblsR.cons (OblR.took 1 _ _ rfl rfl rfl rfl rfl fun A' R' w' ho hd u hok hav hin hop hds => by have a0 : R' 12 = ul_u2 := hd.g 0 rfl; have a1 : Rep (eSl (eSl eStr)) A' w' (R' 15) ([x18.1] : List (List (List UInt8))) := hd.g 1 rfl; exact took_append (a0.trans (hin _ rfl).symm) hok hav (Nat.le_trans hF.size ho.ch.size) a1 Tryz.underlying86 el_25 e21) <|
     OblsR.cons (OblR.took 6 _ _ rfl rfl rfl rfl rfl fun A' R' w' ho hd u hok hav hin hop hds => by exact took_assign (hop _ _ rfl rfl rfl rfl).symm hok hav) <|
     OblsR.nil
   intro done ρ σ A R w hdn hI
   replace h0 : R 0 = (.pointer (some ⟨b0, 0, none⟩)) := (hI.reg rfl).trans h0
   replace h4 : R 4 = .int .i64 y12 := (hI.reg rfl).trans h4
   have z22 := hI.inivR 0 rfl
   obtain ⟨u23, e_u23⟩ : ∃ u, ρ 7 = u := ⟨_, rfl⟩
   have h3 : R 3 = u23 := (hI.opvR hdn 7 5 rfl rfl rfl rfl rfl).symm.trans e_u23
   replace hAA := hI.lowK hAA hA0 hN (hO.geK (⟨.inr (fun k h => .inr h), ⟨.inl rfl, trivial⟩⟩))
   replace hF : Ch (ownsB (.pointer (some ⟨b0, 0, none⟩))) w0 w := hF.tr hI.ch (hO.geK (⟨.inr (fun k h => .inr h), ⟨.inl rfl, trivial⟩⟩))
   replace hO : IniOK [ob (.pointer (some ⟨b0, 0, none⟩)) (.box B0 84 E_spec_l1Cur x18.2), ob u23 (.vec w0.heap.size 25 (eSl eStr) (y14 ++ ([x18.1] : List (List (List UInt8)))))] A w := hI.left hdn [(0, ob (.pointer (some ⟨b0, 0, none⟩)) (.box B0 84 E_spec_l1Cur x18.2)), (7, ob u23 (.vec w0.heap.size 25 (eSl eStr) (y14 ++ ([x18.1] : List (List (List UInt8))))))] ⟨rfl, rfl, z22, rfl, rfl, ⟨rfl, rfl, e_u23, rfl, rfl, trivial⟩⟩
   replace hA := hI.avok
   clear hI
   refine SG.fin rfl ?_
   obtain ⟨e24, hr⟩ := ck_some hr
   refine HT.text (l := ⟨_, true, .raw (.int .i64 y12)⟩ :: ⟨_, true, .raw (.int .i64 (y12 - (1 : Int)))⟩ :: ⟨_, true, .raw (.int .i64 (y12 - (1 : Int)))⟩ :: []) (tl := []) (by kernel_rfl) (by kernel_rfl) (by kernel_rfl) ?_ ?_
   ·exact
     Obls.p (fun R' w' hw hs hd => of_move ((hs 4 rfl).trans h4)) <|
     Obls.p (fun R' w' hw hs hd => by have a0 : R' 10 = .int .i64 y12 := hd.g 0 rfl; exact of_sub a0 rfl e24) <|
     Obls.p (fun R' w' hw hs hd => by have a0 : R' 11 = .int .i64 (y12 - (1 : Int)) := hd.g 0 rfl; exact of_assign a0) <|
     Obls.nil
   intro R w hw hs hF'
   replace h0 := (hs 0 rfl).trans h0
   replace h3 := (hs 3 rfl).trans h3
   have h4 : R 4 = .int .i64 (y12 - (1 : Int)) := hF' 2 _ _ rfl rfl rfl
   replace hO := hO.fr hw
   replace hA := hA.fr hw.size
   replace hF := hF.tr (hw.ch noB) fun _ h => False.elim h
   clear hs hF' hw
   refine seqR_nil ?_
   exact Exists.intro k (And.intro (Nat.lt_succ_self k) ⟨_, _, _, _, u23, hr, hA, hF, hAA, hO, h0, h3, h4⟩)
  ·have hr := cnd_f c15 hr
   refine HT.exit ?_
   obtain rfl := Option.some.inj hr
   exact Exists.intro _ ⟨_, ul_u2, rfl, hA, hF, hAA, hO, h3⟩
 rintro R w ⟨A, s11, uo_u2, es, hA, hF, hAA, hO, h3⟩
 obtain rfl := es.symm
 refine HT.seq ?_
 refine HT.text (l := ⟨_, true, .raw uo_u2⟩ :: ⟨_, true, .raw uo_u2⟩ :: []) (tl := []) (by kernel_rfl) (by kernel_rfl) (by kernel_rfl) ?_ ?_
 ·exact
   Obls.p (fun R' w' hw hs hd => of_move ((hs 3 rfl).trans h3)) <|
   Obls.p (fun R' w' hw hs hd => by have a0 : R' 17 = uo_u2 := hd.g 0 rfl; exact of_assign a0) <|
   Obls.nil
 intro R w hw hs hF'
 have h2 : R 2 = uo_u2 := hF' 1 _ _ rfl rfl rfl
 replace hO := hO.fr hw
 replace hA := hA.fr hw.size
 replace hF := hF.tr (hw.ch noB) fun _ h => False.elim h
 clear hs hF' hw
 refine seqR_nil ?_
 refine HT.ret ?_
 obtain rfl := Option.some.inj hr
 obtain ⟨A1, hA1, hG1⟩ := GPost.of hO hA hAA (hO.geK (⟨.inr (fun k h => .inr h), ⟨.inl rfl, trivial⟩⟩)) hF
 exact ⟨.inr rfl, [R 2], ⟨rfl, trivial⟩, uo_u2, A1, hG1, h2⟩
def M_spec_l3Has_L0 (fu : Nat) (p0 : List (List UInt8)) (p1 : List UInt8) : Nat → Int → Option (Ex Bool Unit)
 | 0, _ => none
 | k + 1, y4 =>
  bif (decide (y4 < (p0.length : Int))) then (
   ck (inR y4 p0.length) <|
   bif ((gtD p0 y4) == p1) then (
    some (Ex.ret true)
   ) else (
    ck (i64B (y4 + (1 : Int))) <|
    M_spec_l3Has_L0 fu p0 p1 k (y4 + (1 : Int))
   )
  ) else (
   some (Ex.go ())
  )
def M_spec_l3Has (fu : Nat) (p0 : List (List UInt8)) (p1 : List UInt8) : Option Bool :=
 cl true (M_spec_l3Has_L0 fu p0 p1 fu (0 : Int)) fun rl1 =>
 exM rl1 (fun r => some r) fun s3 =>
 some false
theorem M_spec_l3Has_ok {fu : Nat} {A : Av} {p0 : List (List UInt8)} {p1 : List UInt8} {r : Bool} (hr : M_spec_l3Has fu p0 p1 = some r) {w : World} {v0 : Value} {v1 : Value} (hA : AvOK A w) (h0 : Rep (eSl eStr) A w v0 p0) (h1 : Rep eStr A w v1 p1) :
  Calls Tryz.prog 55 #[v0, v1] w fun e w' => ∃ v, e = .returned v ∧ (v = .bool r ∧ Fr w w') := by
 unfold M_spec_l3Has at hr
 obtain ⟨w0, hw0⟩ : ∃ w0, w0 = w := ⟨_, rfl⟩
 have hF : Fr w0 w := hw0 ▸ Fr.refl _
 rw [show Fr w = Fr w0 from hw0 ▸ rfl]
 clear hw0
 refine calls_of_HT2 [.tmp 4] Tryz.func55 Tryz.ntmps55 (by decide) rfl rfl (Nat.le_of_ble_eq_true rfl) ?_
 intro R hR
 have f_v0 := h0
 replace h0 : R 0 = v0 := hR 0 _ rfl
 have f_v1 := h1
 replace h1 : R 1 = v1 := hR 1 _ rfl
 clear hR
 refine HT.seq ?_
 refine HT.text (l := ⟨_, true, .raw (.bool false)⟩ :: []) (tl := []) (by kernel_rfl) (by kernel_rfl) (by kernel_rfl) ?_ ?_
 ·exact
   Obls.p (fun R' w' hw hs hd => of_assign rfl) <|
   Obls.nil
 intro R w hw hs hF'
 replace h0 := (hs 0 rfl).trans h0
 replace h1 := (hs 1 rfl).trans h1
 replace f_v0 := f_v0.fr hw
 replace f_v1 := f_v1.fr hw
 replace hA := hA.fr hw.size
 replace hF := hF.trans hw
 clear hs hF' hw
 refine seqR_nil ?_
 refine HT.seq ?_
 refine HT.seq ?_
 refine HT.text (l := ⟨_, true, .raw (.int .i64 (0 : Int))⟩ :: []) (tl := []) (by kernel_rfl) (by kernel_rfl) (by kernel_rfl) ?_ ?_
 ·exact
   Obls.p (fun R' w' hw hs hd => of_assign rfl) <|
   Obls.nil
 intro R w hw hs hF'
 replace h0 := (hs 0 rfl).trans h0
 replace h1 := (hs 1 rfl).trans h1
 have h5 : R 5 = .int .i64 (0 : Int) := hF' 0 _ _ rfl rfl rfl
 replace f_v0 := f_v0.fr hw
 replace f_v1 := f_v1.fr hw
 replace hA := hA.fr hw.size
 replace hF := hF.trans hw
 clear hs hF' hw
 refine seqR_nil ?_
 obtain ⟨rl1, q2, hr⟩ := cl_some hr
 replace q2 := q2 rfl
 refine HT.cut0 (fun R w => ∃ (s3 : Unit), rl1 = Ex.go s3 ∧ AvOK A w ∧ Fr w0 w) ?_ ?_
 ·refine HT.block ?_
  refine HT.loop (fun k R w => ∃ (y4 : Int), M_spec_l3Has_L0 fu p0 p1 k y4 = some rl1 ∧ AvOK A w ∧ Fr w0 w ∧ R 0 = v0 ∧ R 1 = v1 ∧ R 5 = .int .i64 y4 ∧ Rep (eSl eStr) A w v0 p0 ∧ Rep eStr A w v1 p1) fu ⟨_, q2, hA, hF, h0, h1, h5, f_v0, f_v1⟩ ?_
  have hr0 := hr; clear hr q2
  rintro k R w ⟨y4, hr, hA, hF, h0, h1, h5, f_v0, f_v1⟩
  rcases k with _ | k
  ·cases (show none = some _ from hr)
  rw [M_spec_l3Has_L0] at hr
  refine HT.seq ?_
  refine HT.seq ?_
  refine HT.text (l := ⟨_, true, .raw (.int .i64 y4)⟩ :: ⟨_, true, .raw v0⟩ :: ⟨_, true, .raw (.int .i64 (p0.length : Int))⟩ :: ⟨_, true, .raw (.bool (decide (y4 < (p0.length : Int))))⟩ :: []) (tl := []) (by kernel_rfl) (by kernel_rfl) (by kernel_rfl) ?_ ?_
  ·exact
    Obls.p (fun R' w' hw hs hd => of_move ((hs 5 rfl).trans h5)) <|
    Obls.p (fun R' w' hw hs hd => of_move ((hs 0 rfl).trans h0)) <|
    Obls.p (fun R' w' hw hs hd => by have a0 : R' 7 = v0 := hd.g 0 rfl; have ra0 := (f_v0.fr hw).eq a0; exact of_len_sl (aT := #[]) ra0 Tryz.underlying25) <|
    Obls.p (fun R' w' hw hs hd => by have a0 : R' 6 = .int .i64 y4 := hd.g 0 rfl; have a1 : R' 8 = .int .i64 (p0.length : Int) := hd.g 1 rfl; exact of_lss a0 a1) <|
    Obls.nil
  intro R w hw hs hF'
  replace h0 := (hs 0 rfl).trans h0
  replace h1 := (hs 1 rfl).trans h1
  replace h5 := (hs 5 rfl).trans h5
  have h9 : R 9 = .bool (decide (y4 < (p0.length : Int))) := hF' 3 _ _ rfl rfl rfl
  replace f_v0 := f_v0.fr hw
  replace f_v1 := f_v1.fr hw
  replace hA := hA.fr hw.size
  replace hF := hF.trans hw
  clear hs hF' hw
  refine seqR_nil ?_
  refine HT.cond (decide (y4 < (p0.length : Int))) h9 (fun c5 => ?_) (fun c5 => ?_)
  ·have hr := cnd_t c5 hr
   refine HT.skip ?_
   refine HT.seq ?_
   refine HT.block ?_
   refine HT.seq ?_
   obtain ⟨e6, hr⟩ := ck_some hr
   refine HT.text (l := ⟨_, true, .raw v0⟩ :: ⟨_, true, .raw (.int .i64 y4)⟩ :: ⟨_, true, .qtr eStr A (gtD p0 y4)⟩ :: ⟨_, true, .rep eStr A (gtD p0 y4)⟩ :: ⟨_, true, .raw v1⟩ :: ⟨_, true, .raw (.bool ((gtD p0 y4) == p1))⟩ :: []) (tl := []) (by kernel_rfl) (by kernel_rfl) (by kernel_rfl) ?_ ?_
   ·exact
     Obls.p (fun R' w' hw hs hd => of_move ((hs 0 rfl).trans h0)) <|
     Obls.p (fun R' w' hw hs hd => of_move ((hs 5 rfl).trans h5)) <|
     Obls.p (fun R' w' hw hs hd => by have a0 : R' 12 = v0 := hd.g 0 rfl; have a1 : R' 13 = .int .i64 y4 := hd.g 1 rfl; have ra0 := (f_v0.fr hw).eq a0; exact of_indexAddr ra0 a1 Tryz.underlying25 Tryz.sizeOf9 e6) <|
     Obls.p (fun R' w' hw hs hd => by have a0 : QRep eStr A w' (R' 14) (gtD p0 y4) := hd.g 0 rfl; exact (of_load a0.ptr Tryz.isAgg9 Tryz.sizeOf9)) <|
     Obls.p (fun R' w' hw hs hd => of_move ((hs 1 rfl).trans h1)) <|
     Obls.p (fun R' w' hw hs hd => by have a0 : Rep eStr A w' (R' 15) (gtD p0 y4) := hd.g 0 rfl; have a1 : R' 16 = v1 := hd.g 1 rfl; have ra1 := (f_v1.fr hw).eq a1; exact of_seql a0 ra1) <|
     Obls.nil
   intro R w hw hs hF'
   replace h0 := (hs 0 rfl).trans h0
   replace h1 := (hs 1 rfl).trans h1
   replace h5 := (hs 5 rfl).trans h5
   have h17 : R 17 = .bool ((gtD p0 y4) == p1) := hF' 5 _ _ rfl rfl rfl
   replace f_v0 := f_v0.fr hw
   replace f_v1 := f_v1.fr hw
   replace hA := hA.fr hw.size
   replace hF := hF.trans hw
   clear hs hF' hw
   refine seqR_nil ?_
   refine HT.cond ((gtD p0 y4) == p1) h17 (fun c7 => ?_) (fun c7 => ?_)
   ·have hr := cnd_t c7 hr
    refine HT.seq ?_
    refine HT.text (l := ⟨_, true, .raw (.bool true)⟩ :: []) (tl := []) (by kernel_rfl) (by kernel_rfl) (by kernel_rfl) ?_ ?_
    ·exact
      Obls.p (fun R' w' hw hs hd => of_assign rfl) <|
      Obls.nil
    intro R w hw hs hF'
    have h4 : R 4 = .bool true := hF' 0 _ _ rfl rfl rfl
    replace hA := hA.fr hw.size
    replace hF := hF.trans hw
    clear hs hF' hw
    refine seqR_nil ?_
    refine HT.ret ?_
    obtain rfl := Option.some.inj hr
    have hr := hr0
    replace hr : some _ = some _ := hr
    obtain rfl := Option.some.inj hr
    exact ⟨.inr rfl, [R 4], ⟨rfl, trivial⟩, h4, hF⟩
   ·have hr := cnd_f c7 hr
    refine HT.skip ?_
    obtain ⟨e8, hr⟩ := ck_some hr
    refine HT.text (l := ⟨_, true, .raw (.int .i64 y4)⟩ :: ⟨_, true, .raw (.int .i64 (y4 + (1 : Int)))⟩ :: ⟨_, true, .raw (.int .i64 (y4 + (1 : Int)))⟩ :: []) (tl := []) (by kernel_rfl) (by kernel_rfl) (by kernel_rfl) ?_ ?_
    ·exact
      Obls.p (fun R' w' hw hs hd => of_move ((hs 5 rfl).trans h5)) <|
      Obls.p (fun R' w' hw hs hd => by have a0 : R' 10 = .int .i64 y4 := hd.g 0 rfl; exact of_add a0 rfl e8) <|
      Obls.p (fun R' w' hw hs hd => by have a0 : R' 11 = .int .i64 (y4 + (1 : Int)) := hd.g 0 rfl; exact of_assign a0) <|
      Obls.nil
    intro R w hw hs hF'
    replace h0 := (hs 0 rfl).trans h0
    replace h1 := (hs 1 rfl).trans h1
    have h5 : R 5 = .int .i64 (y4 + (1 : Int)) := hF' 2 _ _ rfl rfl rfl
    replace f_v0 := f_v0.fr hw
    replace f_v1 := f_v1.fr hw
    replace hA := hA.fr hw.size
    replace hF := hF.trans hw
    clear hs hF' hw
    refine seqR_nil ?_
    exact Exists.intro k (And.intro (Nat.lt_succ_self k) ⟨_, hr, hA, hF, h0, h1, h5, f_v0, f_v1⟩)
  ·have hr := cnd_f c5 hr
   refine HT.exit ?_
   obtain rfl := Option.some.inj hr
   exact Exists.intro _ ⟨rfl, hA, hF⟩
 rintro R w ⟨s3, rfl, hA, hF⟩
 have hr := exM_go hr
 refine HT.seq ?_
 refine HT.text (l := ⟨_, true, .raw (.bool false)⟩ :: []) (tl := []) (by kernel_rfl) (by kernel_rfl) (by kernel_rfl) ?_ ?_
 ·exact
   Obls.p (fun R' w' hw hs hd => of_assign rfl) <|
   Obls.nil
 intro R w hw hs hF'
 have h4 : R 4 = .bool false := hF' 0 _ _ rfl rfl rfl
 replace hA := hA.fr hw.size
 replace hF := hF.trans hw
 clear hs hF' hw
 refine seqR_nil ?_
 refine HT.ret ?_
 obtain rfl := Option.some.inj hr
 exact ⟨.inr rfl, [R 4], ⟨rfl, trivial⟩, h4, hF⟩
end Go.Proofs.YtkebpojbbfnehaaGreat
