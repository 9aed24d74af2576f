/- Printed by dec.py: plain functions and the proofs that the code computes them. No statement of the seat is proved here. -/
import Derived.Test.YtjfhlhhobpdneaaG2
namespace Go.Proofs.Ytjfhlhhobpdneaa
open Go.RowKit
set_option linter.unusedVariables false
set_option maxRecDepth 100000
set_option maxHeartbeats 4000000
def M_laws_markRuleS_L0 (fu : Nat) : Nat → Int → Int → (List T_impl_Rule) → Option (Int × (List T_impl_Rule))
 | 0, _, _, _ => none
 | k + 1, y4, y5, y6 =>
  bif (decide (y5 < (y6.length : Int))) then (
   ck (inR y5 y6.length) <|
   cl true (M_laws_markTestS fu (gtD y6 y5) y4) fun x11 =>
   ck (i64B (y5 + (1 : Int))) <|
   M_laws_markRuleS_L0 fu k x11.1 (y5 + (1 : Int)) (y6.set y5.toNat x11.2)
  ) else (
   some (y4, y6)
  )
def M_laws_markRuleS (fu : Nat) (p0 : List T_impl_Rule) (p1 : Int) : Option (Int × List T_impl_Rule) :=
 cl true (M_laws_markRuleS_L0 fu fu p1 (0 : Int) p0) fun s3 =>
 some (s3.1, s3.2)
theorem M_laws_markRuleS_ok {fu : Nat} {A0 : Av} {p0 : List T_impl_Rule} {p1 : Int} {r : Int × List T_impl_Rule} (hr : M_laws_markRuleS fu p0 p1 = some r) {w : World} {v0 : Value} {v1 : Value} {S0 : Nat → Prop} (hA : AvOK A0 w) (hN : ∀ b o, A0 b o → ¬ S0 b) (h0 : (trP (oSl 30 (oBx (oSl 85 (oRd E_impl_Test)))) p0 []).P (addS A0 S0) w S0 v0) (h1 : v1 = .int .i64 p1) :
  Calls Try.prog 99 #[v0, v1] w fun e w' => ∃ v, e = .returned v ∧ (v = .int .i64 r.1 ∧ Gave (oSl 30 (oBx (oSl 85 (oRd E_impl_Test)))) A0 S0 w v0 r.2 w') := by
 unfold M_laws_markRuleS at hr
 obtain ⟨w0, hw0⟩ : ∃ w0, w0 = w := ⟨_, rfl⟩
 have hF : Ch S0 w0 w := hw0 ▸ Ch.refl _ _
 have hA0 : ∀ b o, A0 b o → b < w0.heap.size := fun b o h => hw0 ▸ hA b o h
 have hA00 : AvOK A0 w0 := hA0
 rw [show Gave (oSl 30 (oBx (oSl 85 (oRd E_impl_Test)))) A0 S0 w = Gave (oSl 30 (oBx (oSl 85 (oRd E_impl_Test)))) A0 S0 w0 from hw0 ▸ rfl]
 have hw0s : w.heap.size = w0.heap.size := hw0 ▸ rfl
 clear hw0
 have hO := IniOK.oneT h0
 have hA1 := hA.oneT h0
 rw [show w.heap.size = w0.heap.size from hw0s] at hO
 obtain ⟨A, hAe⟩ : ∃ A, A = addS A0 S0 := ⟨_, rfl⟩
 have hAA : ∀ b o, A0 b o → A b o := fun b o h => hAe ▸ .inl h
 replace hA : AvOK A w := hAe ▸ hA1
 replace hO : IniOK [⟨v0, S0, trR (fun k => w0.heap.size ≤ k ∨ S0 k) (oSl 30 (oBx (oSl 85 (oRd E_impl_Test)))) p0 []⟩] A w := hAe ▸ hO
 refine calls_of_HT2 [.tmp 4] Try.func99 Try.ntmps99 (by decide) rfl rfl (Nat.le_of_ble_eq_true rfl) ?_
 intro R hR
 replace h0 : R 0 = v0 := hR 0 _ rfl
 replace h1 : R 1 = .int .i64 p1 := (hR 1 _ rfl).trans h1
 clear hR hAe
 refine HT.seq ?_
 refine HT.text (l := ⟨_, true, .raw (.int .i64 (0 : Int))⟩ :: []) (tl := []) (by kernel_rfl) (by kernel_rfl) (by kernel_rfl) ?_ ?_
 ·exact
   Obls.p (fun R' w' hw hs hd => of_assign rfl) <|
   Obls.nil
 intro R w hw hs hF'
 replace h0 := (hs 0 rfl).trans h0
 replace h1 := (hs 1 rfl).trans h1
 replace hO := hO.fr hw
 replace hA := hA.fr hw.size
 replace hF := hF.tr (hw.ch noB) fun _ h => False.elim h
 clear hs hF' hw
 refine seqR_nil ?_
 refine HT.seq ?_
 refine HT.seq ?_
 refine HT.text (l := ⟨_, true, .raw (.int .i64 (0 : Int))⟩ :: []) (tl := []) (by kernel_rfl) (by kernel_rfl) (by kernel_rfl) ?_ ?_
 ·exact
   Obls.p (fun R' w' hw hs hd => of_assign rfl) <|
   Obls.nil
 intro R w hw hs hF'
 replace h0 := (hs 0 rfl).trans h0
 replace h1 := (hs 1 rfl).trans h1
 have h5 : R 5 = .int .i64 (0 : Int) := hF' 0 _ _ rfl rfl rfl
 replace hO := hO.fr hw
 replace hA := hA.fr hw.size
 replace hF := hF.tr (hw.ch noB) fun _ h => False.elim h
 clear hs hF' hw
 refine seqR_nil ?_
 obtain ⟨rl1, q2, hr⟩ := cl_some hr
 replace q2 := q2 rfl
 refine HT.cut0 (fun R w => ∃ A : Av, ∃ (s3 : Int × (List T_impl_Rule)) (So_v0 : Nat → Prop), rl1 = s3 ∧ AvOK A w ∧ Ch S0 w0 w ∧ (∀ b o, A0 b o → A b o) ∧ IniOK [⟨v0, So_v0, trR (fun k => w0.heap.size ≤ k ∨ S0 k) (oSl 30 (oBx (oSl 85 (oRd E_impl_Test)))) s3.2 []⟩] A w ∧ R 1 = .int .i64 s3.1) ?_ ?_
 ·refine HT.block ?_
  refine HT.loop (fun k R w => ∃ A : Av, ∃ (y4 : Int) (y5 : Int) (y6 : List T_impl_Rule) (Sl_v0 : Nat → Prop), M_laws_markRuleS_L0 fu k y4 y5 y6 = some rl1 ∧ AvOK A w ∧ Ch S0 w0 w ∧ (∀ b o, A0 b o → A b o) ∧ IniOK [⟨v0, Sl_v0, trR (fun k => w0.heap.size ≤ k ∨ S0 k) (oSl 30 (oBx (oSl 85 (oRd E_impl_Test)))) y6 []⟩] A w ∧ R 0 = v0 ∧ R 1 = .int .i64 y4 ∧ R 5 = .int .i64 y5) fu ⟨_, _, _, _, S0, q2, hA, hF, hAA, hO, h0, h1, h5⟩ ?_
  have hr0 := hr; clear hr q2
  rintro k R w ⟨A, y4, y5, y6, Sl_v0, hr, hA, hF, hAA, hO, h0, h1, h5⟩
  rcases k with _ | k
  ·cases (show none = some _ from hr)
  rw [M_laws_markRuleS_L0] at hr
  refine HT.seq ?_
  refine HT.seq ?_
  refine HT.text (l := ⟨_, true, .raw (.int .i64 y5)⟩ :: ⟨_, true, .raw v0⟩ :: ⟨_, true, .raw (.int .i64 (y6.length : Int))⟩ :: ⟨_, true, .raw (.bool (decide (y5 < (y6.length : Int))))⟩ :: []) (tl := []) (by kernel_rfl) (by kernel_rfl) (by kernel_rfl) ?_ ?_
  ·exact
    Obls.p (fun R' w' hw hs hd => of_move ((hs 5 rfl).trans h5)) <|
    Obls.p (fun R' w' hw hs hd => of_move ((hs 0 rfl).trans h0)) <|
    Obls.p (fun R' w' hw hs hd => by have a0 : R' 7 = v0 := hd.g 0 rfl; exact of_len_tr (tr_root (hO.own 0 _ rfl).2) a0 Try.underlying60) <|
    Obls.p (fun R' w' hw hs hd => by have a0 : R' 6 = .int .i64 y5 := hd.g 0 rfl; have a1 : R' 8 = .int .i64 (y6.length : Int) := hd.g 1 rfl; exact of_lss a0 a1) <|
    Obls.nil
  intro R w hw hs hF'
  replace h0 := (hs 0 rfl).trans h0
  replace h1 := (hs 1 rfl).trans h1
  replace h5 := (hs 5 rfl).trans h5
  have h9 : R 9 = .bool (decide (y5 < (y6.length : Int))) := hF' 3 _ _ rfl rfl rfl
  replace hO := hO.fr hw
  replace hA := hA.fr hw.size
  replace hF := hF.tr (hw.ch noB) fun _ h => False.elim h
  clear hs hF' hw
  refine seqR_nil ?_
  refine HT.cond (decide (y5 < (y6.length : Int))) h9 (fun c7 => ?_) (fun c7 => ?_)
  ·have hr := cnd_t c7 hr
   refine HT.skip ?_
   refine HT.seq ?_
   refine HT.block ?_
   obtain ⟨e8, hr⟩ := ck_some hr
   obtain ⟨h9, p_h9⟩ := ((((tr_root (hO.own 0 _ rfl).2).elem e8 rfl)).bx).open1 rfl
   replace hO : IniOK [⟨v0, Sl_v0, trR (fun k => w0.heap.size ≤ k ∨ S0 k) (oSl 30 (oBx (oSl 85 (oRd E_impl_Test)))) y6 [((vptr v0 (y5.toNat * 1)), [h9])]⟩] A w := hO.repin 0 rfl (trP.pin p_h9)
   obtain ⟨x11, q12, hr⟩ := cl_some hr
   refine HT.textR [⟨v0, Sl_v0, trR (fun k => w0.heap.size ≤ k ∨ S0 k) (oSl 30 (oBx (oSl 85 (oRd E_impl_Test)))) y6 [((vptr v0 (y5.toNat * 1)), [h9])]⟩] (⟨_, true, [], none, true, fun A => .raw v0⟩ :: ⟨_, true, [], none, true, fun A => .raw (.int .i64 y5)⟩ :: ⟨_, true, [], none, true, fun A => .raw (vptr v0 (y5.toNat * 1))⟩ :: ⟨_, true, [], none, true, fun A => .raw (vptr v0 (y5.toNat * 1))⟩ :: ⟨_, true, [], none, true, fun A => .raw h9⟩ :: ⟨_, true, [], none, true, fun A => .raw (.int .i64 y4)⟩ :: ⟨_, true, [0], some (trR (fun k => w0.heap.size ≤ k ∨ S0 k) (oSl 30 (oBx (oSl 85 (oRd E_impl_Test)))) (y6.set y5.toNat x11.2) []), false, fun A => .raw (.int .i64 x11.1)⟩ :: ⟨_, true, [], none, true, fun A => .raw (.int .i64 x11.1)⟩ :: []) (by kernel_rfl) (by kernel_rfl) (Wf.mk' (by kernel_rfl) (UAll.cons ust_raw (UAll.cons ust_raw (UAll.cons ust_raw (UAll.cons ust_raw (UAll.cons ust_raw (UAll.cons ust_raw (UAll.cons ust_raw (UAll.cons ust_raw (UAll.nil))))))))) (by kernel_rfl) (by kernel_rfl)) hO hA ?_ ?_
   ·exact
     OblsR.p (fun A' R' w' ho hd => of_move ((ho.old 0 rfl).trans h0)) <|
     OblsR.p (fun A' R' w' ho hd => of_move ((ho.old 5 rfl).trans h5)) <|
     OblsR.p (fun A' R' w' ho hd => by have a0 : R' 12 = v0 := hd.g 0 rfl; have a1 : R' 13 = .int .i64 y5 := hd.g 1 rfl; exact of_indexAddr_tr (tr_root (hO.own 0 _ rfl).2) a0 a1 Try.underlying60 Try.sizeOf30 e8 rfl) <|
     OblsR.p (fun A' R' w' ho hd => by have a0 : R' 14 = (vptr v0 (y5.toNat * 1)) := hd.g 0 rfl; exact of_fieldAddr_tr (((tr_root (hO.own 0 _ rfl).2).elem e8 rfl)).ad a0 ff_30_0 Try.sizeOf28 (by decide) (padd_zero (((tr_root (hO.own 0 _ rfl).2).elem e8 rfl)).ad)) <|
     OblsR.p (fun A' R' w' ho hd => by have a0 : R' 15 = (vptr v0 (y5.toNat * 1)) := hd.g 0 rfl; exact of_load_pin ((ho.rdo 0 _ rfl rfl).2.2 _ (.head _)) a0 Try.isAgg28 Try.sizeOf28) <|
     OblsR.p (fun A' R' w' ho hd => of_move ((ho.old 1 rfl).trans h1)) <|
     OblsR.cons (OblR.tookS 0 _ _ rfl rfl rfl rfl rfl fun A' R' w' ho hd u S hok hown hav hin hop hds => by have a0 : R' 16 = h9 := hd.g 0 rfl; have a1 : R' 17 = .int .i64 y4 := hd.g 1 rfl; have e0 := (hin _ rfl).1; rw [e0] at hown ⊢; have hu0 : evalR R' (.tmp 16) = h9 := a0; exact took_callT Try.call49 (((((tr_root hown.2).elem e8 rfl)).bx).pin (hown.2.2 _ (.head _)) rfl) hav hown.1 (fun k hk => .inl (Nat.le_trans (Nat.le_trans hF.size ho.ch.size) hk)) (fun k hk => SP.lt _ hown.2 hk) (fun S1 hS1 hP => by simp only [List.map, hu0]; exact Calls.mono (M_laws_markTestS_ok (q12 rfl) (ho.av.subS _) (fun b o h hb => h.2 ((tr_ownsB (fun _ _ _ _ _ h => h) hP) ▸ hb)) (vec_of_tr (fun _ _ _ _ _ h => h) hP).1 a1) (fun _ _ ⟨v, h1, h2⟩ => ⟨v, h1, gave_of_vec (fun _ _ _ _ _ h => h) hP h2 (tr_ownsB (fun _ _ _ _ _ h => h) hP)⟩)) (fun _ _ _ h => h)) <|
     OblsR.p (fun A' R' w' ho hd => by have a0 : R' 18 = .int .i64 x11.1 := hd.g 0 rfl; exact of_assign a0) <|
     OblsR.nil
   intro done ρ σ A R w hdn hI
   replace h0 : R 0 = v0 := (hI.reg rfl).trans h0
   replace h5 : R 5 = .int .i64 y5 := (hI.reg rfl).trans h5
   have z13 := hI.inivR 0 rfl
   have z14 := (hI.opnR hdn 7 6 rfl rfl rfl rfl rfl).trans z13
   obtain ⟨S15, eS_v0⟩ : ∃ S, σ 7 = S := ⟨_, rfl⟩
   have h1 : R 1 = .int .i64 x11.1 := hI.fact hdn (i := 7) rfl rfl rfl
   replace hAA := hI.lowK hAA hA0 hN (hO.geK (⟨fun _ h => h, trivial⟩))
   replace hF : Ch S0 w0 w := hF.tr hI.ch (hO.geK (⟨fun _ h => h, trivial⟩))
   replace hO : IniOK [⟨v0, S15, trR (fun k => w0.heap.size ≤ k ∨ S0 k) (oSl 30 (oBx (oSl 85 (oRd E_impl_Test)))) (y6.set y5.toNat x11.2) []⟩] A w := hI.left hdn [(7, ⟨v0, S15, trR (fun k => w0.heap.size ≤ k ∨ S0 k) (oSl 30 (oBx (oSl 85 (oRd E_impl_Test)))) (y6.set y5.toNat x11.2) []⟩)] ⟨rfl, rfl, z14, eS_v0, rfl, trivial⟩
   replace hA := hI.avok
   clear hI
   obtain ⟨e16, hr⟩ := ck_some hr
   refine HT.text (l := ⟨_, true, .raw (.int .i64 y5)⟩ :: ⟨_, true, .raw (.int .i64 (y5 + (1 : Int)))⟩ :: ⟨_, true, .raw (.int .i64 (y5 + (1 : Int)))⟩ :: []) (tl := []) (by kernel_rfl) (by kernel_rfl) (by kernel_rfl) ?_ ?_
   ·exact
     Obls.p (fun R' w' hw hs hd => of_move ((hs 5 rfl).trans h5)) <|
     Obls.p (fun R' w' hw hs hd => by have a0 : R' 10 = .int .i64 y5 := hd.g 0 rfl; exact of_add a0 rfl e16) <|
     Obls.p (fun R' w' hw hs hd => by have a0 : R' 11 = .int .i64 (y5 + (1 : Int)) := hd.g 0 rfl; exact of_assign a0) <|
     Obls.nil
   intro R w hw hs hF'
   replace h0 := (hs 0 rfl).trans h0
   replace h1 := (hs 1 rfl).trans h1
   have h5 : R 5 = .int .i64 (y5 + (1 : Int)) := hF' 2 _ _ rfl rfl rfl
   replace hO := hO.fr hw
   replace hA := hA.fr hw.size
   replace hF := hF.tr (hw.ch noB) fun _ h => False.elim h
   clear hs hF' hw
   refine seqR_nil ?_
   exact Exists.intro k (And.intro (Nat.lt_succ_self k) ⟨_, _, _, _, S15, hr, hA, hF, hAA, hO, h0, h1, h5⟩)
  ·have hr := cnd_f c7 hr
   refine HT.exit ?_
   obtain rfl := Option.some.inj hr
   exact Exists.intro _ ⟨_, Sl_v0, rfl, hA, hF, hAA, hO, h1⟩
 rintro R w ⟨A, s3, So_v0, es, hA, hF, hAA, hO, h1⟩
 obtain rfl := es.symm
 refine HT.seq ?_
 refine HT.text (l := ⟨_, true, .raw (.int .i64 s3.1)⟩ :: ⟨_, true, .raw (.int .i64 s3.1)⟩ :: []) (tl := []) (by kernel_rfl) (by kernel_rfl) (by kernel_rfl) ?_ ?_
 ·exact
   Obls.p (fun R' w' hw hs hd => of_move ((hs 1 rfl).trans h1)) <|
   Obls.p (fun R' w' hw hs hd => by have a0 : R' 19 = .int .i64 s3.1 := hd.g 0 rfl; exact of_assign a0) <|
   Obls.nil
 intro R w hw hs hF'
 have h4 : R 4 = .int .i64 s3.1 := hF' 1 _ _ rfl rfl rfl
 replace hO := hO.fr hw
 replace hA := hA.fr hw.size
 replace hF := hF.tr (hw.ch noB) fun _ h => False.elim h
 clear hs hF' hw
 refine seqR_nil ?_
 refine HT.ret ?_
 obtain rfl := Option.some.inj hr
 exact ⟨.inr rfl, [R 4], ⟨rfl, trivial⟩, h4, gave_post rfl (hO.own 0 _ rfl) (hO.ok 0 _ rfl).2 hAA hF⟩
def M_laws_markRuleSet (fu : Nat) (p0 : T_impl_RuleSet) (p1 : Int) : Option (Int × T_impl_RuleSet) :=
 cl true (M_laws_markRuleS fu p0 p1) fun x5 =>
 some (x5.1, x5.2)
theorem M_laws_markRuleSet_ok {fu : Nat} {A0 : Av} {p0 : T_impl_RuleSet} {p1 : Int} {r : Int × T_impl_RuleSet} (hr : M_laws_markRuleSet fu p0 p1 = some r) {w : World} {v0 : Value} {v1 : Value} {S0 : Nat → Prop} (hA : AvOK A0 w) (hN : ∀ b o, A0 b o → ¬ S0 b) (h0 : (trP (oBx (oSl 30 (oBx (oSl 85 (oRd E_impl_Test))))) p0 []).P (addS A0 S0) w S0 v0) (h1 : v1 = .int .i64 p1) :
  Calls Try.prog 48 #[v0, v1] w fun e w' => ∃ v, e = .returned v ∧ (v = .int .i64 r.1 ∧ Gave (oBx (oSl 30 (oBx (oSl 85 (oRd E_impl_Test))))) A0 S0 w v0 r.2 w') := by
 unfold M_laws_markRuleSet at hr
 obtain ⟨w0, hw0⟩ : ∃ w0, w0 = w := ⟨_, rfl⟩
 have hF : Ch S0 w0 w := hw0 ▸ Ch.refl _ _
 have hA0 : ∀ b o, A0 b o → b < w0.heap.size := fun b o h => hw0 ▸ hA b o h
 have hA00 : AvOK A0 w0 := hA0
 rw [show Gave (oBx (oSl 30 (oBx (oSl 85 (oRd E_impl_Test))))) A0 S0 w = Gave (oBx (oSl 30 (oBx (oSl 85 (oRd E_impl_Test))))) A0 S0 w0 from hw0 ▸ rfl]
 have hw0s : w.heap.size = w0.heap.size := hw0 ▸ rfl
 obtain ⟨cs_0, ecs_0, lcs_0, ocs_0⟩ := tr_cells h0
 clear hw0
 have hO := IniOK.oneT h0
 have hA1 := hA.oneT h0
 rw [show w.heap.size = w0.heap.size from hw0s] at hO
 obtain ⟨A, hAe⟩ : ∃ A, A = addS A0 S0 := ⟨_, rfl⟩
 have hAA : ∀ b o, A0 b o → A b o := fun b o h => hAe ▸ .inl h
 replace hA : AvOK A w := hAe ▸ hA1
 replace hO : IniOK [⟨v0, S0, trR (fun k => w0.heap.size ≤ k ∨ S0 k) (oBx (oSl 30 (oBx (oSl 85 (oRd E_impl_Test))))) p0 []⟩] A w := hAe ▸ hO
 refine calls_of_HT2 [.tmp 4] Try.func48 Try.ntmps48 (by decide) rfl rfl (Nat.le_of_ble_eq_true rfl) ?_
 intro R hR
 replace h0 : R 0 = v0 := hR 0 _ rfl
 replace h1 : R 1 = .int .i64 p1 := (hR 1 _ rfl).trans h1
 clear hR hAe
 refine HT.seq ?_
 refine HT.textR [⟨v0, S0, trR (fun k => w0.heap.size ≤ k ∨ S0 k) (oBx (oSl 30 (oBx (oSl 85 (oRd E_impl_Test))))) p0 []⟩] (⟨_, true, [0], some (.gen (fun k => w0.heap.size ≤ k ∨ S0 k) (trB 62 (oBx (oSl 30 (oBx (oSl 85 (oRd E_impl_Test))))) p0 cs_0)), true, fun A => .any⟩ :: ⟨_, true, [], none, true, fun A => .raw (.int .i64 (0 : Int))⟩ :: []) (by kernel_rfl) (by kernel_rfl) (Wf.mk' (by kernel_rfl) (UAll.cons ust_any (UAll.cons ust_raw (UAll.nil))) (by kernel_rfl) (by kernel_rfl)) hO hA ?_ ?_
 ·exact
   OblsR.cons (OblR.tookS 0 _ _ rfl rfl rfl rfl rfl fun A' R' w' ho hd u S hok hown hav hin hop hds => by have a0 : R' 0 = v0 := (ho.old 0 rfl).trans h0; have e0 := (hin _ rfl).1; rw [e0] at hown ⊢; exact took_boxB hown.2 ecs_0 lcs_0 ocs_0 a0 hav hown.1 (fun k hk => .inl (Nat.le_trans (Nat.le_trans hF.size ho.ch.size) hk))) <|
   OblsR.p (fun A' R' w' ho hd => of_assign rfl) <|
   OblsR.nil
 intro done ρ σ A R w hdn hI
 replace h1 : R 1 = .int .i64 p1 := (hI.reg rfl).trans h1
 obtain ⟨u1, e_u1⟩ : ∃ u, ρ 1 = u := ⟨_, rfl⟩
 have h2 : R 2 = u1 := (hI.opvR hdn 1 0 rfl rfl rfl rfl rfl).symm.trans e_u1
 obtain ⟨S2, eS_u1⟩ : ∃ S, σ 1 = S := ⟨_, rfl⟩
 replace hAA := hI.lowK hAA hA0 hN (hO.geK (⟨fun _ h => h, trivial⟩))
 replace hF : Ch S0 w0 w := hF.tr hI.ch (hO.geK (⟨fun _ h => h, trivial⟩))
 replace hO : IniOK [⟨u1, S2, .gen (fun k => w0.heap.size ≤ k ∨ S0 k) (trB 62 (oBx (oSl 30 (oBx (oSl 85 (oRd E_impl_Test))))) p0 cs_0)⟩] A w := hI.left hdn [(1, ⟨u1, S2, .gen (fun k => w0.heap.size ≤ k ∨ S0 k) (trB 62 (oBx (oSl 30 (oBx (oSl 85 (oRd E_impl_Test))))) p0 cs_0)⟩)] ⟨rfl, rfl, e_u1, eS_u1, rfl, trivial⟩
 replace hA := hI.avok
 clear hI
 replace hO : IniOK [⟨u1, S2, trR (fun k => w0.heap.size ≤ k ∨ S0 k) (oPt 62 (oBx (oSl 30 (oBx (oSl 85 (oRd E_impl_Test)))))) p0 [(u1, cs_0)]⟩] A w := hO.repin 0 rfl (fun h => trP.pin h.2 h.1)
 refine HT.seq ?_
 obtain ⟨h3, p_h3⟩ := (((tr_root (hO.own 0 _ rfl).2).ptr).bx).open1 rfl
 replace hO : IniOK [⟨u1, S2, trR (fun k => w0.heap.size ≤ k ∨ S0 k) (oPt 62 (oBx (oSl 30 (oBx (oSl 85 (oRd E_impl_Test)))))) p0 [(u1, [h3]), (u1, cs_0)]⟩] A w := hO.repin 0 rfl (trP.pin p_h3)
 obtain ⟨x5, q6, hr⟩ := cl_some hr
 refine HT.textR [⟨u1, S2, trR (fun k => w0.heap.size ≤ k ∨ S0 k) (oPt 62 (oBx (oSl 30 (oBx (oSl 85 (oRd E_impl_Test)))))) p0 [(u1, [h3]), (u1, cs_0)]⟩] (⟨_, true, [], none, true, fun A => .raw u1⟩ :: ⟨_, true, [], none, true, fun A => .raw h3⟩ :: ⟨_, true, [], none, true, fun A => .raw (.int .i64 p1)⟩ :: ⟨_, true, [0], some (trR (fun k => w0.heap.size ≤ k ∨ S0 k) (oPt 62 (oBx (oSl 30 (oBx (oSl 85 (oRd E_impl_Test)))))) x5.2 [(u1, cs_0)]), false, fun A => .raw (.int .i64 x5.1)⟩ :: ⟨_, true, [], none, true, fun A => .raw (.int .i64 x5.1)⟩ :: []) (by kernel_rfl) (by kernel_rfl) (Wf.mk' (by kernel_rfl) (UAll.cons ust_raw (UAll.cons ust_raw (UAll.cons ust_raw (UAll.cons ust_raw (UAll.cons ust_raw (UAll.nil)))))) (by kernel_rfl) (by kernel_rfl)) hO hA ?_ ?_
 ·exact
   OblsR.p (fun A' R' w' ho hd => of_fieldAddr_tr ((tr_root (hO.own 0 _ rfl).2).ptr).ad ((ho.old 2 rfl).trans h2) ff_62_0 Try.sizeOf60 (by decide) (padd_zero ((tr_root (hO.own 0 _ rfl).2).ptr).ad)) <|
   OblsR.p (fun A' R' w' ho hd => by have a0 : R' 5 = u1 := hd.g 0 rfl; exact of_load_pin ((ho.rdo 0 _ rfl rfl).2.2 _ (.head _)) a0 Try.isAgg60 Try.sizeOf60) <|
   OblsR.p (fun A' R' w' ho hd => of_move ((ho.old 1 rfl).trans h1)) <|
   OblsR.cons (OblR.tookS 0 _ _ rfl rfl rfl rfl rfl fun A' R' w' ho hd u S hok hown hav hin hop hds => by have a0 : R' 6 = h3 := hd.g 0 rfl; have a1 : R' 7 = .int .i64 p1 := hd.g 1 rfl; have e0 := (hin _ rfl).1; rw [e0] at hown ⊢; have hu0 : evalR R' (.tmp 6) = h3 := a0; exact took_callT Try.call99 ((((tr_root hown.2).ptr).bx).pinK (hown.2.2 _ (.head _)) rfl (hown.2.2 _ (.tail _ (.head _))) (same_blk0 (tr_root hown.2).ptr.ad)) hav hown.1 (fun k hk => .inl (Nat.le_trans (Nat.le_trans hF.size ho.ch.size) hk)) (fun k hk => SP.lt _ hown.2 hk) (fun S1 hS1 hP => by simp only [List.map, hu0]; exact M_laws_markRuleS_ok (q6 rfl) (ho.av.subS _) (fun b o h => h.2) hP a1) (fun _ _ _ h => trP.pin h.2 h.1)) <|
   OblsR.p (fun A' R' w' ho hd => by have a0 : R' 8 = .int .i64 x5.1 := hd.g 0 rfl; exact of_assign a0) <|
   OblsR.nil
 intro done ρ σ A R w hdn hI
 have z7 := hI.inivR 0 rfl
 have z8 := (hI.opnR hdn 4 3 rfl rfl rfl rfl rfl).trans z7
 obtain ⟨S9, eS_u1⟩ : ∃ S, σ 4 = S := ⟨_, rfl⟩
 have h1 : R 1 = .int .i64 x5.1 := hI.fact hdn (i := 4) rfl rfl rfl
 replace hAA := hI.lowK hAA hA0 hN (hO.geK (⟨fun _ h => h, trivial⟩))
 replace hF : Ch S0 w0 w := hF.tr hI.ch (hO.geK (⟨fun _ h => h, trivial⟩))
 replace hO : IniOK [⟨u1, S9, trR (fun k => w0.heap.size ≤ k ∨ S0 k) (oPt 62 (oBx (oSl 30 (oBx (oSl 85 (oRd E_impl_Test)))))) x5.2 [(u1, cs_0)]⟩] A w := hI.left hdn [(4, ⟨u1, S9, trR (fun k => w0.heap.size ≤ k ∨ S0 k) (oPt 62 (oBx (oSl 30 (oBx (oSl 85 (oRd E_impl_Test)))))) x5.2 [(u1, cs_0)]⟩)] ⟨rfl, rfl, z8, eS_u1, rfl, trivial⟩
 replace hA := hI.avok
 clear hI
 refine HT.seq ?_
 refine HT.text (l := ⟨_, true, .raw (.int .i64 x5.1)⟩ :: ⟨_, true, .raw (.int .i64 x5.1)⟩ :: []) (tl := []) (by kernel_rfl) (by kernel_rfl) (by kernel_rfl) ?_ ?_
 ·exact
   Obls.p (fun R' w' hw hs hd => of_move ((hs 1 rfl).trans h1)) <|
   Obls.p (fun R' w' hw hs hd => by have a0 : R' 9 = .int .i64 x5.1 := hd.g 0 rfl; exact of_assign a0) <|
   Obls.nil
 intro R w hw hs hF'
 have h4 : R 4 = .int .i64 x5.1 := hF' 1 _ _ rfl rfl rfl
 replace hO := hO.fr hw
 replace hA := hA.fr hw.size
 replace hF := hF.tr (hw.ch noB) fun _ h => False.elim h
 clear hs hF' hw
 refine seqR_nil ?_
 refine HT.ret ?_
 obtain rfl := Option.some.inj hr
 exact ⟨.inr rfl, [R 4], ⟨rfl, trivial⟩, h4, gave_post_box rfl (hO.own 0 _ rfl) (hO.ok 0 _ rfl).2 hAA ecs_0 lcs_0 hF⟩
def M_laws_heldTestS_L0 (fu : Nat) (p0 : List T_impl_Test) : Nat → Int → Int → Option (Ex Int Int)
 | 0, _, _ => none
 | k + 1, y4, y5 =>
  bif (decide (y5 < (p0.length : Int))) then (
   ck (inR y5 p0.length) <|
   bif (((gtD p0 y5).1) != y4) then (
    some (Ex.ret (-1 : Int))
   ) else (
    ck (i64B (y4 + (1 : Int))) <|
    ck (inR y5 p0.length) <|
    bif (((gtD p0 y5).2.1) != (y4 + (1 : Int))) then (
     some (Ex.ret (-1 : Int))
    ) else (
     ck (i64B ((y4 + (1 : Int)) + (1 : Int))) <|
     ck (inR y5 p0.length) <|
     ck ((3 : Int) != 0) <|
     bif (((gtD p0 y5).2.2) != ((((y4 + (1 : Int)) + (1 : Int)).tmod (3 : Int)) == (0 : Int))) then (
      some (Ex.ret (-1 : Int))
     ) else (
      ck (i64B (((y4 + (1 : Int)) + (1 : Int)) + (1 : Int))) <|
      ck (i64B (y5 + (1 : Int))) <|
      M_laws_heldTestS_L0 fu p0 k (((y4 + (1 : Int)) + (1 : Int)) + (1 : Int)) (y5 + (1 : Int))
     )
    )
   )
  ) else (
   some (Ex.go y4)
  )
def M_laws_heldTestS (fu : Nat) (p0 : List T_impl_Test) (p1 : Int) : Option Int :=
 cl true (M_laws_heldTestS_L0 fu p0 fu p1 (0 : Int)) fun rl1 =>
 exM rl1 (fun r => some r) fun s3 =>
 some s3
theorem M_laws_heldTestS_ok {fu : Nat} {A : Av} {p0 : List T_impl_Test} {p1 : Int} {r : Int} (hr : M_laws_heldTestS fu p0 p1 = some r) {w : World} {v0 : Value} {v1 : Value} (hA : AvOK A w) (h0 : Rep (eSl E_impl_Test) A w v0 p0) (h1 : v1 = .int .i64 p1) :
  Calls Try.prog 50 #[v0, v1] w fun e w' => ∃ v, e = .returned v ∧ (v = .int .i64 r ∧ Fr w w') := by
 unfold M_laws_heldTestS at hr
 obtain ⟨w0, hw0⟩ : ∃ w0, w0 = w := ⟨_, rfl⟩
 have hF : Fr w0 w := hw0 ▸ Fr.refl _
 rw [show Fr w = Fr w0 from hw0 ▸ rfl]
 clear hw0
 refine calls_of_HT2 [.tmp 4] Try.func50 Try.ntmps50 (by decide) rfl rfl (Nat.le_of_ble_eq_true rfl) ?_
 intro R hR
 have f_v0 := h0
 replace h0 : R 0 = v0 := hR 0 _ rfl
 replace h1 : R 1 = .int .i64 p1 := (hR 1 _ rfl).trans h1
 clear hR
 refine HT.seq ?_
 refine HT.text (l := ⟨_, true, .raw (.int .i64 (0 : Int))⟩ :: []) (tl := []) (by kernel_rfl) (by kernel_rfl) (by kernel_rfl) ?_ ?_
 ·exact
   Obls.p (fun R' w' hw hs hd => of_assign rfl) <|
   Obls.nil
 intro R w hw hs hF'
 replace h0 := (hs 0 rfl).trans h0
 replace h1 := (hs 1 rfl).trans h1
 replace f_v0 := f_v0.fr hw
 replace hA := hA.fr hw.size
 replace hF := hF.trans hw
 clear hs hF' hw
 refine seqR_nil ?_
 refine HT.seq ?_
 refine HT.seq ?_
 refine HT.text (l := ⟨_, true, .raw (.int .i64 (0 : Int))⟩ :: []) (tl := []) (by kernel_rfl) (by kernel_rfl) (by kernel_rfl) ?_ ?_
 ·exact
   Obls.p (fun R' w' hw hs hd => of_assign rfl) <|
   Obls.nil
 intro R w hw hs hF'
 replace h0 := (hs 0 rfl).trans h0
 replace h1 := (hs 1 rfl).trans h1
 have h5 : R 5 = .int .i64 (0 : Int) := hF' 0 _ _ rfl rfl rfl
 replace f_v0 := f_v0.fr hw
 replace hA := hA.fr hw.size
 replace hF := hF.trans hw
 clear hs hF' hw
 refine seqR_nil ?_
 obtain ⟨rl1, q2, hr⟩ := cl_some hr
 replace q2 := q2 rfl
 refine HT.cut0 (fun R w => ∃ (s3 : Int), rl1 = Ex.go s3 ∧ AvOK A w ∧ Fr w0 w ∧ R 1 = .int .i64 s3) ?_ ?_
 ·refine HT.block ?_
  refine HT.loop (fun k R w => ∃ (y4 : Int) (y5 : Int), M_laws_heldTestS_L0 fu p0 k y4 y5 = some rl1 ∧ AvOK A w ∧ Fr w0 w ∧ R 0 = v0 ∧ R 1 = .int .i64 y4 ∧ R 5 = .int .i64 y5 ∧ Rep (eSl E_impl_Test) A w v0 p0) fu ⟨_, _, q2, hA, hF, h0, h1, h5, f_v0⟩ ?_
  have hr0 := hr; clear hr q2
  rintro k R w ⟨y4, y5, hr, hA, hF, h0, h1, h5, f_v0⟩
  rcases k with _ | k
  ·cases (show none = some _ from hr)
  rw [M_laws_heldTestS_L0] at hr
  refine HT.seq ?_
  refine HT.seq ?_
  refine HT.text (l := ⟨_, true, .raw (.int .i64 y5)⟩ :: ⟨_, true, .raw v0⟩ :: ⟨_, true, .raw (.int .i64 (p0.length : Int))⟩ :: ⟨_, true, .raw (.bool (decide (y5 < (p0.length : Int))))⟩ :: []) (tl := []) (by kernel_rfl) (by kernel_rfl) (by kernel_rfl) ?_ ?_
  ·exact
    Obls.p (fun R' w' hw hs hd => of_move ((hs 5 rfl).trans h5)) <|
    Obls.p (fun R' w' hw hs hd => of_move ((hs 0 rfl).trans h0)) <|
    Obls.p (fun R' w' hw hs hd => by have a0 : R' 7 = v0 := hd.g 0 rfl; have ra0 := (f_v0.fr hw).eq a0; exact of_len_sl (aT := #[]) ra0 Try.underlying28) <|
    Obls.p (fun R' w' hw hs hd => by have a0 : R' 6 = .int .i64 y5 := hd.g 0 rfl; have a1 : R' 8 = .int .i64 (p0.length : Int) := hd.g 1 rfl; exact of_lss a0 a1) <|
    Obls.nil
  intro R w hw hs hF'
  replace h0 := (hs 0 rfl).trans h0
  replace h1 := (hs 1 rfl).trans h1
  replace h5 := (hs 5 rfl).trans h5
  have h9 : R 9 = .bool (decide (y5 < (p0.length : Int))) := hF' 3 _ _ rfl rfl rfl
  replace f_v0 := f_v0.fr hw
  replace hA := hA.fr hw.size
  replace hF := hF.trans hw
  clear hs hF' hw
  refine seqR_nil ?_
  refine HT.cond (decide (y5 < (p0.length : Int))) h9 (fun c6 => ?_) (fun c6 => ?_)
  ·have hr := cnd_t c6 hr
   refine HT.skip ?_
   refine HT.seq ?_
   refine HT.block ?_
   refine HT.seq ?_
   refine HT.seq ?_
   obtain ⟨e7, hr⟩ := ck_some hr
   refine HT.text (l := ⟨_, true, .raw v0⟩ :: ⟨_, true, .raw (.int .i64 y5)⟩ :: ⟨_, true, .qtr E_impl_Test A (gtD p0 y5)⟩ :: ⟨_, true, .qtr (eInt .i64) A ((gtD p0 y5).1)⟩ :: ⟨_, true, .raw (.int .i64 ((gtD p0 y5).1))⟩ :: ⟨_, true, .raw (.int .i64 y4)⟩ :: ⟨_, true, .raw (.bool (((gtD p0 y5).1) != y4))⟩ :: []) (tl := []) (by kernel_rfl) (by kernel_rfl) (by kernel_rfl) ?_ ?_
   ·exact
     Obls.p (fun R' w' hw hs hd => of_move ((hs 0 rfl).trans h0)) <|
     Obls.p (fun R' w' hw hs hd => of_move ((hs 5 rfl).trans h5)) <|
     Obls.p (fun R' w' hw hs hd => by have a0 : R' 12 = v0 := hd.g 0 rfl; have a1 : R' 13 = .int .i64 y5 := hd.g 1 rfl; have ra0 := (f_v0.fr hw).eq a0; exact of_indexAddr ra0 a1 Try.underlying28 Try.sizeOf85 e7) <|
     Obls.p (fun R' w' hw hs hd => by have a0 : QRep E_impl_Test A w' (R' 14) (gtD p0 y5) := hd.g 0 rfl; exact of_fieldAddr_q a0 ff_85_0 Try.sizeOf3 (by decide) fl_impl_Test_0 rfl) <|
     Obls.p (fun R' w' hw hs hd => by have a0 : QRep (eInt .i64) A w' (R' 15) ((gtD p0 y5).1) := hd.g 0 rfl; exact OpF.int (of_load a0.ptr Try.isAgg3 Try.sizeOf3)) <|
     Obls.p (fun R' w' hw hs hd => of_move ((hs 1 rfl).trans h1)) <|
     Obls.p (fun R' w' hw hs hd => by have a0 : R' 16 = .int .i64 ((gtD p0 y5).1) := hd.g 0 rfl; have a1 : R' 17 = .int .i64 y4 := hd.g 1 rfl; exact of_neq a0 a1) <|
     Obls.nil
   intro R w hw hs hF'
   replace h0 := (hs 0 rfl).trans h0
   replace h1 := (hs 1 rfl).trans h1
   replace h5 := (hs 5 rfl).trans h5
   have h18 : R 18 = .bool (((gtD p0 y5).1) != y4) := hF' 6 _ _ rfl rfl rfl
   replace f_v0 := f_v0.fr hw
   replace hA := hA.fr hw.size
   replace hF := hF.trans hw
   clear hs hF' hw
   refine seqR_nil ?_
   refine HT.cond (((gtD p0 y5).1) != y4) h18 (fun c8 => ?_) (fun c8 => ?_)
   ·have hr := cnd_t c8 hr
    refine HT.seq ?_
    refine HT.text (l := ⟨_, true, .raw (.int .i64 (-1 : Int))⟩ :: []) (tl := []) (by kernel_rfl) (by kernel_rfl) (by kernel_rfl) ?_ ?_
    ·exact
      Obls.p (fun R' w' hw hs hd => of_assign rfl) <|
      Obls.nil
    intro R w hw hs hF'
    have h4 : R 4 = .int .i64 (-1 : Int) := hF' 0 _ _ rfl rfl rfl
    replace hA := hA.fr hw.size
    replace hF := hF.trans hw
    clear hs hF' hw
    refine seqR_nil ?_
    refine HT.ret ?_
    obtain rfl := Option.some.inj hr
    have hr := hr0
    replace hr : some _ = some _ := hr
    obtain rfl := Option.some.inj hr
    exact ⟨.inr rfl, [R 4], ⟨rfl, trivial⟩, h4, hF⟩
   ·have hr := cnd_f c8 hr
    refine HT.skip ?_
    refine HT.seq ?_
    obtain ⟨e9, hr⟩ := ck_some hr
    refine HT.text (l := ⟨_, true, .raw (.int .i64 y4)⟩ :: ⟨_, true, .raw (.int .i64 (y4 + (1 : Int)))⟩ :: ⟨_, true, .raw (.int .i64 (y4 + (1 : Int)))⟩ :: []) (tl := []) (by kernel_rfl) (by kernel_rfl) (by kernel_rfl) ?_ ?_
    ·exact
      Obls.p (fun R' w' hw hs hd => of_move ((hs 1 rfl).trans h1)) <|
      Obls.p (fun R' w' hw hs hd => by have a0 : R' 19 = .int .i64 y4 := hd.g 0 rfl; exact of_add a0 rfl e9) <|
      Obls.p (fun R' w' hw hs hd => by have a0 : R' 20 = .int .i64 (y4 + (1 : Int)) := hd.g 0 rfl; exact of_assign a0) <|
      Obls.nil
    intro R w hw hs hF'
    replace h0 := (hs 0 rfl).trans h0
    replace h5 := (hs 5 rfl).trans h5
    have h1 : R 1 = .int .i64 (y4 + (1 : Int)) := hF' 2 _ _ rfl rfl rfl
    replace f_v0 := f_v0.fr hw
    replace hA := hA.fr hw.size
    replace hF := hF.trans hw
    clear hs hF' hw
    refine seqR_nil ?_
    refine HT.seq ?_
    refine HT.seq ?_
    obtain ⟨e10, hr⟩ := ck_some hr
    refine HT.text (l := ⟨_, true, .raw v0⟩ :: ⟨_, true, .raw (.int .i64 y5)⟩ :: ⟨_, true, .qtr E_impl_Test A (gtD p0 y5)⟩ :: ⟨_, true, .qtr (eInt .i64) A ((gtD p0 y5).2.1)⟩ :: ⟨_, true, .raw (.int .i64 ((gtD p0 y5).2.1))⟩ :: ⟨_, true, .raw (.int .i64 (y4 + (1 : Int)))⟩ :: ⟨_, true, .raw (.bool (((gtD p0 y5).2.1) != (y4 + (1 : Int))))⟩ :: []) (tl := []) (by kernel_rfl) (by kernel_rfl) (by kernel_rfl) ?_ ?_
    ·exact
      Obls.p (fun R' w' hw hs hd => of_move ((hs 0 rfl).trans h0)) <|
      Obls.p (fun R' w' hw hs hd => of_move ((hs 5 rfl).trans h5)) <|
      Obls.p (fun R' w' hw hs hd => by have a0 : R' 21 = v0 := hd.g 0 rfl; have a1 : R' 22 = .int .i64 y5 := hd.g 1 rfl; have ra0 := (f_v0.fr hw).eq a0; exact of_indexAddr ra0 a1 Try.underlying28 Try.sizeOf85 e10) <|
      Obls.p (fun R' w' hw hs hd => by have a0 : QRep E_impl_Test A w' (R' 23) (gtD p0 y5) := hd.g 0 rfl; exact of_fieldAddr_q a0 ff_85_1 Try.sizeOf3 (by decide) fl_impl_Test_1 rfl) <|
      Obls.p (fun R' w' hw hs hd => by have a0 : QRep (eInt .i64) A w' (R' 24) ((gtD p0 y5).2.1) := hd.g 0 rfl; exact OpF.int (of_load a0.ptr Try.isAgg3 Try.sizeOf3)) <|
      Obls.p (fun R' w' hw hs hd => of_move ((hs 1 rfl).trans h1)) <|
      Obls.p (fun R' w' hw hs hd => by have a0 : R' 25 = .int .i64 ((gtD p0 y5).2.1) := hd.g 0 rfl; have a1 : R' 26 = .int .i64 (y4 + (1 : Int)) := hd.g 1 rfl; exact of_neq a0 a1) <|
      Obls.nil
    intro R w hw hs hF'
    replace h0 := (hs 0 rfl).trans h0
    replace h1 := (hs 1 rfl).trans h1
    replace h5 := (hs 5 rfl).trans h5
    have h27 : R 27 = .bool (((gtD p0 y5).2.1) != (y4 + (1 : Int))) := hF' 6 _ _ rfl rfl rfl
    replace f_v0 := f_v0.fr hw
    replace hA := hA.fr hw.size
    replace hF := hF.trans hw
    clear hs hF' hw
    refine seqR_nil ?_
    refine HT.cond (((gtD p0 y5).2.1) != (y4 + (1 : Int))) h27 (fun c11 => ?_) (fun c11 => ?_)
    ·have hr := cnd_t c11 hr
     refine HT.seq ?_
     refine HT.text (l := ⟨_, true, .raw (.int .i64 (-1 : Int))⟩ :: []) (tl := []) (by kernel_rfl) (by kernel_rfl) (by kernel_rfl) ?_ ?_
     ·exact
       Obls.p (fun R' w' hw hs hd => of_assign rfl) <|
       Obls.nil
     intro R w hw hs hF'
     have h4 : R 4 = .int .i64 (-1 : Int) := hF' 0 _ _ rfl rfl rfl
     replace hA := hA.fr hw.size
     replace hF := hF.trans hw
     clear hs hF' hw
     refine seqR_nil ?_
     refine HT.ret ?_
     obtain rfl := Option.some.inj hr
     have hr := hr0
     replace hr : some _ = some _ := hr
     obtain rfl := Option.some.inj hr
     exact ⟨.inr rfl, [R 4], ⟨rfl, trivial⟩, h4, hF⟩
    ·have hr := cnd_f c11 hr
     refine HT.skip ?_
     refine HT.seq ?_
     obtain ⟨e12, hr⟩ := ck_some hr
     refine HT.text (l := ⟨_, true, .raw (.int .i64 (y4 + (1 : Int)))⟩ :: ⟨_, true, .raw (.int .i64 ((y4 + (1 : Int)) + (1 : Int)))⟩ :: ⟨_, true, .raw (.int .i64 ((y4 + (1 : Int)) + (1 : Int)))⟩ :: []) (tl := []) (by kernel_rfl) (by kernel_rfl) (by kernel_rfl) ?_ ?_
     ·exact
       Obls.p (fun R' w' hw hs hd => of_move ((hs 1 rfl).trans h1)) <|
       Obls.p (fun R' w' hw hs hd => by have a0 : R' 28 = .int .i64 (y4 + (1 : Int)) := hd.g 0 rfl; exact of_add a0 rfl e12) <|
       Obls.p (fun R' w' hw hs hd => by have a0 : R' 29 = .int .i64 ((y4 + (1 : Int)) + (1 : Int)) := hd.g 0 rfl; exact of_assign a0) <|
       Obls.nil
     intro R w hw hs hF'
     replace h0 := (hs 0 rfl).trans h0
     replace h5 := (hs 5 rfl).trans h5
     have h1 : R 1 = .int .i64 ((y4 + (1 : Int)) + (1 : Int)) := hF' 2 _ _ rfl rfl rfl
     replace f_v0 := f_v0.fr hw
     replace hA := hA.fr hw.size
     replace hF := hF.trans hw
     clear hs hF' hw
     refine seqR_nil ?_
     refine HT.seq ?_
     refine HT.seq ?_
     obtain ⟨e13, hr⟩ := ck_some hr
     obtain ⟨e14, hr⟩ := ck_some hr
     refine HT.text (l := ⟨_, true, .raw v0⟩ :: ⟨_, true, .raw (.int .i64 y5)⟩ :: ⟨_, true, .qtr E_impl_Test A (gtD p0 y5)⟩ :: ⟨_, true, .qtr eBool A ((gtD p0 y5).2.2)⟩ :: ⟨_, true, .raw (.bool ((gtD p0 y5).2.2))⟩ :: ⟨_, true, .raw (.int .i64 ((y4 + (1 : Int)) + (1 : Int)))⟩ :: ⟨_, true, .raw (.int .i64 (((y4 + (1 : Int)) + (1 : Int)).tmod (3 : Int)))⟩ :: ⟨_, true, .raw (.bool ((((y4 + (1 : Int)) + (1 : Int)).tmod (3 : Int)) == (0 : Int)))⟩ :: ⟨_, true, .raw (.bool (((gtD p0 y5).2.2) != ((((y4 + (1 : Int)) + (1 : Int)).tmod (3 : Int)) == (0 : Int))))⟩ :: []) (tl := []) (by kernel_rfl) (by kernel_rfl) (by kernel_rfl) ?_ ?_
     ·exact
       Obls.p (fun R' w' hw hs hd => of_move ((hs 0 rfl).trans h0)) <|
       Obls.p (fun R' w' hw hs hd => of_move ((hs 5 rfl).trans h5)) <|
       Obls.p (fun R' w' hw hs hd => by have a0 : R' 30 = v0 := hd.g 0 rfl; have a1 : R' 31 = .int .i64 y5 := hd.g 1 rfl; have ra0 := (f_v0.fr hw).eq a0; exact of_indexAddr ra0 a1 Try.underlying28 Try.sizeOf85 e13) <|
       Obls.p (fun R' w' hw hs hd => by have a0 : QRep E_impl_Test A w' (R' 32) (gtD p0 y5) := hd.g 0 rfl; exact of_fieldAddr_q a0 ff_85_2 Try.sizeOf4 (by decide) fl_impl_Test_2 rfl) <|
       Obls.p (fun R' w' hw hs hd => by have a0 : QRep eBool A w' (R' 33) ((gtD p0 y5).2.2) := hd.g 0 rfl; exact OpF.bool (of_load a0.ptr Try.isAgg4 Try.sizeOf4)) <|
       Obls.p (fun R' w' hw hs hd => of_move ((hs 1 rfl).trans h1)) <|
       Obls.p (fun R' w' hw hs hd => by have a0 : R' 35 = .int .i64 ((y4 + (1 : Int)) + (1 : Int)) := hd.g 0 rfl; exact of_rem a0 rfl e14) <|
       Obls.p (fun R' w' hw hs hd => by have a0 : R' 36 = .int .i64 (((y4 + (1 : Int)) + (1 : Int)).tmod (3 : Int)) := hd.g 0 rfl; exact of_eql a0 rfl) <|
       Obls.p (fun R' w' hw hs hd => by have a0 : R' 34 = .bool ((gtD p0 y5).2.2) := hd.g 0 rfl; have a1 : R' 37 = .bool ((((y4 + (1 : Int)) + (1 : Int)).tmod (3 : Int)) == (0 : Int)) := hd.g 1 rfl; exact of_bneq Try.underlying4 a0 a1) <|
       Obls.nil
     intro R w hw hs hF'
     replace h0 := (hs 0 rfl).trans h0
     replace h1 := (hs 1 rfl).trans h1
     replace h5 := (hs 5 rfl).trans h5
     have h38 : R 38 = .bool (((gtD p0 y5).2.2) != ((((y4 + (1 : Int)) + (1 : Int)).tmod (3 : Int)) == (0 : Int))) := hF' 8 _ _ rfl rfl rfl
     replace f_v0 := f_v0.fr hw
     replace hA := hA.fr hw.size
     replace hF := hF.trans hw
     clear hs hF' hw
     refine seqR_nil ?_
     refine HT.cond (((gtD p0 y5).2.2) != ((((y4 + (1 : Int)) + (1 : Int)).tmod (3 : Int)) == (0 : Int))) h38 (fun c15 => ?_) (fun c15 => ?_)
     ·have hr := cnd_t c15 hr
      refine HT.seq ?_
      refine HT.text (l := ⟨_, true, .raw (.int .i64 (-1 : Int))⟩ :: []) (tl := []) (by kernel_rfl) (by kernel_rfl) (by kernel_rfl) ?_ ?_
      ·exact
        Obls.p (fun R' w' hw hs hd => of_assign rfl) <|
        Obls.nil
      intro R w hw hs hF'
      have h4 : R 4 = .int .i64 (-1 : Int) := hF' 0 _ _ rfl rfl rfl
      replace hA := hA.fr hw.size
      replace hF := hF.trans hw
      clear hs hF' hw
      refine seqR_nil ?_
      refine HT.ret ?_
      obtain rfl := Option.some.inj hr
      have hr := hr0
      replace hr : some _ = some _ := hr
      obtain rfl := Option.some.inj hr
      exact ⟨.inr rfl, [R 4], ⟨rfl, trivial⟩, h4, hF⟩
     ·have hr := cnd_f c15 hr
      refine HT.skip ?_
      obtain ⟨e16, hr⟩ := ck_some hr
      refine HT.text (l := ⟨_, true, .raw (.int .i64 ((y4 + (1 : Int)) + (1 : Int)))⟩ :: ⟨_, true, .raw (.int .i64 (((y4 + (1 : Int)) + (1 : Int)) + (1 : Int)))⟩ :: ⟨_, true, .raw (.int .i64 (((y4 + (1 : Int)) + (1 : Int)) + (1 : Int)))⟩ :: []) (tl := []) (by kernel_rfl) (by kernel_rfl) (by kernel_rfl) ?_ ?_
      ·exact
        Obls.p (fun R' w' hw hs hd => of_move ((hs 1 rfl).trans h1)) <|
        Obls.p (fun R' w' hw hs hd => by have a0 : R' 39 = .int .i64 ((y4 + (1 : Int)) + (1 : Int)) := hd.g 0 rfl; exact of_add a0 rfl e16) <|
        Obls.p (fun R' w' hw hs hd => by have a0 : R' 40 = .int .i64 (((y4 + (1 : Int)) + (1 : Int)) + (1 : Int)) := hd.g 0 rfl; exact of_assign a0) <|
        Obls.nil
      intro R w hw hs hF'
      replace h0 := (hs 0 rfl).trans h0
      replace h5 := (hs 5 rfl).trans h5
      have h1 : R 1 = .int .i64 (((y4 + (1 : Int)) + (1 : Int)) + (1 : Int)) := hF' 2 _ _ rfl rfl rfl
      replace f_v0 := f_v0.fr hw
      replace hA := hA.fr hw.size
      replace hF := hF.trans hw
      clear hs hF' hw
      refine seqR_nil ?_
      obtain ⟨e17, hr⟩ := ck_some hr
      refine HT.text (l := ⟨_, true, .raw (.int .i64 y5)⟩ :: ⟨_, true, .raw (.int .i64 (y5 + (1 : Int)))⟩ :: ⟨_, true, .raw (.int .i64 (y5 + (1 : Int)))⟩ :: []) (tl := []) (by kernel_rfl) (by kernel_rfl) (by kernel_rfl) ?_ ?_
      ·exact
        Obls.p (fun R' w' hw hs hd => of_move ((hs 5 rfl).trans h5)) <|
        Obls.p (fun R' w' hw hs hd => by have a0 : R' 10 = .int .i64 y5 := hd.g 0 rfl; exact of_add a0 rfl e17) <|
        Obls.p (fun R' w' hw hs hd => by have a0 : R' 11 = .int .i64 (y5 + (1 : Int)) := hd.g 0 rfl; exact of_assign a0) <|
        Obls.nil
      intro R w hw hs hF'
      replace h0 := (hs 0 rfl).trans h0
      replace h1 := (hs 1 rfl).trans h1
      have h5 : R 5 = .int .i64 (y5 + (1 : Int)) := hF' 2 _ _ rfl rfl rfl
      replace f_v0 := f_v0.fr hw
      replace hA := hA.fr hw.size
      replace hF := hF.trans hw
      clear hs hF' hw
      refine seqR_nil ?_
      exact Exists.intro k (And.intro (Nat.lt_succ_self k) ⟨_, _, hr, hA, hF, h0, h1, h5, f_v0⟩)
  ·have hr := cnd_f c6 hr
   refine HT.exit ?_
   obtain rfl := Option.some.inj hr
   exact Exists.intro _ ⟨rfl, hA, hF, h1⟩
 rintro R w ⟨s3, rfl, hA, hF, h1⟩
 have hr := exM_go hr
 refine HT.seq ?_
 refine HT.text (l := ⟨_, true, .raw (.int .i64 s3)⟩ :: ⟨_, true, .raw (.int .i64 s3)⟩ :: []) (tl := []) (by kernel_rfl) (by kernel_rfl) (by kernel_rfl) ?_ ?_
 ·exact
   Obls.p (fun R' w' hw hs hd => of_move ((hs 1 rfl).trans h1)) <|
   Obls.p (fun R' w' hw hs hd => by have a0 : R' 41 = .int .i64 s3 := hd.g 0 rfl; exact of_assign a0) <|
   Obls.nil
 intro R w hw hs hF'
 have h4 : R 4 = .int .i64 s3 := hF' 1 _ _ rfl rfl rfl
 replace hA := hA.fr hw.size
 replace hF := hF.trans hw
 clear hs hF' hw
 refine seqR_nil ?_
 refine HT.ret ?_
 obtain rfl := Option.some.inj hr
 exact ⟨.inr rfl, [R 4], ⟨rfl, trivial⟩, h4, hF⟩
def M_laws_FnExactDiagramVariables (fu : Nat) (p0 : T_laws_RuleSet) : Option Bool :=
 cl true (M_laws_szRuleSet fu p0 (1048576 : Int)) fun x2 =>
 bif (decide (x2 < (0 : Int))) then (
  some true
 ) else (
  cl true (M_laws_toRuleSet fu p0) fun x5 =>
  cl true (M_spec_DiagramVariables fu x5) fun x7 =>
  cl true (M_laws_toRuleSet fu p0) fun x10 =>
  cl true (M_impl_DiagramVariables fu x10) fun x18 =>
  cl true (M_laws_eqTestS fu x18 x7) fun x23 =>
  bif (!x23) then (
   some false
  ) else (
   cl true (M_laws_toRuleSet fu p0) fun x28 =>
   cl true (M_laws_eqRuleSet fu x10 x28) fun x30 =>
   bif (!x30) then (
    some false
   ) else (
    cl true (M_laws_markRuleSet fu x10 (1 : Int)) fun x35 =>
    cl (true && ((decide (x35.1 < (0 : Int))) == false)) (M_laws_eqTestS fu x18 x7) fun x42 =>
    bd ((decide (x35.1 < (0 : Int))) || (!x42)) fun x44 =>
    bif x44 then (
     some false
    ) else (
     cl true (M_laws_markTestS fu x18 (1 : Int)) fun x47 =>
     cl true (M_laws_heldTestS fu x47.2 (1 : Int)) fun x52 =>
     bif (decide (x52 < (0 : Int))) then (
      some false
     ) else (
      bif (x52 != x47.1) then (
       some false
      ) else (
       cl true (M_laws_toRuleSet fu p0) fun x56 =>
       cl true (M_impl_DiagramVariables fu x56) fun x58 =>
       cl true (M_laws_eqTestS fu x58 x7) fun x61 =>
       bif (!x61) then (
        some false
       ) else (
        cl true (M_laws_heldTestS fu x47.2 (1 : Int)) fun x64 =>
        bif (decide (x64 < (0 : Int))) then (
         some false
        ) else (
         bif (x64 != x47.1) then (
          some false
         ) else (
          some true
         )
        )
       )
      )
     )
    )
   )
  )
 )
theorem M_laws_FnExactDiagramVariables_ok {fu : Nat} {A0 : Av} {p0 : T_laws_RuleSet} {r : Bool} (hr : M_laws_FnExactDiagramVariables fu p0 = some r) {w : World} {v0 : Value} (hA : AvOK A0 w) (h0 : Rep E_laws_RuleSet A0 w v0 p0) :
  Calls Try.prog 11 #[v0] w fun e w' => ∃ v, e = .returned v ∧ (v = .bool r ∧ Fr w w') := by
 unfold M_laws_FnExactDiagramVariables at hr
 obtain ⟨w0, hw0⟩ : ∃ w0, w0 = w := ⟨_, rfl⟩
 have hF : Fr w0 w := hw0 ▸ Fr.refl _
 have hA0 : ∀ b o, A0 b o → b < w0.heap.size := fun b o h => hw0 ▸ hA b o h
 have hA00 : AvOK A0 w0 := hA0
 rw [show Fr w = Fr w0 from hw0 ▸ rfl]
 clear hw0
 obtain ⟨A, hAe⟩ : ∃ A, A = A0 := ⟨_, rfl⟩
 have hAA : ∀ b o, A0 b o → A b o := fun b o h => hAe ▸ h
 replace hA : AvOK A w := hAe ▸ hA
 have hO : IniOK [] A w := IniOK.nil
 refine calls_of_HT2 [.tmp 2] Try.func11 Try.ntmps11 (by decide) rfl rfl (Nat.le_of_ble_eq_true rfl) ?_
 intro R hR
 have f_v0 : Rep E_laws_RuleSet A w v0 p0 := hAe ▸ h0
 replace h0 : R 0 = v0 := hR 0 _ rfl
 clear hR hAe
 refine HT.seq ?_
 refine HT.textR [] (⟨_, true, [], some (.box w0.heap.size 57 E_laws_RuleSet p0), true, fun A => .any⟩ :: ⟨_, true, [], none, true, fun A => .raw (.bool false)⟩ :: []) (by kernel_rfl) (by kernel_rfl) (Wf.mk' (by kernel_rfl) (UAll.cons ust_any (UAll.cons ust_raw (UAll.nil))) (by kernel_rfl) (by kernel_rfl)) hO hA ?_ ?_
 ·exact
   OblsR.cons (OblR.made _ rfl rfl rfl rfl fun A' R' w' ho hd => by have a0 : R' 0 = v0 := (ho.old 0 rfl).trans h0; have ra0 := (f_v0.stp ho.stp).eq a0; exact made_box ra0 (Nat.le_trans hF.size ho.ch.size)) <|
   OblsR.p (fun A' R' w' ho hd => of_assign rfl) <|
   OblsR.nil
 intro done ρ σ A R w hdn hI
 obtain ⟨b1_0, e_b1_0⟩ := hI.boxv hdn 0 rfl rfl
 have h1 : R 1 = (.pointer (some ⟨b1_0, 0, none⟩)) := (hI.opvR hdn 0 0 rfl rfl rfl rfl rfl).symm.trans e_b1_0
 replace hAA := hI.low' hAA hA0 (hO.ge (trivial))
 replace hF : Fr w0 w := hF.tr hI.ch (hO.ge (trivial))
 replace hO : IniOK [ob (.pointer (some ⟨b1_0, 0, none⟩)) (.box w0.heap.size 57 E_laws_RuleSet p0)] A w := hI.left hdn [(0, ob (.pointer (some ⟨b1_0, 0, none⟩)) (.box w0.heap.size 57 E_laws_RuleSet p0))] ⟨rfl, rfl, e_b1_0, rfl, rfl, trivial⟩
 replace hA := hI.avok
 clear hI
 refine HT.seq ?_
 refine HT.text (l := ⟨_, true, .raw (.int .i64 (1048576 : Int))⟩ :: []) (tl := []) (by kernel_rfl) (by kernel_rfl) (by kernel_rfl) ?_ ?_
 ·exact
   Obls.p (fun R' w' hw hs hd => of_assign rfl) <|
   Obls.nil
 intro R w hw hs hF'
 replace h1 := (hs 1 rfl).trans h1
 have h3 : R 3 = .int .i64 (1048576 : Int) := hF' 0 _ _ rfl rfl rfl
 replace hO := hO.fr hw
 replace hA := hA.fr hw.size
 replace hF := hF.trans hw
 clear hs hF' hw
 refine seqR_nil ?_
 refine HT.seq ?_
 obtain ⟨x2, q3, hr⟩ := cl_some hr
 refine HT.text (l := ⟨_, true, .rep E_laws_RuleSet A p0⟩ :: ⟨_, true, .raw (.int .i64 (1048576 : Int))⟩ :: ⟨_, true, .raw (.int .i64 x2)⟩ :: ⟨_, true, .raw (.int .i64 x2)⟩ :: []) (tl := []) (by kernel_rfl) (by kernel_rfl) (by kernel_rfl) ?_ ?_
 ·exact
   Obls.p (fun R' w' hw hs hd => (of_load_box ((hO.fr hw).ok 0 _ rfl).1 ((hs 1 rfl).trans h1) (Fld.id _) rfl Try.isAgg57 Try.sizeOf57)) <|
   Obls.p (fun R' w' hw hs hd => of_move ((hs 3 rfl).trans h3)) <|
   Obls.p (fun R' w' hw hs hd => by have a0 : Rep E_laws_RuleSet A w' (R' 11) p0 := hd.g 0 rfl; have a1 : R' 12 = .int .i64 (1048576 : Int) := hd.g 1 rfl; exact of_call Try.call32 (M_laws_szRuleSet_ok (q3 rfl) (hA.fr hw.size) a0 a1)) <|
   Obls.p (fun R' w' hw hs hd => by have a0 : R' 13 = .int .i64 x2 := hd.g 0 rfl; exact of_assign a0) <|
   Obls.nil
 intro R w hw hs hF'
 replace h1 := (hs 1 rfl).trans h1
 have h3 : R 3 = .int .i64 x2 := hF' 3 _ _ rfl rfl rfl
 replace hO := hO.fr hw
 replace hA := hA.fr hw.size
 replace hF := hF.trans hw
 clear hs hF' hw
 refine seqR_nil ?_
 refine HT.seq ?_
 refine HT.seq ?_
 refine HT.text (l := ⟨_, true, .raw (.int .i64 x2)⟩ :: ⟨_, true, .raw (.bool (decide (x2 < (0 : Int))))⟩ :: []) (tl := []) (by kernel_rfl) (by kernel_rfl) (by kernel_rfl) ?_ ?_
 ·exact
   Obls.p (fun R' w' hw hs hd => of_move ((hs 3 rfl).trans h3)) <|
   Obls.p (fun R' w' hw hs hd => by have a0 : R' 14 = .int .i64 x2 := hd.g 0 rfl; exact of_lss a0 rfl) <|
   Obls.nil
 intro R w hw hs hF'
 replace h1 := (hs 1 rfl).trans h1
 have h15 : R 15 = .bool (decide (x2 < (0 : Int))) := hF' 1 _ _ rfl rfl rfl
 replace hO := hO.fr hw
 replace hA := hA.fr hw.size
 replace hF := hF.trans hw
 clear hs hF' hw
 refine seqR_nil ?_
 refine HT.cond (decide (x2 < (0 : Int))) h15 (fun c4 => ?_) (fun c4 => ?_)
 ·have hr := cnd_t c4 hr
  refine HT.seq ?_
  refine HT.text (l := ⟨_, true, .raw (.bool true)⟩ :: []) (tl := []) (by kernel_rfl) (by kernel_rfl) (by kernel_rfl) ?_ ?_
  ·exact
    Obls.p (fun R' w' hw hs hd => of_assign rfl) <|
    Obls.nil
  intro R w hw hs hF'
  have h2 : R 2 = .bool true := hF' 0 _ _ rfl rfl rfl
  replace hO := hO.fr hw
  replace hO : IniOK [] A w := hO.sub [] trivial
  replace hA := hA.fr hw.size
  replace hF := hF.trans hw
  clear hs hF' hw
  refine seqR_nil ?_
  refine HT.ret ?_
  obtain rfl := Option.some.inj hr
  exact ⟨.inr rfl, [R 2], ⟨rfl, trivial⟩, h2, hF⟩
 ·have hr := cnd_f c4 hr
  refine HT.skip ?_
  refine HT.seq ?_
  obtain ⟨x5, q6, hr⟩ := cl_some hr
  obtain ⟨x7, q8, hr⟩ := cl_some hr
  refine HT.text (l := ⟨_, true, .rep E_laws_RuleSet A p0⟩ :: ⟨_, true, .rep E_impl_RuleSet A x5⟩ :: ⟨_, true, .rep (eSl E_impl_Test) A x7⟩ :: ⟨_, true, .rep (eSl E_impl_Test) A x7⟩ :: []) (tl := []) (by kernel_rfl) (by kernel_rfl) (by kernel_rfl) ?_ ?_
  ·exact
    Obls.p (fun R' w' hw hs hd => (of_load_box ((hO.fr hw).ok 0 _ rfl).1 ((hs 1 rfl).trans h1) (Fld.id _) rfl Try.isAgg57 Try.sizeOf57)) <|
    Obls.p (fun R' w' hw hs hd => by have a0 : Rep E_laws_RuleSet A w' (R' 16) p0 := hd.g 0 rfl; exact of_call Try.call34 (M_laws_toRuleSet_okR (q6 rfl) (hA.fr hw.size) a0)) <|
    Obls.p (fun R' w' hw hs hd => by have a0 : Rep E_impl_RuleSet A w' (R' 17) x5 := hd.g 0 rfl; exact of_call Try.call45 (M_spec_DiagramVariables_okR (q8 rfl) (hA.fr hw.size) a0)) <|
    Obls.p (fun R' w' hw hs hd => by have a0 : Rep (eSl E_impl_Test) A w' (R' 18) x7 := hd.g 0 rfl; exact of_assign a0) <|
    Obls.nil
  intro R w hw hs hF'
  replace h1 := (hs 1 rfl).trans h1
  obtain ⟨u9, h4, f_u9⟩ : ∃ u, R 4 = u ∧ Rep (eSl E_impl_Test) A w u x7 := ⟨_, rfl, hF' 3 _ _ rfl rfl rfl⟩
  replace hO := hO.fr hw
  replace hA := hA.fr hw.size
  replace hF := hF.trans hw
  clear hs hF' hw
  refine seqR_nil ?_
  refine HT.seq ?_
  obtain ⟨x10, q11, hr⟩ := cl_some hr
  refine HT.textR [ob (.pointer (some ⟨b1_0, 0, none⟩)) (.box w0.heap.size 57 E_laws_RuleSet p0)] (⟨_, true, [], none, true, fun A => .rep E_laws_RuleSet A p0⟩ :: ⟨_, true, [], some (trR (geB w0.heap.size) (oBx (oSl 30 (oBx (oSl 85 (oRd E_impl_Test))))) x10 []), true, fun A => .any⟩ :: ⟨_, true, [], some (trR (geB w0.heap.size) (oPt 62 (oBx (oSl 30 (oBx (oSl 85 (oRd E_impl_Test)))))) ([] : List T_impl_Rule) []), true, fun A => .any⟩ :: ⟨_, true, [3, 2], some (trR (geB w0.heap.size) (oPt 62 (oBx (oSl 30 (oBx (oSl 85 (oRd E_impl_Test)))))) x10 []), false, fun A => .any⟩ :: []) (by kernel_rfl) (by kernel_rfl) (Wf.mk' (by kernel_rfl) (UAll.cons ust_rep (UAll.cons ust_any (UAll.cons ust_any (UAll.cons ust_any (UAll.nil))))) (by kernel_rfl) (by kernel_rfl)) hO hA ?_ ?_
  ·exact
    OblsR.p (fun A' R' w' ho hd => (of_load_box (ho.rd 0 _ rfl rfl) ((ho.old 1 rfl).trans h1) (Fld.id _) rfl Try.isAgg57 Try.sizeOf57)) <|
    OblsR.cons (OblR.madeS _ rfl rfl rfl rfl fun A' R' w' ho hd => by have a0 : Rep E_laws_RuleSet A' w' (R' 19) p0 := hd.g 0 rfl; exact made_callT Try.call34 (M_laws_toRuleSet_ok (q11 rfl) ho.av a0) (fun k hk => Nat.le_trans (Nat.le_trans hF.size ho.ch.size) hk)) <|
    OblsR.cons (OblR.madeS _ rfl rfl rfl rfl fun A' R' w' ho hd => by exact made_allocT Try.zeroValue62 (fun A w => own_nil) (fun k hk => Nat.le_trans (Nat.le_trans hF.size ho.ch.size) hk)) <|
    OblsR.cons (OblR.tookM 3 [2] _ rfl rfl rfl rfl fun A' R' w' ho hd ρ σ hok hav hin hop hds hdd => by have k1 := hok 3 (.head _) _ rfl; exact took_put2 rfl (tr_root k1.2.2).ptr (hok 2 (.tail _ (.head _)) _ rfl).2.2.1 (hop 2 (.tail _ (.head _)) _ _ rfl rfl rfl rfl).symm (hop 3 (.head _) _ _ rfl rfl rfl rfl).symm hav hdd k1.2.1 (hok 2 (.tail _ (.head _)) _ rfl).2.1 Try.sizeOf62 (fun _ _ _ h => h)) <|
    OblsR.nil
  intro done ρ σ A R w hdn hI
  replace h1 : R 1 = (.pointer (some ⟨b1_0, 0, none⟩)) := (hI.reg rfl).trans h1
  replace h4 : R 4 = u9 := (hI.reg rfl).trans h4
  have z12 := hI.inivR 0 rfl
  obtain ⟨u13, e_u13⟩ : ∃ u, ρ 4 = u := ⟨_, rfl⟩
  have z14 := (hI.opnR hdn 4 3 rfl rfl rfl rfl rfl).symm.trans e_u13
  have h5 : R 5 = u13 := (hI.opvR hdn 3 2 rfl rfl rfl rfl rfl).symm.trans z14
  obtain ⟨S15, eS_u13⟩ : ∃ S, σ 4 = S := ⟨_, rfl⟩
  replace f_u9 := f_u9.stp hI.stp
  replace hAA := hI.low' hAA hA0 (hO.ge (⟨rfl, trivial⟩))
  replace hF : Fr w0 w := hF.tr hI.ch (hO.ge (⟨rfl, trivial⟩))
  replace hO : IniOK [ob (.pointer (some ⟨b1_0, 0, none⟩)) (.box w0.heap.size 57 E_laws_RuleSet p0), ⟨u13, S15, trR (geB w0.heap.size) (oPt 62 (oBx (oSl 30 (oBx (oSl 85 (oRd E_impl_Test)))))) x10 []⟩] A w := hI.left hdn [(0, ob (.pointer (some ⟨b1_0, 0, none⟩)) (.box w0.heap.size 57 E_laws_RuleSet p0)), (4, ⟨u13, S15, trR (geB w0.heap.size) (oPt 62 (oBx (oSl 30 (oBx (oSl 85 (oRd E_impl_Test)))))) x10 []⟩)] ⟨rfl, rfl, z12, rfl, rfl, ⟨rfl, rfl, e_u13, eS_u13, rfl, trivial⟩⟩
  replace hA := hI.avok
  clear hI
  refine HT.seq ?_
  obtain ⟨h16, l_h16, p_h16⟩ := ((tr_root (hO.own 1 _ rfl).2).ptr).open
  replace hO : IniOK [ob (.pointer (some ⟨b1_0, 0, none⟩)) (.box w0.heap.size 57 E_laws_RuleSet p0), ⟨u13, S15, trR (geB w0.heap.size) (oPt 62 (oBx (oSl 30 (oBx (oSl 85 (oRd E_impl_Test)))))) x10 [(u13, h16)]⟩] A w := hO.repin 1 rfl (trP.pin p_h16)
  obtain ⟨x18, q19, hr⟩ := cl_some hr
  refine HT.textR [ob (.pointer (some ⟨b1_0, 0, none⟩)) (.box w0.heap.size 57 E_laws_RuleSet p0), ⟨u13, S15, trR (geB w0.heap.size) (oPt 62 (oBx (oSl 30 (oBx (oSl 85 (oRd E_impl_Test)))))) x10 [(u13, h16)]⟩] (⟨_, true, [], none, true, fun A => .raw (Enc.val E_impl_RuleSet h16)⟩ :: ⟨_, true, [], some (.vec w0.heap.size 85 E_impl_Test x18), true, fun A => .any⟩ :: ⟨_, true, [3], some (.vec w0.heap.size 85 E_impl_Test x18), true, fun A => .any⟩ :: []) (by kernel_rfl) (by kernel_rfl) (Wf.mk' (by kernel_rfl) (UAll.cons ust_raw (UAll.cons ust_any (UAll.cons ust_any (UAll.nil)))) (by kernel_rfl) (by kernel_rfl)) hO hA ?_ ?_
  ·exact
    OblsR.p (fun A' R' w' ho hd => of_load_pinS (F := oBx (oSl 30 (oBx (oSl 85 (oRd E_impl_Test))))) ((ho.rdo 1 _ rfl rfl).2.2 _ (.head _)) l_h16 ((ho.old 5 rfl).trans h5) Try.isAgg62 Try.sizeOf62) <|
    OblsR.cons (OblR.made _ rfl rfl rfl rfl fun A' R' w' ho hd => by have a0 : R' 21 = (Enc.val E_impl_RuleSet h16) := hd.g 0 rfl; have ra0 : Rep E_impl_RuleSet A0 w' (R' 21) _ := (vh_rep (((tr_root (ho.rdo 1 _ rfl rfl).2).ptr).pinS ((ho.rdo 1 _ rfl rfl).2.2 _ (.head _)) l_h16) (ho.low' hAA hA0 (hO.ge (⟨rfl, ⟨fun _ h => h, trivial⟩⟩))) (fun k o hk ha => Nat.not_lt.2 ((ho.rdo 1 _ rfl rfl).1 k hk) (hA0 k o ha))).eq a0; exact made_call0 Try.call46 (M_impl_DiagramVariables_ok (q19 rfl) (hA00.fr ((Nat.le_trans hF.size ho.ch.size))) ra0) (Nat.le_trans hF.size ho.ch.size) (ho.low' hAA hA0 (hO.ge (⟨rfl, ⟨fun _ h => h, trivial⟩⟩))) (fun _ _ _ _ _ h => h)) <|
    OblsR.cons (OblR.took 3 _ _ rfl rfl rfl rfl rfl fun A' R' w' ho hd u hok hav hin hop hds => by exact took_assign (hop _ _ rfl rfl rfl rfl).symm hok hav) <|
    OblsR.nil
  intro done ρ σ A R w hdn hI
  replace h1 : R 1 = (.pointer (some ⟨b1_0, 0, none⟩)) := (hI.reg rfl).trans h1
  replace h4 : R 4 = u9 := (hI.reg rfl).trans h4
  replace h5 : R 5 = u13 := (hI.reg rfl).trans h5
  have z20 := hI.inivR 0 rfl
  have z21 := hI.inivR 1 rfl
  obtain ⟨u22, e_u22⟩ : ∃ u, ρ 4 = u := ⟨_, rfl⟩
  have h6 : R 6 = u22 := (hI.opvR hdn 4 2 rfl rfl rfl rfl rfl).symm.trans e_u22
  have eS_u13 := hI.inisR 1 rfl
  replace f_u9 := f_u9.stp hI.stp
  replace hAA := hI.low' hAA hA0 (hO.ge (⟨rfl, ⟨fun _ h => h, trivial⟩⟩))
  replace hF : Fr w0 w := hF.tr hI.ch (hO.ge (⟨rfl, ⟨fun _ h => h, trivial⟩⟩))
  replace hO : IniOK [ob (.pointer (some ⟨b1_0, 0, none⟩)) (.box w0.heap.size 57 E_laws_RuleSet p0), ⟨u13, S15, trR (geB w0.heap.size) (oPt 62 (oBx (oSl 30 (oBx (oSl 85 (oRd E_impl_Test)))))) x10 [(u13, h16)]⟩, ob u22 (.vec w0.heap.size 85 E_impl_Test x18)] A w := hI.left hdn [(0, ob (.pointer (some ⟨b1_0, 0, none⟩)) (.box w0.heap.size 57 E_laws_RuleSet p0)), (1, ⟨u13, S15, trR (geB w0.heap.size) (oPt 62 (oBx (oSl 30 (oBx (oSl 85 (oRd E_impl_Test)))))) x10 [(u13, h16)]⟩), (4, ob u22 (.vec w0.heap.size 85 E_impl_Test x18))] ⟨rfl, rfl, z20, rfl, rfl, ⟨rfl, rfl, z21, eS_u13, rfl, ⟨rfl, rfl, e_u22, rfl, rfl, trivial⟩⟩⟩
  replace hA := hI.avok
  clear hI
  replace hO : IniOK [ob (.pointer (some ⟨b1_0, 0, none⟩)) (.box w0.heap.size 57 E_laws_RuleSet p0), ⟨u13, S15, trR (geB w0.heap.size) (oPt 62 (oBx (oSl 30 (oBx (oSl 85 (oRd E_impl_Test)))))) x10 []⟩, ob u22 (.vec w0.heap.size 85 E_impl_Test x18)] A w := hO.repin 1 rfl trP.nopin
  refine HT.seq ?_
  refine HT.seq ?_
  obtain ⟨x23, q24, hr⟩ := cl_some hr
  refine HT.text (l := ⟨_, true, .raw u22⟩ :: ⟨_, true, .raw u9⟩ :: ⟨_, true, .raw (.bool x23)⟩ :: ⟨_, true, .raw (.bool (!x23))⟩ :: []) (tl := []) (by kernel_rfl) (by kernel_rfl) (by kernel_rfl) ?_ ?_
  ·exact
    Obls.p (fun R' w' hw hs hd => of_move ((hs 6 rfl).trans h6)) <|
    Obls.p (fun R' w' hw hs hd => of_move ((hs 4 rfl).trans h4)) <|
    Obls.p (fun R' w' hw hs hd => by have a0 : R' 23 = u22 := hd.g 0 rfl; have ra0 := (vec_rep ((hO.fr hw).ok 2 _ rfl).1 hAA hA0).eq a0; have a1 : R' 24 = u9 := hd.g 1 rfl; have ra1 := (f_u9.fr hw).eq a1; exact of_call Try.call47 (M_laws_eqTestS_ok (q24 rfl) (hA00.fr ((Nat.le_trans hF.size hw.size))) ra0 (ra1.down hAA))) <|
    Obls.p (fun R' w' hw hs hd => by have a0 : R' 25 = .bool x23 := hd.g 0 rfl; exact of_not a0) <|
    Obls.nil
  intro R w hw hs hF'
  replace h1 := (hs 1 rfl).trans h1
  replace h4 := (hs 4 rfl).trans h4
  replace h5 := (hs 5 rfl).trans h5
  replace h6 := (hs 6 rfl).trans h6
  have h26 : R 26 = .bool (!x23) := hF' 3 _ _ rfl rfl rfl
  replace f_u9 := f_u9.fr hw
  replace hO := hO.fr hw
  replace hA := hA.fr hw.size
  replace hF := hF.trans hw
  clear hs hF' hw
  refine seqR_nil ?_
  refine HT.cond (!x23) h26 (fun c25 => ?_) (fun c25 => ?_)
  ·have hr := cnd_t c25 hr
   refine HT.seq ?_
   refine HT.text (l := ⟨_, true, .raw (.bool false)⟩ :: []) (tl := []) (by kernel_rfl) (by kernel_rfl) (by kernel_rfl) ?_ ?_
   ·exact
     Obls.p (fun R' w' hw hs hd => of_assign rfl) <|
     Obls.nil
   intro R w hw hs hF'
   have h2 : R 2 = .bool false := hF' 0 _ _ rfl rfl rfl
   replace hO := hO.fr hw
   replace hO : IniOK [] A w := hO.sub [] trivial
   replace hA := hA.fr hw.size
   replace hF := hF.trans hw
   clear hs hF' hw
   refine seqR_nil ?_
   refine HT.ret ?_
   obtain rfl := Option.some.inj hr
   exact ⟨.inr rfl, [R 2], ⟨rfl, trivial⟩, h2, hF⟩
  ·have hr := cnd_f c25 hr
   refine HT.skip ?_
   refine HT.seq ?_
   refine HT.seq ?_
   obtain ⟨h26, l_h26, p_h26⟩ := ((tr_root (hO.own 1 _ rfl).2).ptr).open
   replace hO : IniOK [ob (.pointer (some ⟨b1_0, 0, none⟩)) (.box w0.heap.size 57 E_laws_RuleSet p0), ⟨u13, S15, trR (geB w0.heap.size) (oPt 62 (oBx (oSl 30 (oBx (oSl 85 (oRd E_impl_Test)))))) x10 [(u13, h26)]⟩, ob u22 (.vec w0.heap.size 85 E_impl_Test x18)] A w := hO.repin 1 rfl (trP.pin p_h26)
   obtain ⟨x28, q29, hr⟩ := cl_some hr
   obtain ⟨x30, q31, hr⟩ := cl_some hr
   refine HT.draw (by kernel_rfl) (l := ⟨_, true, .raw (Enc.val E_impl_RuleSet h26)⟩ :: ⟨_, true, .rep E_laws_RuleSet A p0⟩ :: ⟨_, true, .rep E_impl_RuleSet A x28⟩ :: ⟨_, true, .raw (.bool x30)⟩ :: ⟨_, true, .raw (.bool (!x30))⟩ :: []) (tl := []) (by kernel_rfl) (by kernel_rfl) (by kernel_rfl) (by kernel_rfl) ?_ ?_
   ·exact
     Obls.p (fun R' w' hw hs hd => of_load_pinS (F := oBx (oSl 30 (oBx (oSl 85 (oRd E_impl_Test))))) (((hO.fr hw).own 1 _ rfl).2.2 _ (.head _)) l_h26 ((hs 5 rfl).trans h5) Try.isAgg62 Try.sizeOf62) <|
     Obls.p (fun R' w' hw hs hd => (of_load_box ((hO.fr hw).ok 0 _ rfl).1 ((hs 1 rfl).trans h1) (Fld.id _) rfl Try.isAgg57 Try.sizeOf57)) <|
     Obls.p (fun R' w' hw hs hd => by have a0 : Rep E_laws_RuleSet A w' (R' 28) p0 := hd.g 0 rfl; exact of_call Try.call34 (M_laws_toRuleSet_okR (q29 rfl) (hA.fr hw.size) a0)) <|
     Obls.p (fun R' w' hw hs hd => by have a0 : R' 27 = (Enc.val E_impl_RuleSet h26) := hd.g 0 rfl; have ra0 : Rep E_impl_RuleSet A0 w' (R' 27) _ := (vh_rep (((tr_root ((hO.fr hw).own 1 _ rfl).2).ptr).pinS (((hO.fr hw).own 1 _ rfl).2.2 _ (.head _)) l_h26) hAA (fun k o hk ha => Nat.not_lt.2 (((hO.fr hw).own 1 _ rfl).1 k hk) (hA0 k o ha))).eq a0; have a1 : Rep E_impl_RuleSet A w' (R' 29) x28 := hd.g 1 rfl; exact of_call Try.call36 (M_laws_eqRuleSet_ok (q31 rfl) (hA00.fr ((Nat.le_trans hF.size hw.size))) ra0 (a1.down hAA))) <|
     Obls.p (fun R' w' hw hs hd => by have a0 : R' 30 = .bool x30 := hd.g 0 rfl; exact of_not a0) <|
     Obls.nil
   intro R w hw hs hF'
   replace h1 := (hs 1 rfl).trans h1
   replace h4 := (hs 4 rfl).trans h4
   replace h5 := (hs 5 rfl).trans h5
   replace h6 := (hs 6 rfl).trans h6
   have h31 : R 31 = .bool (!x30) := hF' 4 _ _ rfl rfl rfl
   replace f_u9 := f_u9.fr hw
   replace hO := hO.fr hw
   replace hA := hA.fr hw.size
   replace hF := hF.trans hw
   clear hs hF' hw
   refine seqR_nil ?_
   replace hO : IniOK [ob (.pointer (some ⟨b1_0, 0, none⟩)) (.box w0.heap.size 57 E_laws_RuleSet p0), ⟨u13, S15, trR (geB w0.heap.size) (oPt 62 (oBx (oSl 30 (oBx (oSl 85 (oRd E_impl_Test)))))) x10 []⟩, ob u22 (.vec w0.heap.size 85 E_impl_Test x18)] A w := hO.repin 1 rfl trP.nopin
   refine HT.cond (!x30) h31 (fun c32 => ?_) (fun c32 => ?_)
   ·have hr := cnd_t c32 hr
    refine HT.seq ?_
    refine HT.text (l := ⟨_, true, .raw (.bool false)⟩ :: []) (tl := []) (by kernel_rfl) (by kernel_rfl) (by kernel_rfl) ?_ ?_
    ·exact
      Obls.p (fun R' w' hw hs hd => of_assign rfl) <|
      Obls.nil
    intro R w hw hs hF'
    have h2 : R 2 = .bool false := hF' 0 _ _ rfl rfl rfl
    replace hO := hO.fr hw
    replace hO : IniOK [] A w := hO.sub [] trivial
    replace hA := hA.fr hw.size
    replace hF := hF.trans hw
    clear hs hF' hw
    refine seqR_nil ?_
    refine HT.ret ?_
    obtain rfl := Option.some.inj hr
    exact ⟨.inr rfl, [R 2], ⟨rfl, trivial⟩, h2, hF⟩
   ·have hr := cnd_f c32 hr
    refine HT.skip ?_
    refine HT.seq ?_
    refine HT.text (l := ⟨_, true, .raw (.int .i64 (1 : Int))⟩ :: []) (tl := []) (by kernel_rfl) (by kernel_rfl) (by kernel_rfl) ?_ ?_
    ·exact
      Obls.p (fun R' w' hw hs hd => of_assign rfl) <|
      Obls.nil
    intro R w hw hs hF'
    replace h1 := (hs 1 rfl).trans h1
    replace h4 := (hs 4 rfl).trans h4
    replace h5 := (hs 5 rfl).trans h5
    replace h6 := (hs 6 rfl).trans h6
    have h7 : R 7 = .int .i64 (1 : Int) := hF' 0 _ _ rfl rfl rfl
    replace f_u9 := f_u9.fr hw
    replace hO := hO.fr hw
    replace hA := hA.fr hw.size
    replace hF := hF.trans hw
    clear hs hF' hw
    refine seqR_nil ?_
    refine HT.seq ?_
    obtain ⟨h33, l_h33, p_h33⟩ := ((tr_root (hO.own 1 _ rfl).2).ptr).open
    replace hO : IniOK [ob (.pointer (some ⟨b1_0, 0, none⟩)) (.box w0.heap.size 57 E_laws_RuleSet p0), ⟨u13, S15, trR (geB w0.heap.size) (oPt 62 (oBx (oSl 30 (oBx (oSl 85 (oRd E_impl_Test)))))) x10 [(u13, h33)]⟩, ob u22 (.vec w0.heap.size 85 E_impl_Test x18)] A w := hO.repin 1 rfl (trP.pin p_h33)
    obtain ⟨x35, q36, hr⟩ := cl_some hr
    refine HT.textR [ob (.pointer (some ⟨b1_0, 0, none⟩)) (.box w0.heap.size 57 E_laws_RuleSet p0), ⟨u13, S15, trR (geB w0.heap.size) (oPt 62 (oBx (oSl 30 (oBx (oSl 85 (oRd E_impl_Test)))))) x10 [(u13, h33)]⟩, ob u22 (.vec w0.heap.size 85 E_impl_Test x18)] (⟨_, true, [], none, true, fun A => .raw (Enc.val E_impl_RuleSet h33)⟩ :: ⟨_, true, [], none, true, fun A => .raw (.int .i64 (1 : Int))⟩ :: ⟨_, true, [1], some (trR (geB w0.heap.size) (oPt 62 (oBx (oSl 30 (oBx (oSl 85 (oRd E_impl_Test)))))) x35.2 []), false, fun A => .raw (.int .i64 x35.1)⟩ :: ⟨_, true, [], none, true, fun A => .raw (.int .i64 x35.1)⟩ :: []) (by kernel_rfl) (by kernel_rfl) (Wf.mk' (by kernel_rfl) (UAll.cons ust_raw (UAll.cons ust_raw (UAll.cons ust_raw (UAll.cons ust_raw (UAll.nil))))) (by kernel_rfl) (by kernel_rfl)) hO hA ?_ ?_
    ·exact
      OblsR.p (fun A' R' w' ho hd => of_load_pinS (F := oBx (oSl 30 (oBx (oSl 85 (oRd E_impl_Test))))) ((ho.rdo 1 _ rfl rfl).2.2 _ (.head _)) l_h33 ((ho.old 5 rfl).trans h5) Try.isAgg62 Try.sizeOf62) <|
      OblsR.p (fun A' R' w' ho hd => of_move ((ho.old 7 rfl).trans h7)) <|
      OblsR.cons (OblR.tookS 1 _ _ rfl rfl rfl rfl rfl fun A' R' w' ho hd u S hok hown hav hin hop hds => by have a0 : R' 32 = (Enc.val E_impl_RuleSet h33) := hd.g 0 rfl; have a1 : R' 33 = .int .i64 (1 : Int) := hd.g 1 rfl; have e0 := (hin _ rfl).1; rw [e0] at hown ⊢; have hu0 : evalR R' (.tmp 32) = (Enc.val E_impl_RuleSet h33) := a0; exact took_callT Try.call48 (((tr_root hown.2).ptr).pinS (hown.2.2 _ (.head _)) l_h33) hav hown.1 (fun k hk => Nat.le_trans (Nat.le_trans hF.size ho.ch.size) hk) (fun k hk => SP.lt _ hown.2 hk) (fun S1 hS1 hP => by simp only [List.map, hu0]; exact M_laws_markRuleSet_ok (q36 rfl) (ho.av.subS _) (fun b o h => h.2) hP a1) (fun _ _ _ h => h)) <|
      OblsR.p (fun A' R' w' ho hd => by have a0 : R' 34 = .int .i64 x35.1 := hd.g 0 rfl; exact of_assign a0) <|
      OblsR.nil
    intro done ρ σ A R w hdn hI
    replace h1 : R 1 = (.pointer (some ⟨b1_0, 0, none⟩)) := (hI.reg rfl).trans h1
    replace h4 : R 4 = u9 := (hI.reg rfl).trans h4
    replace h6 : R 6 = u22 := (hI.reg rfl).trans h6
    have z37 := hI.inivR 0 rfl
    have z38 := hI.inivR 1 rfl
    have z39 := (hI.opnR hdn 5 2 rfl rfl rfl rfl rfl).trans z38
    have z40 := hI.inivR 2 rfl
    obtain ⟨S41, eS_u13⟩ : ∃ S, σ 5 = S := ⟨_, rfl⟩
    have h7 : R 7 = .int .i64 x35.1 := hI.fact hdn (i := 3) rfl rfl rfl
    replace f_u9 := f_u9.stp hI.stp
    replace hAA := hI.low' hAA hA0 (hO.ge (⟨rfl, ⟨fun _ h => h, ⟨rfl, trivial⟩⟩⟩))
    replace hF : Fr w0 w := hF.tr hI.ch (hO.ge (⟨rfl, ⟨fun _ h => h, ⟨rfl, trivial⟩⟩⟩))
    replace hO : IniOK [ob (.pointer (some ⟨b1_0, 0, none⟩)) (.box w0.heap.size 57 E_laws_RuleSet p0), ob u22 (.vec w0.heap.size 85 E_impl_Test x18)] A w := hI.left hdn [(0, ob (.pointer (some ⟨b1_0, 0, none⟩)) (.box w0.heap.size 57 E_laws_RuleSet p0)), (2, ob u22 (.vec w0.heap.size 85 E_impl_Test x18))] ⟨rfl, rfl, z37, rfl, rfl, ⟨rfl, rfl, z40, rfl, rfl, trivial⟩⟩
    replace hA := hI.avok
    clear hI
    refine HT.seq ?_
    refine HT.seq ?_
    obtain ⟨x42, q43, hr⟩ := cl_some hr
    obtain ⟨x44, q45, hr⟩ := bd_some hr
    refine HT.text (l := ⟨_, true, .raw (.int .i64 x35.1)⟩ :: ⟨_, true, .raw (.bool (decide (x35.1 < (0 : Int))))⟩ :: ⟨_, true, .raw (.bool (decide (x35.1 < (0 : Int))))⟩ :: ⟨_, (true && ((decide (x35.1 < (0 : Int))) == false)), .raw u22⟩ :: ⟨_, (true && ((decide (x35.1 < (0 : Int))) == false)), .raw u9⟩ :: ⟨_, (true && ((decide (x35.1 < (0 : Int))) == false)), .raw (.bool x42)⟩ :: ⟨_, (true && ((decide (x35.1 < (0 : Int))) == false)), .raw (.bool (!x42))⟩ :: ⟨_, true, .raw (.bool x44)⟩ :: []) (tl := []) (by kernel_rfl) (by kernel_rfl) (by kernel_rfl) ?_ ?_
    ·exact
      Obls.p (fun R' w' hw hs hd => of_move ((hs 7 rfl).trans h7)) <|
      Obls.p (fun R' w' hw hs hd => by have a0 : R' 35 = .int .i64 x35.1 := hd.g 0 rfl; exact of_lss a0 rfl) <|
      Obls.p (fun R' w' hw hs hd => by have a0 : R' 36 = .bool (decide (x35.1 < (0 : Int))) := hd.g 0 rfl; exact of_move a0) <|
      Obls.cons (Obl.grd 2 false _ _ _ rfl rfl rfl rfl rfl (by kernel_rfl) fun hg R' w' hw hs hd => by have a0 : R' 6 = u22 := (hs 6 rfl).trans h6; exact of_move a0) <|
      Obls.cons (Obl.grd 2 false _ _ _ rfl rfl rfl rfl rfl (by kernel_rfl) fun hg R' w' hw hs hd => by have a0 : R' 4 = u9 := (hs 4 rfl).trans h4; exact of_move a0) <|
      Obls.cons (Obl.grd 2 false _ _ _ rfl rfl rfl rfl rfl (by kernel_rfl) fun hg R' w' hw hs hd => by have a0 : R' 38 = u22 := hd 0 _ _ _ rfl rfl rfl rfl hg; have ra0 := (vec_rep ((hO.fr hw).ok 1 _ rfl).1 hAA hA0).eq a0; have a1 : R' 39 = u9 := hd 1 _ _ _ rfl rfl rfl rfl hg; have ra1 := (f_u9.fr hw).eq a1; exact of_call Try.call47 (M_laws_eqTestS_ok (q43 hg) (hA00.fr ((Nat.le_trans hF.size hw.size))) ra0 (ra1.down hAA))) <|
      Obls.cons (Obl.grd 2 false _ _ _ rfl rfl rfl rfl rfl (by kernel_rfl) fun hg R' w' hw hs hd => by have a0 : R' 40 = .bool x42 := hd 0 _ _ _ rfl rfl rfl rfl hg; exact of_not a0) <|
      Obls.p (fun R' w' hw hs hd => by have a0 : R' 37 = .bool (decide (x35.1 < (0 : Int))) := hd.g 0 rfl; exact of_pick (decide (x35.1 < (0 : Int))) a0 (fun hc => by show _ = Value.bool x44; rw [q45, hc]; exact rfl) (fun hc => by have a2 : R' 41 = .bool (!x42) := hd 1 _ _ _ rfl rfl rfl rfl (g_and rfl (beq_of hc)); show _ = Value.bool x44; rw [q45, hc]; exact a2)) <|
      Obls.nil
    intro R w hw hs hF'
    replace h1 := (hs 1 rfl).trans h1
    replace h4 := (hs 4 rfl).trans h4
    replace h6 := (hs 6 rfl).trans h6
    have h42 : R 42 = .bool x44 := hF' 7 _ _ rfl rfl rfl
    replace f_u9 := f_u9.fr hw
    replace hO := hO.fr hw
    replace hA := hA.fr hw.size
    replace hF := hF.trans hw
    clear hs hF' hw
    refine seqR_nil ?_
    refine HT.cond x44 h42 (fun c46 => ?_) (fun c46 => ?_)
    ·have hr := cnd_t c46 hr
     refine HT.seq ?_
     refine HT.text (l := ⟨_, true, .raw (.bool false)⟩ :: []) (tl := []) (by kernel_rfl) (by kernel_rfl) (by kernel_rfl) ?_ ?_
     ·exact
       Obls.p (fun R' w' hw hs hd => of_assign rfl) <|
       Obls.nil
     intro R w hw hs hF'
     have h2 : R 2 = .bool false := hF' 0 _ _ rfl rfl rfl
     replace hO := hO.fr hw
     replace hO : IniOK [] A w := hO.sub [] trivial
     replace hA := hA.fr hw.size
     replace hF := hF.trans hw
     clear hs hF' hw
     refine seqR_nil ?_
     refine HT.ret ?_
     obtain rfl := Option.some.inj hr
     exact ⟨.inr rfl, [R 2], ⟨rfl, trivial⟩, h2, hF⟩
    ·have hr := cnd_f c46 hr
     refine HT.skip ?_
     refine HT.seq ?_
     refine HT.text (l := ⟨_, true, .raw (.int .i64 (1 : Int))⟩ :: []) (tl := []) (by kernel_rfl) (by kernel_rfl) (by kernel_rfl) ?_ ?_
     ·exact
       Obls.p (fun R' w' hw hs hd => of_assign rfl) <|
       Obls.nil
     intro R w hw hs hF'
     replace h1 := (hs 1 rfl).trans h1
     replace h4 := (hs 4 rfl).trans h4
     replace h6 := (hs 6 rfl).trans h6
     have h8 : R 8 = .int .i64 (1 : Int) := hF' 0 _ _ rfl rfl rfl
     replace f_u9 := f_u9.fr hw
     replace hO := hO.fr hw
     replace hA := hA.fr hw.size
     replace hF := hF.trans hw
     clear hs hF' hw
     refine seqR_nil ?_
     refine HT.seq ?_
     obtain ⟨x47, q48, hr⟩ := cl_some hr
     refine HT.textR [ob (.pointer (some ⟨b1_0, 0, none⟩)) (.box w0.heap.size 57 E_laws_RuleSet p0), ob u22 (.vec w0.heap.size 85 E_impl_Test x18)] (⟨_, true, [], none, true, fun A => .raw u22⟩ :: ⟨_, true, [], none, true, fun A => .raw (.int .i64 (1 : Int))⟩ :: ⟨_, true, [1], some (.vec w0.heap.size 85 E_impl_Test x47.2), false, fun A => .raw (.int .i64 x47.1)⟩ :: ⟨_, true, [], none, true, fun A => .raw (.int .i64 x47.1)⟩ :: []) (by kernel_rfl) (by kernel_rfl) (Wf.mk' (by kernel_rfl) (UAll.cons ust_raw (UAll.cons ust_raw (UAll.cons ust_raw (UAll.cons ust_raw (UAll.nil))))) (by kernel_rfl) (by kernel_rfl)) hO hA ?_ ?_
     ·exact
       OblsR.p (fun A' R' w' ho hd => of_move ((ho.old 6 rfl).trans h6)) <|
       OblsR.p (fun A' R' w' ho hd => of_move ((ho.old 8 rfl).trans h8)) <|
       OblsR.cons (OblR.took 1 _ _ rfl rfl rfl rfl rfl fun A' R' w' ho hd u hok hav hin hop hds => by have a0 : R' 43 = u22 := hd.g 0 rfl; have a1 : R' 44 = .int .i64 (1 : Int) := hd.g 1 rfl; have hu0 : evalR R' (.tmp 43) = u := a0.trans (hin _ rfl).symm; exact took_call Try.call49 hav (fun _ _ _ _ _ h => h) (by simp only [List.map, hu0]; exact Calls.mono (M_laws_markTestS_ok (q48 rfl) (ho.av.sub _) (fun b o h => h.2) (Vec.flat hok (fun _ _ _ _ _ h => h)) a1) (fun _ _ ⟨v, h1, h2, h3, h4⟩ => ⟨v, h1, h2, h3, h4⟩))) <|
       OblsR.p (fun A' R' w' ho hd => by have a0 : R' 45 = .int .i64 x47.1 := hd.g 0 rfl; exact of_assign a0) <|
       OblsR.nil
     intro done ρ σ A R w hdn hI
     replace h1 : R 1 = (.pointer (some ⟨b1_0, 0, none⟩)) := (hI.reg rfl).trans h1
     replace h4 : R 4 = u9 := (hI.reg rfl).trans h4
     replace h6 : R 6 = u22 := (hI.reg rfl).trans h6
     have z49 := hI.inivR 0 rfl
     have z50 := hI.inivR 1 rfl
     have z51 := (hI.opnR hdn 4 2 rfl rfl rfl rfl rfl).trans z50
     have h8 : R 8 = .int .i64 x47.1 := hI.fact hdn (i := 3) rfl rfl rfl
     replace f_u9 := f_u9.stp hI.stp
     replace hAA := hI.low' hAA hA0 (hO.ge (⟨rfl, ⟨rfl, trivial⟩⟩))
     replace hF : Fr w0 w := hF.tr hI.ch (hO.ge (⟨rfl, ⟨rfl, trivial⟩⟩))
     replace hO : IniOK [ob (.pointer (some ⟨b1_0, 0, none⟩)) (.box w0.heap.size 57 E_laws_RuleSet p0), ob u22 (.vec w0.heap.size 85 E_impl_Test x47.2)] A w := hI.left hdn [(0, ob (.pointer (some ⟨b1_0, 0, none⟩)) (.box w0.heap.size 57 E_laws_RuleSet p0)), (4, ob u22 (.vec w0.heap.size 85 E_impl_Test x47.2))] ⟨rfl, rfl, z49, rfl, rfl, ⟨rfl, rfl, z51, rfl, rfl, trivial⟩⟩
     replace hA := hI.avok
     clear hI
     refine HT.seq ?_
     refine HT.text (l := ⟨_, true, .raw (.int .i64 (1 : Int))⟩ :: []) (tl := []) (by kernel_rfl) (by kernel_rfl) (by kernel_rfl) ?_ ?_
     ·exact
       Obls.p (fun R' w' hw hs hd => of_assign rfl) <|
       Obls.nil
     intro R w hw hs hF'
     replace h1 := (hs 1 rfl).trans h1
     replace h4 := (hs 4 rfl).trans h4
     replace h6 := (hs 6 rfl).trans h6
     replace h8 := (hs 8 rfl).trans h8
     have h9 : R 9 = .int .i64 (1 : Int) := hF' 0 _ _ rfl rfl rfl
     replace f_u9 := f_u9.fr hw
     replace hO := hO.fr hw
     replace hA := hA.fr hw.size
     replace hF := hF.trans hw
     clear hs hF' hw
     refine seqR_nil ?_
     refine HT.seq ?_
     obtain ⟨x52, q53, hr⟩ := cl_some hr
     refine HT.text (l := ⟨_, true, .raw u22⟩ :: ⟨_, true, .raw (.int .i64 (1 : Int))⟩ :: ⟨_, true, .raw (.int .i64 x52)⟩ :: ⟨_, true, .raw (.int .i64 x52)⟩ :: []) (tl := []) (by kernel_rfl) (by kernel_rfl) (by kernel_rfl) ?_ ?_
     ·exact
       Obls.p (fun R' w' hw hs hd => of_move ((hs 6 rfl).trans h6)) <|
       Obls.p (fun R' w' hw hs hd => of_move ((hs 9 rfl).trans h9)) <|
       Obls.p (fun R' w' hw hs hd => by have a0 : R' 46 = u22 := hd.g 0 rfl; have ra0 := (vec_rep ((hO.fr hw).ok 1 _ rfl).1 hAA hA0).eq a0; have a1 : R' 47 = .int .i64 (1 : Int) := hd.g 1 rfl; exact of_call Try.call50 (M_laws_heldTestS_ok (q53 rfl) (hA00.fr ((Nat.le_trans hF.size hw.size))) ra0 a1)) <|
       Obls.p (fun R' w' hw hs hd => by have a0 : R' 48 = .int .i64 x52 := hd.g 0 rfl; exact of_assign a0) <|
       Obls.nil
     intro R w hw hs hF'
     replace h1 := (hs 1 rfl).trans h1
     replace h4 := (hs 4 rfl).trans h4
     replace h6 := (hs 6 rfl).trans h6
     replace h8 := (hs 8 rfl).trans h8
     have h9 : R 9 = .int .i64 x52 := hF' 3 _ _ rfl rfl rfl
     replace f_u9 := f_u9.fr hw
     replace hO := hO.fr hw
     replace hA := hA.fr hw.size
     replace hF := hF.trans hw
     clear hs hF' hw
     refine seqR_nil ?_
     refine HT.seq ?_
     refine HT.seq ?_
     refine HT.text (l := ⟨_, true, .raw (.int .i64 x52)⟩ :: ⟨_, true, .raw (.bool (decide (x52 < (0 : Int))))⟩ :: []) (tl := []) (by kernel_rfl) (by kernel_rfl) (by kernel_rfl) ?_ ?_
     ·exact
       Obls.p (fun R' w' hw hs hd => of_move ((hs 9 rfl).trans h9)) <|
       Obls.p (fun R' w' hw hs hd => by have a0 : R' 49 = .int .i64 x52 := hd.g 0 rfl; exact of_lss a0 rfl) <|
       Obls.nil
     intro R w hw hs hF'
     replace h1 := (hs 1 rfl).trans h1
     replace h4 := (hs 4 rfl).trans h4
     replace h6 := (hs 6 rfl).trans h6
     replace h8 := (hs 8 rfl).trans h8
     replace h9 := (hs 9 rfl).trans h9
     have h50 : R 50 = .bool (decide (x52 < (0 : Int))) := hF' 1 _ _ rfl rfl rfl
     replace f_u9 := f_u9.fr hw
     replace hO := hO.fr hw
     replace hA := hA.fr hw.size
     replace hF := hF.trans hw
     clear hs hF' hw
     refine seqR_nil ?_
     refine HT.cond (decide (x52 < (0 : Int))) h50 (fun c54 => ?_) (fun c54 => ?_)
     ·have hr := cnd_t c54 hr
      refine HT.seq ?_
      refine HT.text (l := ⟨_, true, .raw (.bool false)⟩ :: []) (tl := []) (by kernel_rfl) (by kernel_rfl) (by kernel_rfl) ?_ ?_
      ·exact
        Obls.p (fun R' w' hw hs hd => of_assign rfl) <|
        Obls.nil
      intro R w hw hs hF'
      have h2 : R 2 = .bool false := hF' 0 _ _ rfl rfl rfl
      replace hO := hO.fr hw
      replace hO : IniOK [] A w := hO.sub [] trivial
      replace hA := hA.fr hw.size
      replace hF := hF.trans hw
      clear hs hF' hw
      refine seqR_nil ?_
      refine HT.ret ?_
      obtain rfl := Option.some.inj hr
      exact ⟨.inr rfl, [R 2], ⟨rfl, trivial⟩, h2, hF⟩
     ·have hr := cnd_f c54 hr
      refine HT.skip ?_
      refine HT.seq ?_
      refine HT.seq ?_
      refine HT.text (l := ⟨_, true, .raw (.int .i64 x52)⟩ :: ⟨_, true, .raw (.int .i64 x47.1)⟩ :: ⟨_, true, .raw (.bool (x52 != x47.1))⟩ :: []) (tl := []) (by kernel_rfl) (by kernel_rfl) (by kernel_rfl) ?_ ?_
      ·exact
        Obls.p (fun R' w' hw hs hd => of_move ((hs 9 rfl).trans h9)) <|
        Obls.p (fun R' w' hw hs hd => of_move ((hs 8 rfl).trans h8)) <|
        Obls.p (fun R' w' hw hs hd => by have a0 : R' 51 = .int .i64 x52 := hd.g 0 rfl; have a1 : R' 52 = .int .i64 x47.1 := hd.g 1 rfl; exact of_neq a0 a1) <|
        Obls.nil
      intro R w hw hs hF'
      replace h1 := (hs 1 rfl).trans h1
      replace h4 := (hs 4 rfl).trans h4
      replace h6 := (hs 6 rfl).trans h6
      replace h8 := (hs 8 rfl).trans h8
      have h53 : R 53 = .bool (x52 != x47.1) := hF' 2 _ _ rfl rfl rfl
      replace f_u9 := f_u9.fr hw
      replace hO := hO.fr hw
      replace hA := hA.fr hw.size
      replace hF := hF.trans hw
      clear hs hF' hw
      refine seqR_nil ?_
      refine HT.cond (x52 != x47.1) h53 (fun c55 => ?_) (fun c55 => ?_)
      ·have hr := cnd_t c55 hr
       refine HT.seq ?_
       refine HT.text (l := ⟨_, true, .raw (.bool false)⟩ :: []) (tl := []) (by kernel_rfl) (by kernel_rfl) (by kernel_rfl) ?_ ?_
       ·exact
         Obls.p (fun R' w' hw hs hd => of_assign rfl) <|
         Obls.nil
       intro R w hw hs hF'
       have h2 : R 2 = .bool false := hF' 0 _ _ rfl rfl rfl
       replace hO := hO.fr hw
       replace hO : IniOK [] A w := hO.sub [] trivial
       replace hA := hA.fr hw.size
       replace hF := hF.trans hw
       clear hs hF' hw
       refine seqR_nil ?_
       refine HT.ret ?_
       obtain rfl := Option.some.inj hr
       exact ⟨.inr rfl, [R 2], ⟨rfl, trivial⟩, h2, hF⟩
      ·have hr := cnd_f c55 hr
       refine HT.skip ?_
       refine HT.seq ?_
       obtain ⟨x56, q57, hr⟩ := cl_some hr
       obtain ⟨x58, q59, hr⟩ := cl_some hr
       refine HT.text (l := ⟨_, true, .rep E_laws_RuleSet A p0⟩ :: ⟨_, true, .rep E_impl_RuleSet A x56⟩ :: ⟨_, true, .rep (eSl E_impl_Test) A x58⟩ :: ⟨_, true, .rep (eSl E_impl_Test) A x58⟩ :: []) (tl := []) (by kernel_rfl) (by kernel_rfl) (by kernel_rfl) ?_ ?_
       ·exact
         Obls.p (fun R' w' hw hs hd => (of_load_box ((hO.fr hw).ok 0 _ rfl).1 ((hs 1 rfl).trans h1) (Fld.id _) rfl Try.isAgg57 Try.sizeOf57)) <|
         Obls.p (fun R' w' hw hs hd => by have a0 : Rep E_laws_RuleSet A w' (R' 54) p0 := hd.g 0 rfl; exact of_call Try.call34 (M_laws_toRuleSet_okR (q57 rfl) (hA.fr hw.size) a0)) <|
         Obls.p (fun R' w' hw hs hd => by have a0 : Rep E_impl_RuleSet A w' (R' 55) x56 := hd.g 0 rfl; exact of_call Try.call46 (M_impl_DiagramVariables_okR (q59 rfl) (hA.fr hw.size) a0)) <|
         Obls.p (fun R' w' hw hs hd => by have a0 : Rep (eSl E_impl_Test) A w' (R' 56) x58 := hd.g 0 rfl; exact of_assign a0) <|
         Obls.nil
       intro R w hw hs hF'
       replace h4 := (hs 4 rfl).trans h4
       replace h6 := (hs 6 rfl).trans h6
       replace h8 := (hs 8 rfl).trans h8
       obtain ⟨u60, h10, f_u60⟩ : ∃ u, R 10 = u ∧ Rep (eSl E_impl_Test) A w u x58 := ⟨_, rfl, hF' 3 _ _ rfl rfl rfl⟩
       replace f_u9 := f_u9.fr hw
       replace hO := hO.fr hw
       replace hO : IniOK [ob u22 (.vec w0.heap.size 85 E_impl_Test x47.2)] A w := hO.sub [(1, ob u22 (.vec w0.heap.size 85 E_impl_Test x47.2))] ⟨rfl, rfl, trivial⟩
       replace hA := hA.fr hw.size
       replace hF := hF.trans hw
       clear hs hF' hw
       refine seqR_nil ?_
       refine HT.seq ?_
       refine HT.seq ?_
       obtain ⟨x61, q62, hr⟩ := cl_some hr
       refine HT.text (l := ⟨_, true, .raw u60⟩ :: ⟨_, true, .raw u9⟩ :: ⟨_, true, .raw (.bool x61)⟩ :: ⟨_, true, .raw (.bool (!x61))⟩ :: []) (tl := []) (by kernel_rfl) (by kernel_rfl) (by kernel_rfl) ?_ ?_
       ·exact
         Obls.p (fun R' w' hw hs hd => of_move ((hs 10 rfl).trans h10)) <|
         Obls.p (fun R' w' hw hs hd => of_move ((hs 4 rfl).trans h4)) <|
         Obls.p (fun R' w' hw hs hd => by have a0 : R' 57 = u60 := hd.g 0 rfl; have ra0 := (f_u60.fr hw).eq a0; have a1 : R' 58 = u9 := hd.g 1 rfl; have ra1 := (f_u9.fr hw).eq a1; exact of_call Try.call47 (M_laws_eqTestS_ok (q62 rfl) (hA.fr hw.size) ra0 ra1)) <|
         Obls.p (fun R' w' hw hs hd => by have a0 : R' 59 = .bool x61 := hd.g 0 rfl; exact of_not a0) <|
         Obls.nil
       intro R w hw hs hF'
       replace h6 := (hs 6 rfl).trans h6
       replace h8 := (hs 8 rfl).trans h8
       have h60 : R 60 = .bool (!x61) := hF' 3 _ _ rfl rfl rfl
       replace hO := hO.fr hw
       replace hA := hA.fr hw.size
       replace hF := hF.trans hw
       clear hs hF' hw
       refine seqR_nil ?_
       refine HT.cond (!x61) h60 (fun c63 => ?_) (fun c63 => ?_)
       ·have hr := cnd_t c63 hr
        refine HT.seq ?_
        refine HT.text (l := ⟨_, true, .raw (.bool false)⟩ :: []) (tl := []) (by kernel_rfl) (by kernel_rfl) (by kernel_rfl) ?_ ?_
        ·exact
          Obls.p (fun R' w' hw hs hd => of_assign rfl) <|
          Obls.nil
        intro R w hw hs hF'
        have h2 : R 2 = .bool false := hF' 0 _ _ rfl rfl rfl
        replace hO := hO.fr hw
        replace hO : IniOK [] A w := hO.sub [] trivial
        replace hA := hA.fr hw.size
        replace hF := hF.trans hw
        clear hs hF' hw
        refine seqR_nil ?_
        refine HT.ret ?_
        obtain rfl := Option.some.inj hr
        exact ⟨.inr rfl, [R 2], ⟨rfl, trivial⟩, h2, hF⟩
       ·have hr := cnd_f c63 hr
        refine HT.skip ?_
        refine HT.seq ?_
        refine HT.text (l := ⟨_, true, .raw (.int .i64 (1 : Int))⟩ :: []) (tl := []) (by kernel_rfl) (by kernel_rfl) (by kernel_rfl) ?_ ?_
        ·exact
          Obls.p (fun R' w' hw hs hd => of_assign rfl) <|
          Obls.nil
        intro R w hw hs hF'
        replace h6 := (hs 6 rfl).trans h6
        replace h8 := (hs 8 rfl).trans h8
        have h9 : R 9 = .int .i64 (1 : Int) := hF' 0 _ _ rfl rfl rfl
        replace hO := hO.fr hw
        replace hA := hA.fr hw.size
        replace hF := hF.trans hw
        clear hs hF' hw
        refine seqR_nil ?_
        refine HT.seq ?_
        obtain ⟨x64, q65, hr⟩ := cl_some hr
        refine HT.text (l := ⟨_, true, .raw u22⟩ :: ⟨_, true, .raw (.int .i64 (1 : Int))⟩ :: ⟨_, true, .raw (.int .i64 x64)⟩ :: ⟨_, true, .raw (.int .i64 x64)⟩ :: []) (tl := []) (by kernel_rfl) (by kernel_rfl) (by kernel_rfl) ?_ ?_
        ·exact
          Obls.p (fun R' w' hw hs hd => of_move ((hs 6 rfl).trans h6)) <|
          Obls.p (fun R' w' hw hs hd => of_move ((hs 9 rfl).trans h9)) <|
          Obls.p (fun R' w' hw hs hd => by have a0 : R' 61 = u22 := hd.g 0 rfl; have ra0 := (vec_rep ((hO.fr hw).ok 0 _ rfl).1 hAA hA0).eq a0; have a1 : R' 62 = .int .i64 (1 : Int) := hd.g 1 rfl; exact of_call Try.call50 (M_laws_heldTestS_ok (q65 rfl) (hA00.fr ((Nat.le_trans hF.size hw.size))) ra0 a1)) <|
          Obls.p (fun R' w' hw hs hd => by have a0 : R' 63 = .int .i64 x64 := hd.g 0 rfl; exact of_assign a0) <|
          Obls.nil
        intro R w hw hs hF'
        replace h8 := (hs 8 rfl).trans h8
        have h9 : R 9 = .int .i64 x64 := hF' 3 _ _ rfl rfl rfl
        replace hO := hO.fr hw
        replace hO : IniOK [] A w := hO.sub [] trivial
        replace hA := hA.fr hw.size
        replace hF := hF.trans hw
        clear hs hF' hw
        refine seqR_nil ?_
        refine HT.seq ?_
        refine HT.seq ?_
        refine HT.text (l := ⟨_, true, .raw (.int .i64 x64)⟩ :: ⟨_, true, .raw (.bool (decide (x64 < (0 : Int))))⟩ :: []) (tl := []) (by kernel_rfl) (by kernel_rfl) (by kernel_rfl) ?_ ?_
        ·exact
          Obls.p (fun R' w' hw hs hd => of_move ((hs 9 rfl).trans h9)) <|
          Obls.p (fun R' w' hw hs hd => by have a0 : R' 64 = .int .i64 x64 := hd.g 0 rfl; exact of_lss a0 rfl) <|
          Obls.nil
        intro R w hw hs hF'
        replace h8 := (hs 8 rfl).trans h8
        replace h9 := (hs 9 rfl).trans h9
        have h65 : R 65 = .bool (decide (x64 < (0 : Int))) := hF' 1 _ _ rfl rfl rfl
        replace hO := hO.fr hw
        replace hA := hA.fr hw.size
        replace hF := hF.trans hw
        clear hs hF' hw
        refine seqR_nil ?_
        refine HT.cond (decide (x64 < (0 : Int))) h65 (fun c66 => ?_) (fun c66 => ?_)
        ·have hr := cnd_t c66 hr
         refine HT.seq ?_
         refine HT.text (l := ⟨_, true, .raw (.bool false)⟩ :: []) (tl := []) (by kernel_rfl) (by kernel_rfl) (by kernel_rfl) ?_ ?_
         ·exact
           Obls.p (fun R' w' hw hs hd => of_assign rfl) <|
           Obls.nil
         intro R w hw hs hF'
         have h2 : R 2 = .bool false := hF' 0 _ _ rfl rfl rfl
         replace hO := hO.fr hw
         replace hA := hA.fr hw.size
         replace hF := hF.trans hw
         clear hs hF' hw
         refine seqR_nil ?_
         refine HT.ret ?_
         obtain rfl := Option.some.inj hr
         exact ⟨.inr rfl, [R 2], ⟨rfl, trivial⟩, h2, hF⟩
        ·have hr := cnd_f c66 hr
         refine HT.skip ?_
         refine HT.seq ?_
         refine HT.seq ?_
         refine HT.text (l := ⟨_, true, .raw (.int .i64 x64)⟩ :: ⟨_, true, .raw (.int .i64 x47.1)⟩ :: ⟨_, true, .raw (.bool (x64 != x47.1))⟩ :: []) (tl := []) (by kernel_rfl) (by kernel_rfl) (by kernel_rfl) ?_ ?_
         ·exact
           Obls.p (fun R' w' hw hs hd => of_move ((hs 9 rfl).trans h9)) <|
           Obls.p (fun R' w' hw hs hd => of_move ((hs 8 rfl).trans h8)) <|
           Obls.p (fun R' w' hw hs hd => by have a0 : R' 66 = .int .i64 x64 := hd.g 0 rfl; have a1 : R' 67 = .int .i64 x47.1 := hd.g 1 rfl; exact of_neq a0 a1) <|
           Obls.nil
         intro R w hw hs hF'
         have h68 : R 68 = .bool (x64 != x47.1) := hF' 2 _ _ rfl rfl rfl
         replace hO := hO.fr hw
         replace hA := hA.fr hw.size
         replace hF := hF.trans hw
         clear hs hF' hw
         refine seqR_nil ?_
         refine HT.cond (x64 != x47.1) h68 (fun c67 => ?_) (fun c67 => ?_)
         ·have hr := cnd_t c67 hr
          refine HT.seq ?_
          refine HT.text (l := ⟨_, true, .raw (.bool false)⟩ :: []) (tl := []) (by kernel_rfl) (by kernel_rfl) (by kernel_rfl) ?_ ?_
          ·exact
            Obls.p (fun R' w' hw hs hd => of_assign rfl) <|
            Obls.nil
          intro R w hw hs hF'
          have h2 : R 2 = .bool false := hF' 0 _ _ rfl rfl rfl
          replace hO := hO.fr hw
          replace hA := hA.fr hw.size
          replace hF := hF.trans hw
          clear hs hF' hw
          refine seqR_nil ?_
          refine HT.ret ?_
          obtain rfl := Option.some.inj hr
          exact ⟨.inr rfl, [R 2], ⟨rfl, trivial⟩, h2, hF⟩
         ·have hr := cnd_f c67 hr
          refine HT.skip ?_
          refine HT.seq ?_
          refine HT.text (l := ⟨_, true, .raw (.bool true)⟩ :: []) (tl := []) (by kernel_rfl) (by kernel_rfl) (by kernel_rfl) ?_ ?_
          ·exact
            Obls.p (fun R' w' hw hs hd => of_assign rfl) <|
            Obls.nil
          intro R w hw hs hF'
          have h2 : R 2 = .bool true := hF' 0 _ _ rfl rfl rfl
          replace hO := hO.fr hw
          replace hA := hA.fr hw.size
          replace hF := hF.trans hw
          clear hs hF' hw
          refine seqR_nil ?_
          refine HT.ret ?_
          obtain rfl := Option.some.inj hr
          exact ⟨.inr rfl, [R 2], ⟨rfl, trivial⟩, h2, hF⟩
end Go.Proofs.Ytjfhlhhobpdneaa
