/- Printed by dec.py: plain functions and the proofs that the code computes them. No statement of the seat is proved here. -/
import Derived.Test.YtmkgocdgkdglnaaA4
namespace Go.Proofs.Ytmkgocdgkdglnaa
open Go.RowKit
set_option linter.unusedVariables false
def M_laws_markRuleSet (fu : Nat) (p0 : T_impl_RuleSet) (p1 : Int) : Option (Int × T_impl_RuleSet) :=
  cl true (M_laws_markRuleS fu p0 p1) fun x5 =>
  some (x5.1, x5.2)
set_option maxRecDepth 100000 in
set_option maxHeartbeats 4000000 in
theorem M_laws_markRuleSet_ok {fu : Nat} {A0 : Av} {p0 : T_impl_RuleSet} {p1 : Int} {r : Int × T_impl_RuleSet} (hr : M_laws_markRuleSet fu p0 p1 = some r) {w : World} {v0 : Value} {v1 : Value} {S0 : Nat → Prop} (hA : AvOK A0 w) (hN : ∀ b o, A0 b o → ¬ S0 b) (h0 : (trP (oBx (oSl 79 (oBx (oSl 82 (oRd E_impl_Test))))) p0 []).P (addS A0 S0) w S0 v0) (h1 : v1 = .int .i64 p1) :
    Calls Try.prog 15 #[v0, v1] w fun e w' => ∃ v, e = .returned v ∧ (v = .int .i64 r.1 ∧ Gave (oBx (oSl 79 (oBx (oSl 82 (oRd E_impl_Test))))) A0 S0 w v0 r.2 w') := by
  unfold M_laws_markRuleSet at hr
  obtain ⟨w0, hw0⟩ : ∃ w0, w0 = w := ⟨_, rfl⟩
  have hF : Ch S0 w0 w := hw0 ▸ Ch.refl _ _
  have hA0 : ∀ b o, A0 b o → b < w0.heap.size := fun b o h => hw0 ▸ hA b o h
  have hA00 : AvOK A0 w0 := hA0
  rw [show Gave (oBx (oSl 79 (oBx (oSl 82 (oRd E_impl_Test))))) A0 S0 w = Gave (oBx (oSl 79 (oBx (oSl 82 (oRd E_impl_Test))))) A0 S0 w0 from hw0 ▸ rfl]
  have hw0s : w.heap.size = w0.heap.size := hw0 ▸ rfl
  obtain ⟨cs_0, ecs_0, lcs_0, ocs_0⟩ := tr_cells h0
  clear hw0
  have hO := IniOK.oneT h0
  have hA1 := hA.oneT h0
  rw [show w.heap.size = w0.heap.size from hw0s] at hO
  obtain ⟨A, hAe⟩ : ∃ A, A = addS A0 S0 := ⟨_, rfl⟩
  have hAA : ∀ b o, A0 b o → A b o := fun b o h => hAe ▸ .inl h
  replace hA : AvOK A w := hAe ▸ hA1
  replace hO : IniOK [⟨v0, S0, trR (fun k => w0.heap.size ≤ k ∨ S0 k) (oBx (oSl 79 (oBx (oSl 82 (oRd E_impl_Test))))) p0 []⟩] A w := hAe ▸ hO
  refine calls_of_HT2 [.tmp 4] Try.func15 Try.ntmps15 (by decide) rfl rfl (Nat.le_of_ble_eq_true rfl) ?_
  intro R hR
  replace h0 : R 0 = v0 := hR 0 _ rfl
  replace h1 : R 1 = .int .i64 p1 := (hR 1 _ rfl).trans h1
  clear hR hAe
  refine HT.seq ?_
  refine HT.textR [⟨v0, S0, trR (fun k => w0.heap.size ≤ k ∨ S0 k) (oBx (oSl 79 (oBx (oSl 82 (oRd E_impl_Test))))) p0 []⟩] (⟨_, true, [0], some (.gen (fun k => w0.heap.size ≤ k ∨ S0 k) (trB 29 (oBx (oSl 79 (oBx (oSl 82 (oRd E_impl_Test))))) p0 cs_0)), true, fun A => .any⟩ :: ⟨_, true, [], none, true, fun A => .raw (.int .i64 (0 : Int))⟩ :: []) (by kernel_rfl) (by kernel_rfl) (Wf.mk' (by kernel_rfl) (UAll.cons ust_any (UAll.cons ust_raw (UAll.nil))) (by kernel_rfl) (by kernel_rfl)) hO hA ?_ ?_
  · exact
      OblsR.cons (OblR.tookS 0 _ _ rfl rfl rfl rfl rfl fun A' R' w' ho hd u S hok hown hav hin hop hds => by have a0 : R' 0 = v0 := (ho.old 0 rfl).trans h0; have e0 := (hin _ rfl).1; rw [e0] at hown ⊢; exact took_boxB hown.2 ecs_0 lcs_0 ocs_0 a0 hav hown.1 (fun k hk => .inl (Nat.le_trans (Nat.le_trans hF.size ho.ch.size) hk))) <|
      OblsR.cons (OblR.plain rfl rfl rfl rfl fun A' R' w' ho hd => by exact of_assign rfl) <|
      OblsR.nil
  intro done ρ σ A R w hdn hI
  replace h1 : R 1 = .int .i64 p1 := (hI.reg rfl).trans h1
  obtain ⟨u1, e_u1⟩ : ∃ u, ρ 1 = u := ⟨_, rfl⟩
  have h2 : R 2 = u1 := (hI.opvR hdn 1 0 rfl rfl rfl rfl rfl).symm.trans e_u1
  obtain ⟨S2, eS_u1⟩ : ∃ S, σ 1 = S := ⟨_, rfl⟩
  replace hAA := hI.lowK hAA hA0 hN (hO.geK (⟨fun _ h => h, trivial⟩))
  replace hF : Ch S0 w0 w := hF.tr hI.ch (hO.geK (⟨fun _ h => h, trivial⟩))
  replace hO : IniOK [⟨u1, S2, .gen (fun k => w0.heap.size ≤ k ∨ S0 k) (trB 29 (oBx (oSl 79 (oBx (oSl 82 (oRd E_impl_Test))))) p0 cs_0)⟩] A w := hI.left hdn [(1, ⟨u1, S2, .gen (fun k => w0.heap.size ≤ k ∨ S0 k) (trB 29 (oBx (oSl 79 (oBx (oSl 82 (oRd E_impl_Test))))) p0 cs_0)⟩)] ⟨rfl, rfl, e_u1, eS_u1, rfl, trivial⟩
  replace hA := hI.avok
  clear hI
  replace hO : IniOK [⟨u1, S2, trR (fun k => w0.heap.size ≤ k ∨ S0 k) (oPt 29 (oBx (oSl 79 (oBx (oSl 82 (oRd E_impl_Test)))))) p0 [(u1, cs_0)]⟩] A w := hO.repin 0 rfl (fun h => trP.pin h.2 h.1)
  refine HT.seq ?_
  obtain ⟨h3, p_h3⟩ := (((tr_root (hO.own 0 _ rfl).2).ptr).bx).open1 rfl
  replace hO : IniOK [⟨u1, S2, trR (fun k => w0.heap.size ≤ k ∨ S0 k) (oPt 29 (oBx (oSl 79 (oBx (oSl 82 (oRd E_impl_Test)))))) p0 [(u1, [h3]), (u1, cs_0)]⟩] A w := hO.repin 0 rfl (trP.pin p_h3)
  obtain ⟨x5, q6, hr⟩ := cl_some hr
  refine HT.textR [⟨u1, S2, trR (fun k => w0.heap.size ≤ k ∨ S0 k) (oPt 29 (oBx (oSl 79 (oBx (oSl 82 (oRd E_impl_Test)))))) p0 [(u1, [h3]), (u1, cs_0)]⟩] (⟨_, true, [], none, true, fun A => .raw u1⟩ :: ⟨_, true, [], none, true, fun A => .raw h3⟩ :: ⟨_, true, [], none, true, fun A => .raw (.int .i64 p1)⟩ :: ⟨_, true, [0], some (trR (fun k => w0.heap.size ≤ k ∨ S0 k) (oPt 29 (oBx (oSl 79 (oBx (oSl 82 (oRd E_impl_Test)))))) x5.2 [(u1, cs_0)]), false, fun A => .raw (.int .i64 x5.1)⟩ :: ⟨_, true, [], none, true, fun A => .raw (.int .i64 x5.1)⟩ :: []) (by kernel_rfl) (by kernel_rfl) (Wf.mk' (by kernel_rfl) (UAll.cons ust_raw (UAll.cons ust_raw (UAll.cons ust_raw (UAll.cons ust_raw (UAll.cons ust_raw (UAll.nil)))))) (by kernel_rfl) (by kernel_rfl)) hO hA ?_ ?_
  · exact
      OblsR.cons (OblR.plain rfl rfl rfl rfl fun A' R' w' ho hd => by have a0 : R' 2 = u1 := (ho.old 2 rfl).trans h2; exact of_fieldAddr_tr ((tr_root (hO.own 0 _ rfl).2).ptr).ad a0 ff_29_0 Try.sizeOf27 (by decide) (padd_zero ((tr_root (hO.own 0 _ rfl).2).ptr).ad)) <|
      OblsR.cons (OblR.plain rfl rfl rfl rfl fun A' R' w' ho hd => by have a0 : R' 5 = u1 := hd 0 _ _ _ rfl rfl rfl rfl rfl; exact of_load_pin ((ho.rdo 0 _ rfl rfl).2.2 _ (.head _)) a0 Try.isAgg27 Try.sizeOf27) <|
      OblsR.cons (OblR.plain rfl rfl rfl rfl fun A' R' w' ho hd => by have a0 : R' 1 = .int .i64 p1 := (ho.old 1 rfl).trans h1; exact of_move a0) <|
      OblsR.cons (OblR.tookS 0 _ _ rfl rfl rfl rfl rfl fun A' R' w' ho hd u S hok hown hav hin hop hds => by have a0 : R' 6 = h3 := hd 0 _ _ _ rfl rfl rfl rfl rfl; have a1 : R' 7 = .int .i64 p1 := hd 1 _ _ _ rfl rfl rfl rfl rfl; have e0 := (hin _ rfl).1; rw [e0] at hown ⊢; have hu0 : evalR R' (.tmp 6) = h3 := a0; exact took_callT Try.call41 ((((tr_root hown.2).ptr).bx).pinK (hown.2.2 _ (.head _)) rfl (hown.2.2 _ (.tail _ (.head _))) (same_blk0 (tr_root hown.2).ptr.ad)) hav hown.1 (fun k hk => .inl (Nat.le_trans (Nat.le_trans hF.size ho.ch.size) hk)) (fun k hk => SP.lt _ hown.2 hk) (fun S1 hS1 hP => by simp only [List.map, hu0]; exact M_laws_markRuleS_ok (q6 rfl) (ho.av.subS _) (fun b o h => h.2) hP a1) (fun _ _ _ h => trP.pin h.2 h.1)) <|
      OblsR.cons (OblR.plain rfl rfl rfl rfl fun A' R' w' ho hd => by have a0 : R' 8 = .int .i64 x5.1 := hd 0 _ _ _ rfl rfl rfl rfl rfl; exact of_assign a0) <|
      OblsR.nil
  intro done ρ σ A R w hdn hI
  have z7 := hI.inivR 0 rfl
  have z8 := (hI.opnR hdn 4 3 rfl rfl rfl rfl rfl).trans z7
  obtain ⟨S9, eS_u1⟩ : ∃ S, σ 4 = S := ⟨_, rfl⟩
  have h1 : R 1 = .int .i64 x5.1 := hI.fact hdn (i := 4) rfl rfl rfl
  replace hAA := hI.lowK hAA hA0 hN (hO.geK (⟨fun _ h => h, trivial⟩))
  replace hF : Ch S0 w0 w := hF.tr hI.ch (hO.geK (⟨fun _ h => h, trivial⟩))
  replace hO : IniOK [⟨u1, S9, trR (fun k => w0.heap.size ≤ k ∨ S0 k) (oPt 29 (oBx (oSl 79 (oBx (oSl 82 (oRd E_impl_Test)))))) x5.2 [(u1, cs_0)]⟩] A w := hI.left hdn [(4, ⟨u1, S9, trR (fun k => w0.heap.size ≤ k ∨ S0 k) (oPt 29 (oBx (oSl 79 (oBx (oSl 82 (oRd E_impl_Test)))))) x5.2 [(u1, cs_0)]⟩)] ⟨rfl, rfl, z8, eS_u1, rfl, trivial⟩
  replace hA := hI.avok
  clear hI
  refine HT.seq ?_
  refine HT.text (l := ⟨_, true, .raw (.int .i64 x5.1)⟩ :: ⟨_, true, .raw (.int .i64 x5.1)⟩ :: []) (tl := []) (by kernel_rfl) (by kernel_rfl) (by kernel_rfl) ?_ ?_
  · exact
      Obls.cons (Obl.plain rfl rfl fun R' w' hw hs hd => by have a0 : R' 1 = .int .i64 x5.1 := (hs 1 rfl).trans h1; exact of_move a0) <|
      Obls.cons (Obl.plain rfl rfl fun R' w' hw hs hd => by have a0 : R' 9 = .int .i64 x5.1 := hd 0 _ _ _ rfl rfl rfl rfl rfl; exact of_assign a0) <|
      Obls.nil
  intro R w hw hs hF'
  have h4 : R 4 = .int .i64 x5.1 := hF' 1 _ _ rfl rfl rfl
  replace hO := hO.fr hw
  replace hA := hA.fr hw.size
  replace hF := hF.tr (hw.ch noB) fun _ h => False.elim h
  clear hs hF' hw
  refine seqR_nil ?_
  refine HT.ret ?_
  obtain rfl := Option.some.inj hr
  exact ⟨.inr rfl, [R 4], ⟨rfl, trivial⟩, h4, gave_post_box rfl (hO.own 0 _ rfl) (hO.ok 0 _ rfl).2 hAA ecs_0 lcs_0 hF⟩
def M_laws_markIntS_L0 (fu : Nat) : Nat → Int → Int → (List Int) → Option (Int × (List Int))
  | 0, _, _, _ => none
  | k + 1, y4, y5, y6 =>
    bif (decide (y5 < (y6.length : Int))) then (
      ck (inR y5 y6.length) <|
      ck (i64B (y4 + (1 : Int))) <|
      ck (i64B (y5 + (1 : Int))) <|
      M_laws_markIntS_L0 fu k (y4 + (1 : Int)) (y5 + (1 : Int)) (y6.set y5.toNat y4)
    ) else (
      some (y4, y6)
    )
def M_laws_markIntS (fu : Nat) (p0 : List Int) (p1 : Int) : Option (Int × List Int) :=
  cl true (M_laws_markIntS_L0 fu fu p1 (0 : Int) p0) fun s3 =>
  some (s3.1, s3.2)
set_option maxRecDepth 100000 in
set_option maxHeartbeats 4000000 in
theorem M_laws_markIntS_ok {fu : Nat} {A0 : Av} {p0 : List Int} {p1 : Int} {r : Int × List Int} (hr : M_laws_markIntS fu p0 p1 = some r) {w : World} {v0 : Value} {v1 : Value} {B0 : Nat} (hA : AvOK A0 w) (hN : ∀ b o, A0 b o → ¬ ownsB v0 b) (h0 : (Res.vec B0 3 (eInt .i64) p0).ok A0 v0 w) (h1 : v1 = .int .i64 p1) :
    Calls Try.prog 16 #[v0, v1] w fun e w' => ∃ v, e = .returned v ∧ (v = .int .i64 r.1 ∧ (Res.vec B0 3 (eInt .i64) r.2).ok A0 v0 w' ∧ Ch (ownsB v0) w w') := by
  unfold M_laws_markIntS at hr
  obtain ⟨w0, hw0⟩ : ∃ w0, w0 = w := ⟨_, rfl⟩
  have hF : Ch (ownsB v0) w0 w := hw0 ▸ Ch.refl _ _
  have hA0 : ∀ b o, A0 b o → b < w0.heap.size := fun b o h => hw0 ▸ hA b o h
  have hA00 : AvOK A0 w0 := hA0
  rw [show Ch (ownsB v0) w = Ch (ownsB v0) w0 from hw0 ▸ rfl]
  clear hw0
  obtain ⟨A, hAe⟩ : ∃ A, A = addA A0 v0 := ⟨_, rfl⟩
  have hAA : ∀ b o, A0 b o → A b o := fun b o h => hAe ▸ .inl h
  replace hA : AvOK A w := hAe ▸ hA.one h0
  have hO : IniOK [ob v0 (.vec B0 3 (eInt .i64) p0)] A w := hAe ▸ IniOK.one h0 (fun _ _ _ _ _ h => h)
  refine calls_of_HT2 [.tmp 4] Try.func16 Try.ntmps16 (by decide) rfl rfl (Nat.le_of_ble_eq_true rfl) ?_
  intro R hR
  replace h0 : R 0 = v0 := hR 0 _ rfl
  replace h1 : R 1 = .int .i64 p1 := (hR 1 _ rfl).trans h1
  clear hR hAe
  refine HT.seq ?_
  refine HT.text (l := ⟨_, true, .raw (.int .i64 (0 : Int))⟩ :: []) (tl := []) (by kernel_rfl) (by kernel_rfl) (by kernel_rfl) ?_ ?_
  · exact
      Obls.cons (Obl.plain rfl rfl fun R' w' hw hs hd => by exact of_assign rfl) <|
      Obls.nil
  intro R w hw hs hF'
  replace h0 : R 0 = v0 := (hs 0 rfl).trans h0
  replace h1 : R 1 = .int .i64 p1 := (hs 1 rfl).trans h1
  replace hO := hO.fr hw
  replace hA := hA.fr hw.size
  replace hF := hF.tr (hw.ch noB) fun _ h => False.elim h
  clear hs hF' hw
  refine seqR_nil ?_
  refine HT.seq ?_
  refine HT.seq ?_
  refine HT.text (l := ⟨_, true, .raw (.int .i64 (0 : Int))⟩ :: []) (tl := []) (by kernel_rfl) (by kernel_rfl) (by kernel_rfl) ?_ ?_
  · exact
      Obls.cons (Obl.plain rfl rfl fun R' w' hw hs hd => by exact of_assign rfl) <|
      Obls.nil
  intro R w hw hs hF'
  replace h0 : R 0 = v0 := (hs 0 rfl).trans h0
  replace h1 : R 1 = .int .i64 p1 := (hs 1 rfl).trans h1
  have h5 : R 5 = .int .i64 (0 : Int) := hF' 0 _ _ rfl rfl rfl
  replace hO := hO.fr hw
  replace hA := hA.fr hw.size
  replace hF := hF.tr (hw.ch noB) fun _ h => False.elim h
  clear hs hF' hw
  refine seqR_nil ?_
  obtain ⟨rl1, q2, hr⟩ := cl_some hr
  replace q2 := q2 rfl
  refine HT.cut0 (fun R w => ∃ A : Av, ∃ (s3 : Int × (List Int)), rl1 = s3 ∧ AvOK A w ∧ Ch (ownsB v0) w0 w ∧ (∀ b o, A0 b o → A b o) ∧ IniOK [ob v0 (.vec B0 3 (eInt .i64) s3.2)] A w ∧ R 1 = .int .i64 s3.1) ?_ ?_
  · refine HT.block ?_
    refine HT.loop (fun k R w => ∃ A : Av, ∃ (y4 : Int) (y5 : Int) (y6 : List Int), M_laws_markIntS_L0 fu k y4 y5 y6 = some rl1 ∧ AvOK A w ∧ Ch (ownsB v0) w0 w ∧ (∀ b o, A0 b o → A b o) ∧ IniOK [ob v0 (.vec B0 3 (eInt .i64) y6)] A w ∧ R 0 = v0 ∧ R 1 = .int .i64 y4 ∧ R 5 = .int .i64 y5) fu ⟨_, _, _, _, q2, hA, hF, hAA, hO, h0, h1, h5⟩ ?_
    have hr0 := hr; clear hr q2
    rintro k R w ⟨A, y4, y5, y6, hr, hA, hF, hAA, hO, h0, h1, h5⟩
    rcases k with _ | k
    · cases (show none = some _ from hr)
    rw [M_laws_markIntS_L0] at hr
    refine HT.seq ?_
    refine HT.seq ?_
    refine HT.text (l := ⟨_, true, .raw (.int .i64 y5)⟩ :: ⟨_, true, .raw v0⟩ :: ⟨_, true, .raw (.int .i64 (y6.length : Int))⟩ :: ⟨_, true, .raw (.bool (decide (y5 < (y6.length : Int))))⟩ :: []) (tl := []) (by kernel_rfl) (by kernel_rfl) (by kernel_rfl) ?_ ?_
    · exact
        Obls.cons (Obl.plain rfl rfl fun R' w' hw hs hd => by have a0 : R' 5 = .int .i64 y5 := (hs 5 rfl).trans h5; exact of_move a0) <|
        Obls.cons (Obl.plain rfl rfl fun R' w' hw hs hd => by have a0 : R' 0 = v0 := (hs 0 rfl).trans h0; exact of_move a0) <|
        Obls.cons (Obl.plain rfl rfl fun R' w' hw hs hd => by have a0 : R' 7 = v0 := hd 0 _ _ _ rfl rfl rfl rfl rfl; exact of_len_vec (hO.ok 0 _ rfl).1 a0 Try.underlying33) <|
        Obls.cons (Obl.plain rfl rfl fun R' w' hw hs hd => by have a0 : R' 6 = .int .i64 y5 := hd 0 _ _ _ rfl rfl rfl rfl rfl; have a1 : R' 8 = .int .i64 (y6.length : Int) := hd 1 _ _ _ rfl rfl rfl rfl rfl; exact of_lss a0 a1) <|
        Obls.nil
    intro R w hw hs hF'
    replace h0 : R 0 = v0 := (hs 0 rfl).trans h0
    replace h1 : R 1 = .int .i64 y4 := (hs 1 rfl).trans h1
    replace h5 : R 5 = .int .i64 y5 := (hs 5 rfl).trans h5
    have h9 : R 9 = .bool (decide (y5 < (y6.length : Int))) := hF' 3 _ _ rfl rfl rfl
    replace hO := hO.fr hw
    replace hA := hA.fr hw.size
    replace hF := hF.tr (hw.ch noB) fun _ h => False.elim h
    clear hs hF' hw
    refine seqR_nil ?_
    refine HT.cond (decide (y5 < (y6.length : Int))) h9 (fun c7 => ?_) (fun c7 => ?_)
    · have hr := cnd_t c7 hr
      refine HT.skip ?_
      refine HT.seq ?_
      refine HT.block ?_
      refine HT.seq ?_
      obtain ⟨e8, hr⟩ := ck_some hr
      refine HT.textR [ob v0 (.vec B0 3 (eInt .i64) y6)] (⟨_, true, [], none, true, fun A => .raw v0⟩ :: ⟨_, true, [], none, true, fun A => .raw (.int .i64 y5)⟩ :: ⟨_, true, [], none, true, fun A => .raw (.int .i64 y4)⟩ :: ⟨_, true, [], none, true, fun A => .raw (vptr v0 (y5.toNat * 1))⟩ :: ⟨_, true, [0], some (.vec B0 3 (eInt .i64) (y6.set y5.toNat y4)), false, fun A => .any⟩ :: []) (by kernel_rfl) (by kernel_rfl) (Wf.mk' (by kernel_rfl) (UAll.cons ust_raw (UAll.cons ust_raw (UAll.cons ust_raw (UAll.cons ust_raw (UAll.cons ust_any (UAll.nil)))))) (by kernel_rfl) (by kernel_rfl)) hO hA ?_ ?_
      · exact
          OblsR.cons (OblR.plain rfl rfl rfl rfl fun A' R' w' ho hd => by have a0 : R' 0 = v0 := (ho.old 0 rfl).trans h0; exact of_move a0) <|
          OblsR.cons (OblR.plain rfl rfl rfl rfl fun A' R' w' ho hd => by have a0 : R' 5 = .int .i64 y5 := (ho.old 5 rfl).trans h5; exact of_move a0) <|
          OblsR.cons (OblR.plain rfl rfl rfl rfl fun A' R' w' ho hd => by have a0 : R' 1 = .int .i64 y4 := (ho.old 1 rfl).trans h1; exact of_move a0) <|
          OblsR.cons (OblR.plain rfl rfl rfl rfl fun A' R' w' ho hd => by have a0 : R' 12 = v0 := hd 0 _ _ _ rfl rfl rfl rfl rfl; have a1 : R' 13 = .int .i64 y5 := hd 1 _ _ _ rfl rfl rfl rfl rfl; exact of_indexAddr_vec (hO.ok 0 _ rfl).1 a0 a1 Try.underlying33 Try.sizeOf3 e8 rfl) <|
          OblsR.cons (OblR.took 0 _ _ rfl rfl rfl rfl rfl fun A' R' w' ho hd u hok hav hin hop hds => by have a0 : R' 15 = (vptr v0 (y5.toNat * 1)) := hd 0 _ _ _ rfl rfl rfl rfl rfl; have a1 : R' 14 = .int .i64 y4 := hd 1 _ _ _ rfl rfl rfl rfl rfl; obtain rfl := hin _ rfl; exact took_vstore (rep_int.eq a1) hok hav a0 e8 rfl (FldS.id _) Try.sizeOf3 rfl) <|
          OblsR.nil
      intro done ρ σ A R w hdn hI
      replace h0 : R 0 = v0 := (hI.reg rfl).trans h0
      replace h1 : R 1 = .int .i64 y4 := (hI.reg rfl).trans h1
      replace h5 : R 5 = .int .i64 y5 := (hI.reg rfl).trans h5
      have z9 := hI.inivR 0 rfl
      have z10 := (hI.opnR hdn 5 4 rfl rfl rfl rfl rfl).trans z9
      replace hAA := hI.lowK hAA hA0 hN (hO.geK (⟨.inr (fun k h => .inr h), trivial⟩))
      replace hF : Ch (ownsB v0) w0 w := hF.tr hI.ch (hO.geK (⟨.inr (fun k h => .inr h), trivial⟩))
      replace hO : IniOK [ob v0 (.vec B0 3 (eInt .i64) (y6.set y5.toNat y4))] A w := hI.left hdn [(5, ob v0 (.vec B0 3 (eInt .i64) (y6.set y5.toNat y4)))] ⟨rfl, rfl, z10, rfl, rfl, trivial⟩
      replace hA := hI.avok
      clear hI
      obtain ⟨e11, hr⟩ := ck_some hr
      refine HT.text (l := ⟨_, true, .raw (.int .i64 y4)⟩ :: ⟨_, true, .raw (.int .i64 (y4 + (1 : Int)))⟩ :: ⟨_, true, .raw (.int .i64 (y4 + (1 : Int)))⟩ :: []) (tl := []) (by kernel_rfl) (by kernel_rfl) (by kernel_rfl) ?_ ?_
      · exact
          Obls.cons (Obl.plain rfl rfl fun R' w' hw hs hd => by have a0 : R' 1 = .int .i64 y4 := (hs 1 rfl).trans h1; exact of_move a0) <|
          Obls.cons (Obl.plain rfl rfl fun R' w' hw hs hd => by have a0 : R' 16 = .int .i64 y4 := hd 0 _ _ _ rfl rfl rfl rfl rfl; exact of_add a0 rfl e11) <|
          Obls.cons (Obl.plain rfl rfl fun R' w' hw hs hd => by have a0 : R' 17 = .int .i64 (y4 + (1 : Int)) := hd 0 _ _ _ rfl rfl rfl rfl rfl; exact of_assign a0) <|
          Obls.nil
      intro R w hw hs hF'
      replace h0 : R 0 = v0 := (hs 0 rfl).trans h0
      replace h5 : R 5 = .int .i64 y5 := (hs 5 rfl).trans h5
      have h1 : R 1 = .int .i64 (y4 + (1 : Int)) := hF' 2 _ _ rfl rfl rfl
      replace hO := hO.fr hw
      replace hA := hA.fr hw.size
      replace hF := hF.tr (hw.ch noB) fun _ h => False.elim h
      clear hs hF' hw
      refine seqR_nil ?_
      obtain ⟨e12, hr⟩ := ck_some hr
      refine HT.text (l := ⟨_, true, .raw (.int .i64 y5)⟩ :: ⟨_, true, .raw (.int .i64 (y5 + (1 : Int)))⟩ :: ⟨_, true, .raw (.int .i64 (y5 + (1 : Int)))⟩ :: []) (tl := []) (by kernel_rfl) (by kernel_rfl) (by kernel_rfl) ?_ ?_
      · exact
          Obls.cons (Obl.plain rfl rfl fun R' w' hw hs hd => by have a0 : R' 5 = .int .i64 y5 := (hs 5 rfl).trans h5; exact of_move a0) <|
          Obls.cons (Obl.plain rfl rfl fun R' w' hw hs hd => by have a0 : R' 10 = .int .i64 y5 := hd 0 _ _ _ rfl rfl rfl rfl rfl; exact of_add a0 rfl e12) <|
          Obls.cons (Obl.plain rfl rfl fun R' w' hw hs hd => by have a0 : R' 11 = .int .i64 (y5 + (1 : Int)) := hd 0 _ _ _ rfl rfl rfl rfl rfl; exact of_assign a0) <|
          Obls.nil
      intro R w hw hs hF'
      replace h0 : R 0 = v0 := (hs 0 rfl).trans h0
      replace h1 : R 1 = .int .i64 (y4 + (1 : Int)) := (hs 1 rfl).trans h1
      have h5 : R 5 = .int .i64 (y5 + (1 : Int)) := hF' 2 _ _ rfl rfl rfl
      replace hO := hO.fr hw
      replace hA := hA.fr hw.size
      replace hF := hF.tr (hw.ch noB) fun _ h => False.elim h
      clear hs hF' hw
      refine seqR_nil ?_
      exact Exists.intro k (And.intro (Nat.lt_succ_self k) ⟨_, _, _, _, hr, hA, hF, hAA, hO, h0, h1, h5⟩)
    · have hr := cnd_f c7 hr
      refine HT.exit ?_
      obtain rfl := Option.some.inj hr
      exact Exists.intro _ ⟨_, rfl, hA, hF, hAA, hO, h1⟩
  rintro R w ⟨A, s3, es, hA, hF, hAA, hO, h1⟩
  obtain rfl := es.symm
  refine HT.seq ?_
  refine HT.text (l := ⟨_, true, .raw (.int .i64 s3.1)⟩ :: ⟨_, true, .raw (.int .i64 s3.1)⟩ :: []) (tl := []) (by kernel_rfl) (by kernel_rfl) (by kernel_rfl) ?_ ?_
  · exact
      Obls.cons (Obl.plain rfl rfl fun R' w' hw hs hd => by have a0 : R' 1 = .int .i64 s3.1 := (hs 1 rfl).trans h1; exact of_move a0) <|
      Obls.cons (Obl.plain rfl rfl fun R' w' hw hs hd => by have a0 : R' 18 = .int .i64 s3.1 := hd 0 _ _ _ rfl rfl rfl rfl rfl; exact of_assign a0) <|
      Obls.nil
  intro R w hw hs hF'
  have h4 : R 4 = .int .i64 s3.1 := hF' 1 _ _ rfl rfl rfl
  replace hO := hO.fr hw
  replace hA := hA.fr hw.size
  replace hF := hF.tr (hw.ch noB) fun _ h => False.elim h
  clear hs hF' hw
  refine seqR_nil ?_
  refine HT.ret ?_
  obtain rfl := Option.some.inj hr
  exact ⟨.inr rfl, [R 4], ⟨rfl, trivial⟩, h4, Vec.flat (hO.ok 0 _ rfl).1 (fun _ _ _ _ _ h => h), hF⟩
def M_laws_heldIntS_L0 (fu : Nat) (p0 : List Int) : Nat → Int → Int → Option (Ex Int Int)
  | 0, _, _ => none
  | k + 1, y4, y5 =>
    bif (decide (y5 < (p0.length : Int))) then (
      ck (inR y5 p0.length) <|
      bif ((gtD p0 y5) != y4) then (
        some (Ex.ret (-1 : Int))
      ) else (
        ck (i64B (y4 + (1 : Int))) <|
        ck (i64B (y5 + (1 : Int))) <|
        M_laws_heldIntS_L0 fu p0 k (y4 + (1 : Int)) (y5 + (1 : Int))
      )
    ) else (
      some (Ex.go y4)
    )
def M_laws_heldIntS (fu : Nat) (p0 : List Int) (p1 : Int) : Option Int :=
  cl true (M_laws_heldIntS_L0 fu p0 fu p1 (0 : Int)) fun rl1 =>
  exM rl1 (fun r => some r) fun s3 =>
  some s3
set_option maxRecDepth 100000 in
set_option maxHeartbeats 4000000 in
theorem M_laws_heldIntS_ok {fu : Nat} {A : Av} {p0 : List Int} {p1 : Int} {r : Int} (hr : M_laws_heldIntS fu p0 p1 = some r) {w : World} {v0 : Value} {v1 : Value} (hA : AvOK A w) (h0 : Rep (eSl (eInt .i64)) A w v0 p0) (h1 : v1 = .int .i64 p1) :
    Calls Try.prog 17 #[v0, v1] w fun e w' => ∃ v, e = .returned v ∧ (v = .int .i64 r ∧ Fr w w') := by
  unfold M_laws_heldIntS at hr
  obtain ⟨w0, hw0⟩ : ∃ w0, w0 = w := ⟨_, rfl⟩
  have hF : Fr w0 w := hw0 ▸ Fr.refl _
  rw [show Fr w = Fr w0 from hw0 ▸ rfl]
  clear hw0
  refine calls_of_HT2 [.tmp 4] Try.func17 Try.ntmps17 (by decide) rfl rfl (Nat.le_of_ble_eq_true rfl) ?_
  intro R hR
  have f_v0 := h0
  replace h0 : R 0 = v0 := hR 0 _ rfl
  replace h1 : R 1 = .int .i64 p1 := (hR 1 _ rfl).trans h1
  clear hR
  refine HT.seq ?_
  refine HT.text (l := ⟨_, true, .raw (.int .i64 (0 : Int))⟩ :: []) (tl := []) (by kernel_rfl) (by kernel_rfl) (by kernel_rfl) ?_ ?_
  · exact
      Obls.cons (Obl.plain rfl rfl fun R' w' hw hs hd => by exact of_assign rfl) <|
      Obls.nil
  intro R w hw hs hF'
  replace h0 : R 0 = v0 := (hs 0 rfl).trans h0
  replace h1 : R 1 = .int .i64 p1 := (hs 1 rfl).trans h1
  replace f_v0 := f_v0.fr hw
  replace hA := hA.fr hw.size
  replace hF := hF.trans hw
  clear hs hF' hw
  refine seqR_nil ?_
  refine HT.seq ?_
  refine HT.seq ?_
  refine HT.text (l := ⟨_, true, .raw (.int .i64 (0 : Int))⟩ :: []) (tl := []) (by kernel_rfl) (by kernel_rfl) (by kernel_rfl) ?_ ?_
  · exact
      Obls.cons (Obl.plain rfl rfl fun R' w' hw hs hd => by exact of_assign rfl) <|
      Obls.nil
  intro R w hw hs hF'
  replace h0 : R 0 = v0 := (hs 0 rfl).trans h0
  replace h1 : R 1 = .int .i64 p1 := (hs 1 rfl).trans h1
  have h5 : R 5 = .int .i64 (0 : Int) := hF' 0 _ _ rfl rfl rfl
  replace f_v0 := f_v0.fr hw
  replace hA := hA.fr hw.size
  replace hF := hF.trans hw
  clear hs hF' hw
  refine seqR_nil ?_
  obtain ⟨rl1, q2, hr⟩ := cl_some hr
  replace q2 := q2 rfl
  refine HT.cut0 (fun R w => ∃ (s3 : Int), rl1 = Ex.go s3 ∧ AvOK A w ∧ Fr w0 w ∧ R 1 = .int .i64 s3) ?_ ?_
  · refine HT.block ?_
    refine HT.loop (fun k R w => ∃ (y4 : Int) (y5 : Int), M_laws_heldIntS_L0 fu p0 k y4 y5 = some rl1 ∧ AvOK A w ∧ Fr w0 w ∧ R 0 = v0 ∧ R 1 = .int .i64 y4 ∧ R 5 = .int .i64 y5 ∧ Rep (eSl (eInt .i64)) A w v0 p0) fu ⟨_, _, q2, hA, hF, h0, h1, h5, f_v0⟩ ?_
    have hr0 := hr; clear hr q2
    rintro k R w ⟨y4, y5, hr, hA, hF, h0, h1, h5, f_v0⟩
    rcases k with _ | k
    · cases (show none = some _ from hr)
    rw [M_laws_heldIntS_L0] at hr
    refine HT.seq ?_
    refine HT.seq ?_
    refine HT.text (l := ⟨_, true, .raw (.int .i64 y5)⟩ :: ⟨_, true, .raw v0⟩ :: ⟨_, true, .raw (.int .i64 (p0.length : Int))⟩ :: ⟨_, true, .raw (.bool (decide (y5 < (p0.length : Int))))⟩ :: []) (tl := []) (by kernel_rfl) (by kernel_rfl) (by kernel_rfl) ?_ ?_
    · exact
        Obls.cons (Obl.plain rfl rfl fun R' w' hw hs hd => by have a0 : R' 5 = .int .i64 y5 := (hs 5 rfl).trans h5; exact of_move a0) <|
        Obls.cons (Obl.plain rfl rfl fun R' w' hw hs hd => by have a0 : R' 0 = v0 := (hs 0 rfl).trans h0; exact of_move a0) <|
        Obls.cons (Obl.plain rfl rfl fun R' w' hw hs hd => by have a0 : R' 7 = v0 := hd 0 _ _ _ rfl rfl rfl rfl rfl; have ra0 := (f_v0.fr hw).eq a0; exact of_len_sl (aT := #[]) ra0 Try.underlying33) <|
        Obls.cons (Obl.plain rfl rfl fun R' w' hw hs hd => by have a0 : R' 6 = .int .i64 y5 := hd 0 _ _ _ rfl rfl rfl rfl rfl; have a1 : R' 8 = .int .i64 (p0.length : Int) := hd 1 _ _ _ rfl rfl rfl rfl rfl; exact of_lss a0 a1) <|
        Obls.nil
    intro R w hw hs hF'
    replace h0 : R 0 = v0 := (hs 0 rfl).trans h0
    replace h1 : R 1 = .int .i64 y4 := (hs 1 rfl).trans h1
    replace h5 : R 5 = .int .i64 y5 := (hs 5 rfl).trans h5
    have h9 : R 9 = .bool (decide (y5 < (p0.length : Int))) := hF' 3 _ _ rfl rfl rfl
    replace f_v0 := f_v0.fr hw
    replace hA := hA.fr hw.size
    replace hF := hF.trans hw
    clear hs hF' hw
    refine seqR_nil ?_
    refine HT.cond (decide (y5 < (p0.length : Int))) h9 (fun c6 => ?_) (fun c6 => ?_)
    · have hr := cnd_t c6 hr
      refine HT.skip ?_
      refine HT.seq ?_
      refine HT.block ?_
      refine HT.seq ?_
      refine HT.seq ?_
      obtain ⟨e7, hr⟩ := ck_some hr
      refine HT.text (l := ⟨_, true, .raw v0⟩ :: ⟨_, true, .raw (.int .i64 y5)⟩ :: ⟨_, true, .qtr (eInt .i64) A (gtD p0 y5)⟩ :: ⟨_, true, .raw (.int .i64 (gtD p0 y5))⟩ :: ⟨_, true, .raw (.int .i64 y4)⟩ :: ⟨_, true, .raw (.bool ((gtD p0 y5) != y4))⟩ :: []) (tl := []) (by kernel_rfl) (by kernel_rfl) (by kernel_rfl) ?_ ?_
      · exact
          Obls.cons (Obl.plain rfl rfl fun R' w' hw hs hd => by have a0 : R' 0 = v0 := (hs 0 rfl).trans h0; exact of_move a0) <|
          Obls.cons (Obl.plain rfl rfl fun R' w' hw hs hd => by have a0 : R' 5 = .int .i64 y5 := (hs 5 rfl).trans h5; exact of_move a0) <|
          Obls.cons (Obl.plain rfl rfl fun R' w' hw hs hd => by have a0 : R' 12 = v0 := hd 0 _ _ _ rfl rfl rfl rfl rfl; have a1 : R' 13 = .int .i64 y5 := hd 1 _ _ _ rfl rfl rfl rfl rfl; have ra0 := (f_v0.fr hw).eq a0; exact of_indexAddr ra0 a1 Try.underlying33 Try.sizeOf3 e7) <|
          Obls.cons (Obl.plain rfl rfl fun R' w' hw hs hd => by have a0 : QRep (eInt .i64) A w' (R' 14) (gtD p0 y5) := hd 0 _ _ _ rfl rfl rfl rfl rfl; exact OpF.int (of_load a0.ptr Try.isAgg3 Try.sizeOf3)) <|
          Obls.cons (Obl.plain rfl rfl fun R' w' hw hs hd => by have a0 : R' 1 = .int .i64 y4 := (hs 1 rfl).trans h1; exact of_move a0) <|
          Obls.cons (Obl.plain rfl rfl fun R' w' hw hs hd => by have a0 : R' 15 = .int .i64 (gtD p0 y5) := hd 0 _ _ _ rfl rfl rfl rfl rfl; have a1 : R' 16 = .int .i64 y4 := hd 1 _ _ _ rfl rfl rfl rfl rfl; exact of_neq a0 a1) <|
          Obls.nil
      intro R w hw hs hF'
      replace h0 : R 0 = v0 := (hs 0 rfl).trans h0
      replace h1 : R 1 = .int .i64 y4 := (hs 1 rfl).trans h1
      replace h5 : R 5 = .int .i64 y5 := (hs 5 rfl).trans h5
      have h17 : R 17 = .bool ((gtD p0 y5) != y4) := hF' 5 _ _ rfl rfl rfl
      replace f_v0 := f_v0.fr hw
      replace hA := hA.fr hw.size
      replace hF := hF.trans hw
      clear hs hF' hw
      refine seqR_nil ?_
      refine HT.cond ((gtD p0 y5) != y4) h17 (fun c8 => ?_) (fun c8 => ?_)
      · have hr := cnd_t c8 hr
        refine HT.seq ?_
        refine HT.text (l := ⟨_, true, .raw (.int .i64 (-1 : Int))⟩ :: []) (tl := []) (by kernel_rfl) (by kernel_rfl) (by kernel_rfl) ?_ ?_
        · exact
            Obls.cons (Obl.plain rfl rfl fun R' w' hw hs hd => by exact of_assign rfl) <|
            Obls.nil
        intro R w hw hs hF'
        have h4 : R 4 = .int .i64 (-1 : Int) := hF' 0 _ _ rfl rfl rfl
        replace hA := hA.fr hw.size
        replace hF := hF.trans hw
        clear hs hF' hw
        refine seqR_nil ?_
        refine HT.ret ?_
        obtain rfl := Option.some.inj hr
        have hr := hr0
        replace hr : some _ = some _ := hr
        obtain rfl := Option.some.inj hr
        exact ⟨.inr rfl, [R 4], ⟨rfl, trivial⟩, h4, hF⟩
      · have hr := cnd_f c8 hr
        refine HT.skip ?_
        obtain ⟨e9, hr⟩ := ck_some hr
        refine HT.text (l := ⟨_, true, .raw (.int .i64 y4)⟩ :: ⟨_, true, .raw (.int .i64 (y4 + (1 : Int)))⟩ :: ⟨_, true, .raw (.int .i64 (y4 + (1 : Int)))⟩ :: []) (tl := []) (by kernel_rfl) (by kernel_rfl) (by kernel_rfl) ?_ ?_
        · exact
            Obls.cons (Obl.plain rfl rfl fun R' w' hw hs hd => by have a0 : R' 1 = .int .i64 y4 := (hs 1 rfl).trans h1; exact of_move a0) <|
            Obls.cons (Obl.plain rfl rfl fun R' w' hw hs hd => by have a0 : R' 18 = .int .i64 y4 := hd 0 _ _ _ rfl rfl rfl rfl rfl; exact of_add a0 rfl e9) <|
            Obls.cons (Obl.plain rfl rfl fun R' w' hw hs hd => by have a0 : R' 19 = .int .i64 (y4 + (1 : Int)) := hd 0 _ _ _ rfl rfl rfl rfl rfl; exact of_assign a0) <|
            Obls.nil
        intro R w hw hs hF'
        replace h0 : R 0 = v0 := (hs 0 rfl).trans h0
        replace h5 : R 5 = .int .i64 y5 := (hs 5 rfl).trans h5
        have h1 : R 1 = .int .i64 (y4 + (1 : Int)) := hF' 2 _ _ rfl rfl rfl
        replace f_v0 := f_v0.fr hw
        replace hA := hA.fr hw.size
        replace hF := hF.trans hw
        clear hs hF' hw
        refine seqR_nil ?_
        obtain ⟨e10, hr⟩ := ck_some hr
        refine HT.text (l := ⟨_, true, .raw (.int .i64 y5)⟩ :: ⟨_, true, .raw (.int .i64 (y5 + (1 : Int)))⟩ :: ⟨_, true, .raw (.int .i64 (y5 + (1 : Int)))⟩ :: []) (tl := []) (by kernel_rfl) (by kernel_rfl) (by kernel_rfl) ?_ ?_
        · exact
            Obls.cons (Obl.plain rfl rfl fun R' w' hw hs hd => by have a0 : R' 5 = .int .i64 y5 := (hs 5 rfl).trans h5; exact of_move a0) <|
            Obls.cons (Obl.plain rfl rfl fun R' w' hw hs hd => by have a0 : R' 10 = .int .i64 y5 := hd 0 _ _ _ rfl rfl rfl rfl rfl; exact of_add a0 rfl e10) <|
            Obls.cons (Obl.plain rfl rfl fun R' w' hw hs hd => by have a0 : R' 11 = .int .i64 (y5 + (1 : Int)) := hd 0 _ _ _ rfl rfl rfl rfl rfl; exact of_assign a0) <|
            Obls.nil
        intro R w hw hs hF'
        replace h0 : R 0 = v0 := (hs 0 rfl).trans h0
        replace h1 : R 1 = .int .i64 (y4 + (1 : Int)) := (hs 1 rfl).trans h1
        have h5 : R 5 = .int .i64 (y5 + (1 : Int)) := hF' 2 _ _ rfl rfl rfl
        replace f_v0 := f_v0.fr hw
        replace hA := hA.fr hw.size
        replace hF := hF.trans hw
        clear hs hF' hw
        refine seqR_nil ?_
        exact Exists.intro k (And.intro (Nat.lt_succ_self k) ⟨_, _, hr, hA, hF, h0, h1, h5, f_v0⟩)
    · have hr := cnd_f c6 hr
      refine HT.exit ?_
      obtain rfl := Option.some.inj hr
      exact Exists.intro _ ⟨rfl, hA, hF, h1⟩
  rintro R w ⟨s3, rfl, hA, hF, h1⟩
  have hr := exM_go hr
  refine HT.seq ?_
  refine HT.text (l := ⟨_, true, .raw (.int .i64 s3)⟩ :: ⟨_, true, .raw (.int .i64 s3)⟩ :: []) (tl := []) (by kernel_rfl) (by kernel_rfl) (by kernel_rfl) ?_ ?_
  · exact
      Obls.cons (Obl.plain rfl rfl fun R' w' hw hs hd => by have a0 : R' 1 = .int .i64 s3 := (hs 1 rfl).trans h1; exact of_move a0) <|
      Obls.cons (Obl.plain rfl rfl fun R' w' hw hs hd => by have a0 : R' 20 = .int .i64 s3 := hd 0 _ _ _ rfl rfl rfl rfl rfl; exact of_assign a0) <|
      Obls.nil
  intro R w hw hs hF'
  have h4 : R 4 = .int .i64 s3 := hF' 1 _ _ rfl rfl rfl
  replace hA := hA.fr hw.size
  replace hF := hF.trans hw
  clear hs hF' hw
  refine seqR_nil ?_
  refine HT.ret ?_
  obtain rfl := Option.some.inj hr
  exact ⟨.inr rfl, [R 4], ⟨rfl, trivial⟩, h4, hF⟩
def M_laws_FnExactMonotoneViolation (fu : Nat) (p0 : T_laws_RuleSet) : Option Bool :=
  cl true (M_laws_szRuleSet fu p0 (1048576 : Int)) fun x2 =>
  bif (decide (x2 < (0 : Int))) then (
    some true
  ) else (
    cl true (M_laws_toRuleSet fu p0) fun x5 =>
    cl true (M_spec_MonotoneViolation fu x5) fun x7 =>
    cl true (M_laws_toRuleSet fu p0) fun x11 =>
    cl true (M_impl_MonotoneViolation fu x11) fun x18 =>
    cl true (M_laws_eqIntS fu x18.1 x7.1) fun x26 =>
    cl (true && ((!x26) == false)) (M_laws_eqIntS fu x18.2.1 x7.2.1) fun x28 =>
    bd ((!x26) || (!x28)) fun x30 =>
    bd (x30 || (x18.2.2 != x7.2.2)) fun x32 =>
    bif x32 then (
      some false
    ) else (
      cl true (M_laws_toRuleSet fu p0) fun x37 =>
      cl true (M_laws_eqRuleSet fu x11 x37) fun x39 =>
      bif (!x39) then (
        some false
      ) else (
        cl true (M_laws_markRuleSet fu x11 (1 : Int)) fun x44 =>
        cl (true && ((decide (x44.1 < (0 : Int))) == false)) (M_laws_eqIntS fu x18.1 x7.1) fun x52 =>
        bd ((decide (x44.1 < (0 : Int))) || (!x52)) fun x54 =>
        cl (true && (x54 == false)) (M_laws_eqIntS fu x18.2.1 x7.2.1) fun x56 =>
        bd (x54 || (!x56)) fun x58 =>
        bd (x58 || (x18.2.2 != x7.2.2)) fun x60 =>
        bif x60 then (
          some false
        ) else (
          cl true (M_laws_markIntS fu x18.1 (1 : Int)) fun x63 =>
          cl true (M_laws_markIntS fu x18.2.1 x63.1) fun x69 =>
          cl true (M_laws_heldIntS fu x63.2 (1 : Int)) fun x75 =>
          bif (decide (x75 < (0 : Int))) then (
            some false
          ) else (
            cl true (M_laws_heldIntS fu x69.2 x75) fun x78 =>
            bif (decide (x78 < (0 : Int))) then (
              some false
            ) else (
              bif (x78 != x69.1) then (
                some false
              ) else (
                cl true (M_laws_toRuleSet fu p0) fun x82 =>
                cl true (M_impl_MonotoneViolation fu x82) fun x84 =>
                cl true (M_laws_eqIntS fu x84.1 x7.1) fun x88 =>
                cl (true && ((!x88) == false)) (M_laws_eqIntS fu x84.2.1 x7.2.1) fun x90 =>
                bd ((!x88) || (!x90)) fun x92 =>
                bd (x92 || (x84.2.2 != x7.2.2)) fun x94 =>
                bif x94 then (
                  some false
                ) else (
                  cl true (M_laws_heldIntS fu x63.2 (1 : Int)) fun x97 =>
                  bif (decide (x97 < (0 : Int))) then (
                    some false
                  ) else (
                    cl true (M_laws_heldIntS fu x69.2 x97) fun x100 =>
                    bif (decide (x100 < (0 : Int))) then (
                      some false
                    ) else (
                      bif (x100 != x69.1) then (
                        some false
                      ) else (
                        some true
                      )
                    )
                  )
                )
              )
            )
          )
        )
      )
    )
  )
set_option maxRecDepth 100000 in
set_option maxHeartbeats 4000000 in
theorem M_laws_FnExactMonotoneViolation_ok {fu : Nat} {A0 : Av} {p0 : T_laws_RuleSet} {r : Bool} (hr : M_laws_FnExactMonotoneViolation fu p0 = some r) {w : World} {v0 : Value} (hA : AvOK A0 w) (h0 : Rep E_laws_RuleSet A0 w v0 p0) :
    Calls Try.prog 4 #[v0] w fun e w' => ∃ v, e = .returned v ∧ (v = .bool r ∧ Fr w w') := by
  unfold M_laws_FnExactMonotoneViolation at hr
  obtain ⟨w0, hw0⟩ : ∃ w0, w0 = w := ⟨_, rfl⟩
  have hF : Fr w0 w := hw0 ▸ Fr.refl _
  have hA0 : ∀ b o, A0 b o → b < w0.heap.size := fun b o h => hw0 ▸ hA b o h
  have hA00 : AvOK A0 w0 := hA0
  rw [show Fr w = Fr w0 from hw0 ▸ rfl]
  clear hw0
  obtain ⟨A, hAe⟩ : ∃ A, A = A0 := ⟨_, rfl⟩
  have hAA : ∀ b o, A0 b o → A b o := fun b o h => hAe ▸ h
  replace hA : AvOK A w := hAe ▸ hA
  have hO : IniOK [] A w := IniOK.nil
  refine calls_of_HT2 [.tmp 2] Try.func4 Try.ntmps4 (by decide) rfl rfl (Nat.le_of_ble_eq_true rfl) ?_
  intro R hR
  have f_v0 : Rep E_laws_RuleSet A w v0 p0 := hAe ▸ h0
  replace h0 : R 0 = v0 := hR 0 _ rfl
  clear hR hAe
  refine HT.seq ?_
  refine HT.textR [] (⟨_, true, [], some (.box w0.heap.size 24 E_laws_RuleSet p0), true, fun A => .any⟩ :: ⟨_, true, [], none, true, fun A => .raw (.bool false)⟩ :: []) (by kernel_rfl) (by kernel_rfl) (Wf.mk' (by kernel_rfl) (UAll.cons ust_any (UAll.cons ust_raw (UAll.nil))) (by kernel_rfl) (by kernel_rfl)) hO hA ?_ ?_
  · exact
      OblsR.cons (OblR.made _ rfl rfl rfl rfl fun A' R' w' ho hd => by have a0 : R' 0 = v0 := (ho.old 0 rfl).trans h0; have ra0 := (f_v0.stp ho.stp).eq a0; exact made_box ra0 (Nat.le_trans hF.size ho.ch.size)) <|
      OblsR.cons (OblR.plain rfl rfl rfl rfl fun A' R' w' ho hd => by exact of_assign rfl) <|
      OblsR.nil
  intro done ρ σ A R w hdn hI
  obtain ⟨b1_0, e_b1_0⟩ := hI.boxv hdn 0 rfl rfl
  have h1 : R 1 = (.pointer (some ⟨b1_0, 0, none⟩)) := (hI.opvR hdn 0 0 rfl rfl rfl rfl rfl).symm.trans e_b1_0
  replace hAA := hI.low' hAA hA0 (hO.ge (trivial))
  replace hF : Fr w0 w := hF.tr hI.ch (hO.ge (trivial))
  replace hO : IniOK [ob (.pointer (some ⟨b1_0, 0, none⟩)) (.box w0.heap.size 24 E_laws_RuleSet p0)] A w := hI.left hdn [(0, ob (.pointer (some ⟨b1_0, 0, none⟩)) (.box w0.heap.size 24 E_laws_RuleSet p0))] ⟨rfl, rfl, e_b1_0, rfl, rfl, trivial⟩
  replace hA := hI.avok
  clear hI
  refine HT.seq ?_
  refine HT.text (l := ⟨_, true, .raw (.int .i64 (1048576 : Int))⟩ :: []) (tl := []) (by kernel_rfl) (by kernel_rfl) (by kernel_rfl) ?_ ?_
  · exact
      Obls.cons (Obl.plain rfl rfl fun R' w' hw hs hd => by exact of_assign rfl) <|
      Obls.nil
  intro R w hw hs hF'
  replace h1 : R 1 = (.pointer (some ⟨b1_0, 0, none⟩)) := (hs 1 rfl).trans h1
  have h3 : R 3 = .int .i64 (1048576 : Int) := hF' 0 _ _ rfl rfl rfl
  replace hO := hO.fr hw
  replace hA := hA.fr hw.size
  replace hF := hF.trans hw
  clear hs hF' hw
  refine seqR_nil ?_
  refine HT.seq ?_
  obtain ⟨x2, q3, hr⟩ := cl_some hr
  refine HT.text (l := ⟨_, true, .rep E_laws_RuleSet A p0⟩ :: ⟨_, true, .raw (.int .i64 (1048576 : Int))⟩ :: ⟨_, true, .raw (.int .i64 x2)⟩ :: ⟨_, true, .raw (.int .i64 x2)⟩ :: []) (tl := []) (by kernel_rfl) (by kernel_rfl) (by kernel_rfl) ?_ ?_
  · exact
      Obls.cons (Obl.plain rfl rfl fun R' w' hw hs hd => by have a0 : R' 1 = (.pointer (some ⟨b1_0, 0, none⟩)) := (hs 1 rfl).trans h1; exact (of_load_box ((hO.fr hw).ok 0 _ rfl).1 a0 (Fld.id _) rfl Try.isAgg24 Try.sizeOf24)) <|
      Obls.cons (Obl.plain rfl rfl fun R' w' hw hs hd => by have a0 : R' 3 = .int .i64 (1048576 : Int) := (hs 3 rfl).trans h3; exact of_move a0) <|
      Obls.cons (Obl.plain rfl rfl fun R' w' hw hs hd => by have a0 : Rep E_laws_RuleSet A w' (R' 17) p0 := hd 0 _ _ _ rfl rfl rfl rfl rfl; have a1 : R' 18 = .int .i64 (1048576 : Int) := hd 1 _ _ _ rfl rfl rfl rfl rfl; exact of_call Try.call7 (M_laws_szRuleSet_ok (q3 rfl) (hA.fr hw.size) a0 a1)) <|
      Obls.cons (Obl.plain rfl rfl fun R' w' hw hs hd => by have a0 : R' 19 = .int .i64 x2 := hd 0 _ _ _ rfl rfl rfl rfl rfl; exact of_assign a0) <|
      Obls.nil
  intro R w hw hs hF'
  replace h1 : R 1 = (.pointer (some ⟨b1_0, 0, none⟩)) := (hs 1 rfl).trans h1
  have h3 : R 3 = .int .i64 x2 := hF' 3 _ _ rfl rfl rfl
  replace hO := hO.fr hw
  replace hA := hA.fr hw.size
  replace hF := hF.trans hw
  clear hs hF' hw
  refine seqR_nil ?_
  refine HT.seq ?_
  refine HT.seq ?_
  refine HT.text (l := ⟨_, true, .raw (.int .i64 x2)⟩ :: ⟨_, true, .raw (.bool (decide (x2 < (0 : Int))))⟩ :: []) (tl := []) (by kernel_rfl) (by kernel_rfl) (by kernel_rfl) ?_ ?_
  · exact
      Obls.cons (Obl.plain rfl rfl fun R' w' hw hs hd => by have a0 : R' 3 = .int .i64 x2 := (hs 3 rfl).trans h3; exact of_move a0) <|
      Obls.cons (Obl.plain rfl rfl fun R' w' hw hs hd => by have a0 : R' 20 = .int .i64 x2 := hd 0 _ _ _ rfl rfl rfl rfl rfl; exact of_lss a0 rfl) <|
      Obls.nil
  intro R w hw hs hF'
  replace h1 : R 1 = (.pointer (some ⟨b1_0, 0, none⟩)) := (hs 1 rfl).trans h1
  have h21 : R 21 = .bool (decide (x2 < (0 : Int))) := hF' 1 _ _ rfl rfl rfl
  replace hO := hO.fr hw
  replace hA := hA.fr hw.size
  replace hF := hF.trans hw
  clear hs hF' hw
  refine seqR_nil ?_
  refine HT.cond (decide (x2 < (0 : Int))) h21 (fun c4 => ?_) (fun c4 => ?_)
  · have hr := cnd_t c4 hr
    refine HT.seq ?_
    refine HT.text (l := ⟨_, true, .raw (.bool true)⟩ :: []) (tl := []) (by kernel_rfl) (by kernel_rfl) (by kernel_rfl) ?_ ?_
    · exact
        Obls.cons (Obl.plain rfl rfl fun R' w' hw hs hd => by exact of_assign rfl) <|
        Obls.nil
    intro R w hw hs hF'
    have h2 : R 2 = .bool true := hF' 0 _ _ rfl rfl rfl
    replace hO := hO.fr hw
    replace hO : IniOK [] A w := hO.sub [] trivial
    replace hA := hA.fr hw.size
    replace hF := hF.trans hw
    clear hs hF' hw
    refine seqR_nil ?_
    refine HT.ret ?_
    obtain rfl := Option.some.inj hr
    exact ⟨.inr rfl, [R 2], ⟨rfl, trivial⟩, h2, hF⟩
  · have hr := cnd_f c4 hr
    refine HT.skip ?_
    refine HT.seq ?_
    obtain ⟨x5, q6, hr⟩ := cl_some hr
    obtain ⟨x7, q8, hr⟩ := cl_some hr
    refine HT.text (l := ⟨_, true, .rep E_laws_RuleSet A p0⟩ :: ⟨_, true, .rep E_impl_RuleSet A x5⟩ :: ⟨_, true, .tup3 (.rep (eSl (eInt .i64)) A x7.1) (.rep (eSl (eInt .i64)) A x7.2.1) (.raw (.bool x7.2.2))⟩ :: ⟨_, true, .tup3 (.rep (eSl (eInt .i64)) A x7.1) (.rep (eSl (eInt .i64)) A x7.2.1) (.raw (.bool x7.2.2))⟩ :: ⟨_, true, .rep (eSl (eInt .i64)) A x7.1⟩ :: ⟨_, true, .rep (eSl (eInt .i64)) A x7.2.1⟩ :: ⟨_, true, .raw (.bool x7.2.2)⟩ :: ⟨_, true, .rep (eSl (eInt .i64)) A x7.1⟩ :: ⟨_, true, .rep (eSl (eInt .i64)) A x7.2.1⟩ :: ⟨_, true, .raw (.bool x7.2.2)⟩ :: []) (tl := []) (by kernel_rfl) (by kernel_rfl) (by kernel_rfl) ?_ ?_
    · exact
        Obls.cons (Obl.plain rfl rfl fun R' w' hw hs hd => by have a0 : R' 1 = (.pointer (some ⟨b1_0, 0, none⟩)) := (hs 1 rfl).trans h1; exact (of_load_box ((hO.fr hw).ok 0 _ rfl).1 a0 (Fld.id _) rfl Try.isAgg24 Try.sizeOf24)) <|
        Obls.cons (Obl.plain rfl rfl fun R' w' hw hs hd => by have a0 : Rep E_laws_RuleSet A w' (R' 23) p0 := hd 0 _ _ _ rfl rfl rfl rfl rfl; exact of_call Try.call9 (M_laws_toRuleSet_okR (q6 rfl) (hA.fr hw.size) a0)) <|
        Obls.cons (Obl.plain rfl rfl fun R' w' hw hs hd => by have a0 : Rep E_impl_RuleSet A w' (R' 24) x5 := hd 0 _ _ _ rfl rfl rfl rfl rfl; exact of_call Try.call12 (M_spec_MonotoneViolation_ok (q8 rfl) (hA.fr hw.size) a0)) <|
        Obls.cons (Obl.plain rfl rfl fun R' w' hw hs hd => by have a0 : Fact.ok (.tup3 (.rep (eSl (eInt .i64)) A x7.1) (.rep (eSl (eInt .i64)) A x7.2.1) (.raw (.bool x7.2.2))) (R' 25) w' := hd 0 _ _ _ rfl rfl rfl rfl rfl; exact of_move a0) <|
        Obls.cons (Obl.plain rfl rfl fun R' w' hw hs hd => by have a0 : Fact.ok (.tup3 (.rep (eSl (eInt .i64)) A x7.1) (.rep (eSl (eInt .i64)) A x7.2.1) (.raw (.bool x7.2.2))) (R' 22) w' := hd 0 _ _ _ rfl rfl rfl rfl rfl; exact of_extract3_0 a0) <|
        Obls.cons (Obl.plain rfl rfl fun R' w' hw hs hd => by have a0 : Fact.ok (.tup3 (.rep (eSl (eInt .i64)) A x7.1) (.rep (eSl (eInt .i64)) A x7.2.1) (.raw (.bool x7.2.2))) (R' 22) w' := hd 0 _ _ _ rfl rfl rfl rfl rfl; exact of_extract3_1 a0) <|
        Obls.cons (Obl.plain rfl rfl fun R' w' hw hs hd => by have a0 : Fact.ok (.tup3 (.rep (eSl (eInt .i64)) A x7.1) (.rep (eSl (eInt .i64)) A x7.2.1) (.raw (.bool x7.2.2))) (R' 22) w' := hd 0 _ _ _ rfl rfl rfl rfl rfl; exact of_extract3_2 a0) <|
        Obls.cons (Obl.plain rfl rfl fun R' w' hw hs hd => by have a0 : Rep (eSl (eInt .i64)) A w' (R' 26) x7.1 := hd 0 _ _ _ rfl rfl rfl rfl rfl; exact of_assign a0) <|
        Obls.cons (Obl.plain rfl rfl fun R' w' hw hs hd => by have a0 : Rep (eSl (eInt .i64)) A w' (R' 27) x7.2.1 := hd 0 _ _ _ rfl rfl rfl rfl rfl; exact of_assign a0) <|
        Obls.cons (Obl.plain rfl rfl fun R' w' hw hs hd => by have a0 : R' 28 = .bool x7.2.2 := hd 0 _ _ _ rfl rfl rfl rfl rfl; exact of_assign a0) <|
        Obls.nil
    intro R w hw hs hF'
    replace h1 : R 1 = (.pointer (some ⟨b1_0, 0, none⟩)) := (hs 1 rfl).trans h1
    obtain ⟨u9, h4, f_u9⟩ : ∃ u, R 4 = u ∧ Rep (eSl (eInt .i64)) A w u x7.1 := ⟨_, rfl, hF' 7 _ _ rfl rfl rfl⟩
    obtain ⟨u10, h5, f_u10⟩ : ∃ u, R 5 = u ∧ Rep (eSl (eInt .i64)) A w u x7.2.1 := ⟨_, rfl, hF' 8 _ _ rfl rfl rfl⟩
    have h6 : R 6 = .bool x7.2.2 := hF' 9 _ _ rfl rfl rfl
    replace hO := hO.fr hw
    replace hA := hA.fr hw.size
    replace hF := hF.trans hw
    clear hs hF' hw
    refine seqR_nil ?_
    refine HT.seq ?_
    obtain ⟨x11, q12, hr⟩ := cl_some hr
    refine HT.textR [ob (.pointer (some ⟨b1_0, 0, none⟩)) (.box w0.heap.size 24 E_laws_RuleSet p0)] (⟨_, true, [], none, true, fun A => .rep E_laws_RuleSet A p0⟩ :: ⟨_, true, [], some (trR (geB w0.heap.size) (oBx (oSl 79 (oBx (oSl 82 (oRd E_impl_Test))))) x11 []), true, fun A => .any⟩ :: ⟨_, true, [], some (trR (geB w0.heap.size) (oPt 29 (oBx (oSl 79 (oBx (oSl 82 (oRd E_impl_Test)))))) ([] : List T_impl_Rule) []), true, fun A => .any⟩ :: ⟨_, true, [3, 2], some (trR (geB w0.heap.size) (oPt 29 (oBx (oSl 79 (oBx (oSl 82 (oRd E_impl_Test)))))) x11 []), false, fun A => .any⟩ :: []) (by kernel_rfl) (by kernel_rfl) (Wf.mk' (by kernel_rfl) (UAll.cons ust_rep (UAll.cons ust_any (UAll.cons ust_any (UAll.cons ust_any (UAll.nil))))) (by kernel_rfl) (by kernel_rfl)) hO hA ?_ ?_
    · exact
        OblsR.cons (OblR.plain rfl rfl rfl rfl fun A' R' w' ho hd => by have a0 : R' 1 = (.pointer (some ⟨b1_0, 0, none⟩)) := (ho.old 1 rfl).trans h1; exact (of_load_box (ho.rd 0 _ rfl rfl) a0 (Fld.id _) rfl Try.isAgg24 Try.sizeOf24)) <|
        OblsR.cons (OblR.madeS _ rfl rfl rfl rfl fun A' R' w' ho hd => by have a0 : Rep E_laws_RuleSet A' w' (R' 29) p0 := hd 0 _ _ _ rfl rfl rfl rfl rfl; exact made_callT Try.call9 (M_laws_toRuleSet_ok (q12 rfl) ho.av a0) (fun k hk => Nat.le_trans (Nat.le_trans hF.size ho.ch.size) hk)) <|
        OblsR.cons (OblR.madeS _ rfl rfl rfl rfl fun A' R' w' ho hd => by exact made_allocT Try.zeroValue29 (fun A w => own_nil) (fun k hk => Nat.le_trans (Nat.le_trans hF.size ho.ch.size) hk)) <|
        OblsR.cons (OblR.tookM 3 [2] _ rfl rfl rfl rfl fun A' R' w' ho hd ρ σ hok hav hin hop hds hdd => by have k1 := hok 3 (.head _) _ rfl; exact took_put2 rfl (tr_root k1.2.2).ptr (hok 2 (.tail _ (.head _)) _ rfl).2.2.1 (hop 2 (.tail _ (.head _)) _ _ rfl rfl rfl rfl).symm (hop 3 (.head _) _ _ rfl rfl rfl rfl).symm hav hdd k1.2.1 (hok 2 (.tail _ (.head _)) _ rfl).2.1 Try.sizeOf29 (fun _ _ _ h => h)) <|
        OblsR.nil
    intro done ρ σ A R w hdn hI
    replace h1 : R 1 = (.pointer (some ⟨b1_0, 0, none⟩)) := (hI.reg rfl).trans h1
    replace h4 : R 4 = u9 := (hI.reg rfl).trans h4
    replace h5 : R 5 = u10 := (hI.reg rfl).trans h5
    replace h6 : R 6 = .bool x7.2.2 := (hI.reg rfl).trans h6
    have z13 := hI.inivR 0 rfl
    obtain ⟨u14, e_u14⟩ : ∃ u, ρ 4 = u := ⟨_, rfl⟩
    have z15 := (hI.opnR hdn 4 3 rfl rfl rfl rfl rfl).symm.trans e_u14
    have h7 : R 7 = u14 := (hI.opvR hdn 3 2 rfl rfl rfl rfl rfl).symm.trans z15
    obtain ⟨S16, eS_u14⟩ : ∃ S, σ 4 = S := ⟨_, rfl⟩
    replace f_u10 := f_u10.stp hI.stp
    replace f_u9 := f_u9.stp hI.stp
    replace hAA := hI.low' hAA hA0 (hO.ge (⟨rfl, trivial⟩))
    replace hF : Fr w0 w := hF.tr hI.ch (hO.ge (⟨rfl, trivial⟩))
    replace hO : IniOK [ob (.pointer (some ⟨b1_0, 0, none⟩)) (.box w0.heap.size 24 E_laws_RuleSet p0), ⟨u14, S16, trR (geB w0.heap.size) (oPt 29 (oBx (oSl 79 (oBx (oSl 82 (oRd E_impl_Test)))))) x11 []⟩] A w := hI.left hdn [(0, ob (.pointer (some ⟨b1_0, 0, none⟩)) (.box w0.heap.size 24 E_laws_RuleSet p0)), (4, ⟨u14, S16, trR (geB w0.heap.size) (oPt 29 (oBx (oSl 79 (oBx (oSl 82 (oRd E_impl_Test)))))) x11 []⟩)] ⟨rfl, rfl, z13, rfl, rfl, ⟨rfl, rfl, e_u14, eS_u14, rfl, trivial⟩⟩
    replace hA := hI.avok
    clear hI
    refine HT.seq ?_
    refine SG.of ?_
    refine SG.op 32 rfl rfl rfl rfl (of_loadA0 (A0 := A0) (hO.own 1 _ rfl).2 h7 hAA (fun k o hk ha => Nat.not_lt.2 ((hO.own 1 _ rfl).1 k hk) (hA0 k o ha)) Try.isAgg29 Try.sizeOf29) ?_
    rintro u17 w1 ⟨hw_, f_u17⟩ R hs hd
    obtain rfl : w = w1 := hw_.symm
    have hst : Stp A A w w := (Fr.refl w).stp A
    replace h1 : R 1 = (.pointer (some ⟨b1_0, 0, none⟩)) := (hs 1 rfl).trans h1
    replace h4 : R 4 = u9 := (hs 4 rfl).trans h4
    replace h5 : R 5 = u10 := (hs 5 rfl).trans h5
    replace h6 : R 6 = .bool x7.2.2 := (hs 6 rfl).trans h6
    replace h7 : R 7 = u14 := (hs 7 rfl).trans h7
    replace f_u10 := f_u10.stp hst
    replace f_u9 := f_u9.stp hst
    have h32 : R 32 = u17 := hd
    clear hs hd hst
    obtain ⟨x18, q19, hr⟩ := cl_some hr
    have hFz : w0.heap.size ≤ w.heap.size := hF.size
    refine SG.op 33 rfl rfl rfl rfl (call_run Try.call13 (M_impl_MonotoneViolation_ok (q19 rfl) (hA00.fr hF.size) (f_u17.eq h32))) ?_
    rintro v_ w ⟨u20, u21, A1, hG1, hv⟩ R hs hd
    obtain ⟨A, hA2, hO2, hst, hA3⟩ := GPost.next0P hO hA hG1 ⟨obpure_vec (fun _ _ _ _ _ h => h), ⟨obpure_vec (fun _ _ _ _ _ h => h), trivial⟩⟩
    replace hO := hO2
    replace hA := hA3
    replace hAA : ∀ b o, A0 b o → A b o := fun b o h => hA2 b o (hAA b o h)
    replace hF : Fr w0 w := hF.trans hG1.ch.no
    replace hO := hO.reV (B' := w0.heap.size) 0 rfl hFz
    replace hO := hO.reV (B' := w0.heap.size) 1 rfl hFz
    replace hO : IniOK [ob u20 (.vec w0.heap.size 3 (eInt .i64) x18.1), ob u21 (.vec w0.heap.size 3 (eInt .i64) x18.2.1), ob (.pointer (some ⟨b1_0, 0, none⟩)) (.box w0.heap.size 24 E_laws_RuleSet p0), ⟨u14, S16, trR (geB w0.heap.size) (oPt 29 (oBx (oSl 79 (oBx (oSl 82 (oRd E_impl_Test)))))) x11 []⟩] A w := hO
    replace h1 : R 1 = (.pointer (some ⟨b1_0, 0, none⟩)) := (hs 1 rfl).trans h1
    replace h4 : R 4 = u9 := (hs 4 rfl).trans h4
    replace h5 : R 5 = u10 := (hs 5 rfl).trans h5
    replace h6 : R 6 = .bool x7.2.2 := (hs 6 rfl).trans h6
    replace h7 : R 7 = u14 := (hs 7 rfl).trans h7
    replace f_u10 := f_u10.stp hst
    replace f_u9 := f_u9.stp hst
    have h33 : Fact.ok (.tup3 (.raw u20) (.raw u21) (.raw (.bool x18.2.2))) (R 33) w := hd ▸ hv
    clear hFz hG1 hv hs hd
    refine SG.textR [ob u20 (.vec w0.heap.size 3 (eInt .i64) x18.1), ob u21 (.vec w0.heap.size 3 (eInt .i64) x18.2.1), ob (.pointer (some ⟨b1_0, 0, none⟩)) (.box w0.heap.size 24 E_laws_RuleSet p0), ⟨u14, S16, trR (geB w0.heap.size) (oPt 29 (oBx (oSl 79 (oBx (oSl 82 (oRd E_impl_Test)))))) x11 []⟩] (⟨_, true, [], none, true, fun A => .any⟩ :: ⟨_, true, [], none, true, fun A => .tup3 (.raw u20) (.raw u21) (.raw (.bool x18.2.2))⟩ :: ⟨_, true, [], none, true, fun A => .tup3 (.raw u20) (.raw u21) (.raw (.bool x18.2.2))⟩ :: ⟨_, true, [], none, true, fun A => .raw u20⟩ :: ⟨_, true, [], none, true, fun A => .raw u21⟩ :: ⟨_, true, [], none, true, fun A => .raw (.bool x18.2.2)⟩ :: ⟨_, true, [], none, true, fun A => .raw u20⟩ :: ⟨_, true, [], none, true, fun A => .raw u21⟩ :: ⟨_, true, [], none, true, fun A => .raw (.bool x18.2.2)⟩ :: []) 9 rfl rfl rfl (by kernel_rfl) (by kernel_rfl) (Wf.mk' (by kernel_rfl) (UAll.cons ust_any (UAll.cons (ust_tup3 ust_raw ust_raw ust_raw) (UAll.cons (ust_tup3 ust_raw ust_raw ust_raw) (UAll.cons ust_raw (UAll.cons ust_raw (UAll.cons ust_raw (UAll.cons ust_raw (UAll.cons ust_raw (UAll.cons ust_raw (UAll.nil)))))))))) (by kernel_rfl) (by kernel_rfl)) hO hA (⟨⟨rfl, rfl, rfl, trivial⟩, ⟨⟨rfl, rfl, rfl, h33⟩, trivial⟩⟩) ?_ ?_
    · exact
        OblsR.cons (OblR.plain rfl rfl rfl rfl fun A' R' w' ho hd => by have a0 : Fact.ok (.tup3 (.raw u20) (.raw u21) (.raw (.bool x18.2.2))) (R' 33) w' := hd 0 _ _ _ rfl rfl rfl rfl rfl; exact of_move a0) <|
        OblsR.cons (OblR.plain rfl rfl rfl rfl fun A' R' w' ho hd => by have a0 : Fact.ok (.tup3 (.raw u20) (.raw u21) (.raw (.bool x18.2.2))) (R' 31) w' := hd 0 _ _ _ rfl rfl rfl rfl rfl; exact of_extract3_0 a0) <|
        OblsR.cons (OblR.plain rfl rfl rfl rfl fun A' R' w' ho hd => by have a0 : Fact.ok (.tup3 (.raw u20) (.raw u21) (.raw (.bool x18.2.2))) (R' 31) w' := hd 0 _ _ _ rfl rfl rfl rfl rfl; exact of_extract3_1 a0) <|
        OblsR.cons (OblR.plain rfl rfl rfl rfl fun A' R' w' ho hd => by have a0 : Fact.ok (.tup3 (.raw u20) (.raw u21) (.raw (.bool x18.2.2))) (R' 31) w' := hd 0 _ _ _ rfl rfl rfl rfl rfl; exact of_extract3_2 a0) <|
        OblsR.cons (OblR.plain rfl rfl rfl rfl fun A' R' w' ho hd => by have a0 : R' 34 = u20 := hd 0 _ _ _ rfl rfl rfl rfl rfl; exact of_assign a0) <|
        OblsR.cons (OblR.plain rfl rfl rfl rfl fun A' R' w' ho hd => by have a0 : R' 35 = u21 := hd 0 _ _ _ rfl rfl rfl rfl rfl; exact of_assign a0) <|
        OblsR.cons (OblR.plain rfl rfl rfl rfl fun A' R' w' ho hd => by have a0 : R' 36 = .bool x18.2.2 := hd 0 _ _ _ rfl rfl rfl rfl rfl; exact of_assign a0) <|
        OblsR.nil
    intro done ρ σ A R w hdn hI
    replace h1 : R 1 = (.pointer (some ⟨b1_0, 0, none⟩)) := (hI.reg rfl).trans h1
    replace h4 : R 4 = u9 := (hI.reg rfl).trans h4
    replace h5 : R 5 = u10 := (hI.reg rfl).trans h5
    replace h6 : R 6 = .bool x7.2.2 := (hI.reg rfl).trans h6
    replace h7 : R 7 = u14 := (hI.reg rfl).trans h7
    have z22 := hI.inivR 0 rfl
    have z23 := hI.inivR 1 rfl
    have z24 := hI.inivR 2 rfl
    have z25 := hI.inivR 3 rfl
    have eS_u14 := hI.inisR 3 rfl
    have h8 : R 8 = u20 := hI.fact hdn (i := 6) rfl rfl rfl
    have h9 : R 9 = u21 := hI.fact hdn (i := 7) rfl rfl rfl
    have h10 : R 10 = .bool x18.2.2 := hI.fact hdn (i := 8) rfl rfl rfl
    replace f_u10 := f_u10.stp hI.stp
    replace f_u9 := f_u9.stp hI.stp
    replace hAA := hI.low' hAA hA0 (hO.ge (⟨rfl, ⟨rfl, ⟨rfl, ⟨fun _ h => h, trivial⟩⟩⟩⟩))
    replace hF : Fr w0 w := hF.tr hI.ch (hO.ge (⟨rfl, ⟨rfl, ⟨rfl, ⟨fun _ h => h, trivial⟩⟩⟩⟩))
    replace hO : IniOK [ob u20 (.vec w0.heap.size 3 (eInt .i64) x18.1), ob u21 (.vec w0.heap.size 3 (eInt .i64) x18.2.1), ob (.pointer (some ⟨b1_0, 0, none⟩)) (.box w0.heap.size 24 E_laws_RuleSet p0), ⟨u14, S16, trR (geB w0.heap.size) (oPt 29 (oBx (oSl 79 (oBx (oSl 82 (oRd E_impl_Test)))))) x11 []⟩] A w := hI.left hdn [(0, ob u20 (.vec w0.heap.size 3 (eInt .i64) x18.1)), (1, ob u21 (.vec w0.heap.size 3 (eInt .i64) x18.2.1)), (2, ob (.pointer (some ⟨b1_0, 0, none⟩)) (.box w0.heap.size 24 E_laws_RuleSet p0)), (3, ⟨u14, S16, trR (geB w0.heap.size) (oPt 29 (oBx (oSl 79 (oBx (oSl 82 (oRd E_impl_Test)))))) x11 []⟩)] ⟨rfl, rfl, z22, rfl, rfl, ⟨rfl, rfl, z23, rfl, rfl, ⟨rfl, rfl, z24, rfl, rfl, ⟨rfl, rfl, z25, eS_u14, rfl, trivial⟩⟩⟩⟩
    replace hA := hI.avok
    clear hI
    refine SG.fin rfl ?_
    refine HT.seq ?_
    refine HT.seq ?_
    obtain ⟨x26, q27, hr⟩ := cl_some hr
    obtain ⟨x28, q29, hr⟩ := cl_some hr
    obtain ⟨x30, q31, hr⟩ := bd_some hr
    obtain ⟨x32, q33, hr⟩ := bd_some hr
    refine HT.text (l := ⟨_, true, .raw u20⟩ :: ⟨_, true, .raw u9⟩ :: ⟨_, true, .raw (.bool x26)⟩ :: ⟨_, true, .raw (.bool (!x26))⟩ :: ⟨_, true, .raw (.bool (!x26))⟩ :: ⟨_, (true && ((!x26) == false)), .raw u21⟩ :: ⟨_, (true && ((!x26) == false)), .raw u10⟩ :: ⟨_, (true && ((!x26) == false)), .raw (.bool x28)⟩ :: ⟨_, (true && ((!x26) == false)), .raw (.bool (!x28))⟩ :: ⟨_, true, .raw (.bool x30)⟩ :: ⟨_, true, .raw (.bool x30)⟩ :: ⟨_, (true && (x30 == false)), .raw (.bool x18.2.2)⟩ :: ⟨_, (true && (x30 == false)), .raw (.bool x7.2.2)⟩ :: ⟨_, (true && (x30 == false)), .raw (.bool (x18.2.2 != x7.2.2))⟩ :: ⟨_, true, .raw (.bool x32)⟩ :: []) (tl := []) (by kernel_rfl) (by kernel_rfl) (by kernel_rfl) ?_ ?_
    · exact
        Obls.cons (Obl.plain rfl rfl fun R' w' hw hs hd => by have a0 : R' 8 = u20 := (hs 8 rfl).trans h8; exact of_move a0) <|
        Obls.cons (Obl.plain rfl rfl fun R' w' hw hs hd => by have a0 : R' 4 = u9 := (hs 4 rfl).trans h4; exact of_move a0) <|
        Obls.cons (Obl.plain rfl rfl fun R' w' hw hs hd => by have a0 : R' 37 = u20 := hd 0 _ _ _ rfl rfl rfl rfl rfl; have ra0 := (vec_rep ((hO.fr hw).ok 0 _ rfl).1 hAA hA0).eq a0; have a1 : R' 38 = u9 := hd 1 _ _ _ rfl rfl rfl rfl rfl; have ra1 := (f_u9.fr hw).eq a1; exact of_call Try.call14 (M_laws_eqIntS_ok (q27 rfl) (hA00.fr ((Nat.le_trans hF.size hw.size))) ra0 (ra1.down hAA))) <|
        Obls.cons (Obl.plain rfl rfl fun R' w' hw hs hd => by have a0 : R' 39 = .bool x26 := hd 0 _ _ _ rfl rfl rfl rfl rfl; exact of_not a0) <|
        Obls.cons (Obl.plain rfl rfl fun R' w' hw hs hd => by have a0 : R' 40 = .bool (!x26) := hd 0 _ _ _ rfl rfl rfl rfl rfl; exact of_move a0) <|
        Obls.cons (Obl.grd 4 false _ _ _ rfl rfl rfl rfl rfl (by kernel_rfl) fun hg R' w' hw hs hd => by have a0 : R' 9 = u21 := (hs 9 rfl).trans h9; exact of_move a0) <|
        Obls.cons (Obl.grd 4 false _ _ _ rfl rfl rfl rfl rfl (by kernel_rfl) fun hg R' w' hw hs hd => by have a0 : R' 5 = u10 := (hs 5 rfl).trans h5; exact of_move a0) <|
        Obls.cons (Obl.grd 4 false _ _ _ rfl rfl rfl rfl rfl (by kernel_rfl) fun hg R' w' hw hs hd => by have a0 : R' 42 = u21 := hd 0 _ _ _ rfl rfl rfl rfl hg; have ra0 := (vec_rep ((hO.fr hw).ok 1 _ rfl).1 hAA hA0).eq a0; have a1 : R' 43 = u10 := hd 1 _ _ _ rfl rfl rfl rfl hg; have ra1 := (f_u10.fr hw).eq a1; exact of_call Try.call14 (M_laws_eqIntS_ok (q29 hg) (hA00.fr ((Nat.le_trans hF.size hw.size))) ra0 (ra1.down hAA))) <|
        Obls.cons (Obl.grd 4 false _ _ _ rfl rfl rfl rfl rfl (by kernel_rfl) fun hg R' w' hw hs hd => by have a0 : R' 44 = .bool x28 := hd 0 _ _ _ rfl rfl rfl rfl hg; exact of_not a0) <|
        Obls.cons (Obl.plain rfl rfl fun R' w' hw hs hd => by have a0 : R' 41 = .bool (!x26) := hd 0 _ _ _ rfl rfl rfl rfl rfl; exact of_pick (!x26) a0 (fun hc => by show _ = Value.bool x30; rw [q31, hc]; exact rfl) (fun hc => by have a2 : R' 45 = .bool (!x28) := hd 1 _ _ _ rfl rfl rfl rfl (g_and rfl (beq_of hc)); show _ = Value.bool x30; rw [q31, hc]; exact a2)) <|
        Obls.cons (Obl.plain rfl rfl fun R' w' hw hs hd => by have a0 : R' 46 = .bool x30 := hd 0 _ _ _ rfl rfl rfl rfl rfl; exact of_move a0) <|
        Obls.cons (Obl.grd 10 false _ _ _ rfl rfl rfl rfl rfl (by kernel_rfl) fun hg R' w' hw hs hd => by have a0 : R' 10 = .bool x18.2.2 := (hs 10 rfl).trans h10; exact of_move a0) <|
        Obls.cons (Obl.grd 10 false _ _ _ rfl rfl rfl rfl rfl (by kernel_rfl) fun hg R' w' hw hs hd => by have a0 : R' 6 = .bool x7.2.2 := (hs 6 rfl).trans h6; exact of_move a0) <|
        Obls.cons (Obl.grd 10 false _ _ _ rfl rfl rfl rfl rfl (by kernel_rfl) fun hg R' w' hw hs hd => by have a0 : R' 48 = .bool x18.2.2 := hd 0 _ _ _ rfl rfl rfl rfl hg; have a1 : R' 49 = .bool x7.2.2 := hd 1 _ _ _ rfl rfl rfl rfl hg; exact of_bneq Try.underlying4 a0 a1) <|
        Obls.cons (Obl.plain rfl rfl fun R' w' hw hs hd => by have a0 : R' 47 = .bool x30 := hd 0 _ _ _ rfl rfl rfl rfl rfl; exact of_pick x30 a0 (fun hc => by show _ = Value.bool x32; rw [q33, hc]; exact rfl) (fun hc => by have a2 : R' 50 = .bool (x18.2.2 != x7.2.2) := hd 1 _ _ _ rfl rfl rfl rfl (g_and rfl (beq_of hc)); show _ = Value.bool x32; rw [q33, hc]; exact a2)) <|
        Obls.nil
    intro R w hw hs hF'
    replace h1 : R 1 = (.pointer (some ⟨b1_0, 0, none⟩)) := (hs 1 rfl).trans h1
    replace h4 : R 4 = u9 := (hs 4 rfl).trans h4
    replace h5 : R 5 = u10 := (hs 5 rfl).trans h5
    replace h6 : R 6 = .bool x7.2.2 := (hs 6 rfl).trans h6
    replace h7 : R 7 = u14 := (hs 7 rfl).trans h7
    replace h8 : R 8 = u20 := (hs 8 rfl).trans h8
    replace h9 : R 9 = u21 := (hs 9 rfl).trans h9
    replace h10 : R 10 = .bool x18.2.2 := (hs 10 rfl).trans h10
    have h51 : R 51 = .bool x32 := hF' 14 _ _ rfl rfl rfl
    replace f_u10 := f_u10.fr hw
    replace f_u9 := f_u9.fr hw
    replace hO := hO.fr hw
    replace hA := hA.fr hw.size
    replace hF := hF.trans hw
    clear hs hF' hw
    refine seqR_nil ?_
    refine HT.cond x32 h51 (fun c34 => ?_) (fun c34 => ?_)
    · have hr := cnd_t c34 hr
      refine HT.seq ?_
      refine HT.text (l := ⟨_, true, .raw (.bool false)⟩ :: []) (tl := []) (by kernel_rfl) (by kernel_rfl) (by kernel_rfl) ?_ ?_
      · exact
          Obls.cons (Obl.plain rfl rfl fun R' w' hw hs hd => by exact of_assign rfl) <|
          Obls.nil
      intro R w hw hs hF'
      have h2 : R 2 = .bool false := hF' 0 _ _ rfl rfl rfl
      replace hO := hO.fr hw
      replace hO : IniOK [] A w := hO.sub [] trivial
      replace hA := hA.fr hw.size
      replace hF := hF.trans hw
      clear hs hF' hw
      refine seqR_nil ?_
      refine HT.ret ?_
      obtain rfl := Option.some.inj hr
      exact ⟨.inr rfl, [R 2], ⟨rfl, trivial⟩, h2, hF⟩
    · have hr := cnd_f c34 hr
      refine HT.skip ?_
      refine HT.seq ?_
      refine HT.seq ?_
      obtain ⟨h35, l_h35, p_h35⟩ := ((tr_root (hO.own 3 _ rfl).2).ptr).open
      replace hO : IniOK [ob u20 (.vec w0.heap.size 3 (eInt .i64) x18.1), ob u21 (.vec w0.heap.size 3 (eInt .i64) x18.2.1), ob (.pointer (some ⟨b1_0, 0, none⟩)) (.box w0.heap.size 24 E_laws_RuleSet p0), ⟨u14, S16, trR (geB w0.heap.size) (oPt 29 (oBx (oSl 79 (oBx (oSl 82 (oRd E_impl_Test)))))) x11 [(u14, h35)]⟩] A w := hO.repin 3 rfl (trP.pin p_h35)
      obtain ⟨x37, q38, hr⟩ := cl_some hr
      obtain ⟨x39, q40, hr⟩ := cl_some hr
      refine HT.draw (by kernel_rfl) (l := ⟨_, true, .raw (Enc.val E_impl_RuleSet h35)⟩ :: ⟨_, true, .rep E_laws_RuleSet A p0⟩ :: ⟨_, true, .rep E_impl_RuleSet A x37⟩ :: ⟨_, true, .raw (.bool x39)⟩ :: ⟨_, true, .raw (.bool (!x39))⟩ :: []) (tl := []) (by kernel_rfl) (by kernel_rfl) (by kernel_rfl) (by kernel_rfl) ?_ ?_
      · exact
          Obls.cons (Obl.plain rfl rfl fun R' w' hw hs hd => by have a0 : R' 7 = u14 := (hs 7 rfl).trans h7; exact of_load_pinS (F := oBx (oSl 79 (oBx (oSl 82 (oRd E_impl_Test))))) (((hO.fr hw).own 3 _ rfl).2.2 _ (.head _)) l_h35 a0 Try.isAgg29 Try.sizeOf29) <|
          Obls.cons (Obl.plain rfl rfl fun R' w' hw hs hd => by have a0 : R' 1 = (.pointer (some ⟨b1_0, 0, none⟩)) := (hs 1 rfl).trans h1; exact (of_load_box ((hO.fr hw).ok 2 _ rfl).1 a0 (Fld.id _) rfl Try.isAgg24 Try.sizeOf24)) <|
          Obls.cons (Obl.plain rfl rfl fun R' w' hw hs hd => by have a0 : Rep E_laws_RuleSet A w' (R' 53) p0 := hd 0 _ _ _ rfl rfl rfl rfl rfl; exact of_call Try.call9 (M_laws_toRuleSet_okR (q38 rfl) (hA.fr hw.size) a0)) <|
          Obls.cons (Obl.plain rfl rfl fun R' w' hw hs hd => by have a0 : R' 52 = (Enc.val E_impl_RuleSet h35) := hd 0 _ _ _ rfl rfl rfl rfl rfl; have ra0 : Rep E_impl_RuleSet A0 w' (R' 52) _ := (vh_rep (((tr_root ((hO.fr hw).own 3 _ rfl).2).ptr).pinS (((hO.fr hw).own 3 _ rfl).2.2 _ (.head _)) l_h35) hAA (fun k o hk ha => Nat.not_lt.2 (((hO.fr hw).own 3 _ rfl).1 k hk) (hA0 k o ha))).eq a0; have a1 : Rep E_impl_RuleSet A w' (R' 54) x37 := hd 1 _ _ _ rfl rfl rfl rfl rfl; exact of_call Try.call11 (M_laws_eqRuleSet_ok (q40 rfl) (hA00.fr ((Nat.le_trans hF.size hw.size))) ra0 (a1.down hAA))) <|
          Obls.cons (Obl.plain rfl rfl fun R' w' hw hs hd => by have a0 : R' 55 = .bool x39 := hd 0 _ _ _ rfl rfl rfl rfl rfl; exact of_not a0) <|
          Obls.nil
      intro R w hw hs hF'
      replace h1 : R 1 = (.pointer (some ⟨b1_0, 0, none⟩)) := (hs 1 rfl).trans h1
      replace h4 : R 4 = u9 := (hs 4 rfl).trans h4
      replace h5 : R 5 = u10 := (hs 5 rfl).trans h5
      replace h6 : R 6 = .bool x7.2.2 := (hs 6 rfl).trans h6
      replace h7 : R 7 = u14 := (hs 7 rfl).trans h7
      replace h8 : R 8 = u20 := (hs 8 rfl).trans h8
      replace h9 : R 9 = u21 := (hs 9 rfl).trans h9
      replace h10 : R 10 = .bool x18.2.2 := (hs 10 rfl).trans h10
      have h56 : R 56 = .bool (!x39) := hF' 4 _ _ rfl rfl rfl
      replace f_u10 := f_u10.fr hw
      replace f_u9 := f_u9.fr hw
      replace hO := hO.fr hw
      replace hA := hA.fr hw.size
      replace hF := hF.trans hw
      clear hs hF' hw
      refine seqR_nil ?_
      replace hO : IniOK [ob u20 (.vec w0.heap.size 3 (eInt .i64) x18.1), ob u21 (.vec w0.heap.size 3 (eInt .i64) x18.2.1), ob (.pointer (some ⟨b1_0, 0, none⟩)) (.box w0.heap.size 24 E_laws_RuleSet p0), ⟨u14, S16, trR (geB w0.heap.size) (oPt 29 (oBx (oSl 79 (oBx (oSl 82 (oRd E_impl_Test)))))) x11 []⟩] A w := hO.repin 3 rfl trP.nopin
      refine HT.cond (!x39) h56 (fun c41 => ?_) (fun c41 => ?_)
      · have hr := cnd_t c41 hr
        refine HT.seq ?_
        refine HT.text (l := ⟨_, true, .raw (.bool false)⟩ :: []) (tl := []) (by kernel_rfl) (by kernel_rfl) (by kernel_rfl) ?_ ?_
        · exact
            Obls.cons (Obl.plain rfl rfl fun R' w' hw hs hd => by exact of_assign rfl) <|
            Obls.nil
        intro R w hw hs hF'
        have h2 : R 2 = .bool false := hF' 0 _ _ rfl rfl rfl
        replace hO := hO.fr hw
        replace hO : IniOK [] A w := hO.sub [] trivial
        replace hA := hA.fr hw.size
        replace hF := hF.trans hw
        clear hs hF' hw
        refine seqR_nil ?_
        refine HT.ret ?_
        obtain rfl := Option.some.inj hr
        exact ⟨.inr rfl, [R 2], ⟨rfl, trivial⟩, h2, hF⟩
      · have hr := cnd_f c41 hr
        refine HT.skip ?_
        refine HT.seq ?_
        refine HT.text (l := ⟨_, true, .raw (.int .i64 (1 : Int))⟩ :: []) (tl := []) (by kernel_rfl) (by kernel_rfl) (by kernel_rfl) ?_ ?_
        · exact
            Obls.cons (Obl.plain rfl rfl fun R' w' hw hs hd => by exact of_assign rfl) <|
            Obls.nil
        intro R w hw hs hF'
        replace h1 : R 1 = (.pointer (some ⟨b1_0, 0, none⟩)) := (hs 1 rfl).trans h1
        replace h4 : R 4 = u9 := (hs 4 rfl).trans h4
        replace h5 : R 5 = u10 := (hs 5 rfl).trans h5
        replace h6 : R 6 = .bool x7.2.2 := (hs 6 rfl).trans h6
        replace h7 : R 7 = u14 := (hs 7 rfl).trans h7
        replace h8 : R 8 = u20 := (hs 8 rfl).trans h8
        replace h9 : R 9 = u21 := (hs 9 rfl).trans h9
        replace h10 : R 10 = .bool x18.2.2 := (hs 10 rfl).trans h10
        have h11 : R 11 = .int .i64 (1 : Int) := hF' 0 _ _ rfl rfl rfl
        replace f_u10 := f_u10.fr hw
        replace f_u9 := f_u9.fr hw
        replace hO := hO.fr hw
        replace hA := hA.fr hw.size
        replace hF := hF.trans hw
        clear hs hF' hw
        refine seqR_nil ?_
        refine HT.seq ?_
        obtain ⟨h42, l_h42, p_h42⟩ := ((tr_root (hO.own 3 _ rfl).2).ptr).open
        replace hO : IniOK [ob u20 (.vec w0.heap.size 3 (eInt .i64) x18.1), ob u21 (.vec w0.heap.size 3 (eInt .i64) x18.2.1), ob (.pointer (some ⟨b1_0, 0, none⟩)) (.box w0.heap.size 24 E_laws_RuleSet p0), ⟨u14, S16, trR (geB w0.heap.size) (oPt 29 (oBx (oSl 79 (oBx (oSl 82 (oRd E_impl_Test)))))) x11 [(u14, h42)]⟩] A w := hO.repin 3 rfl (trP.pin p_h42)
        obtain ⟨x44, q45, hr⟩ := cl_some hr
        refine HT.textR [ob u20 (.vec w0.heap.size 3 (eInt .i64) x18.1), ob u21 (.vec w0.heap.size 3 (eInt .i64) x18.2.1), ob (.pointer (some ⟨b1_0, 0, none⟩)) (.box w0.heap.size 24 E_laws_RuleSet p0), ⟨u14, S16, trR (geB w0.heap.size) (oPt 29 (oBx (oSl 79 (oBx (oSl 82 (oRd E_impl_Test)))))) x11 [(u14, h42)]⟩] (⟨_, true, [], none, true, fun A => .raw (Enc.val E_impl_RuleSet h42)⟩ :: ⟨_, true, [], none, true, fun A => .raw (.int .i64 (1 : Int))⟩ :: ⟨_, true, [3], some (trR (geB w0.heap.size) (oPt 29 (oBx (oSl 79 (oBx (oSl 82 (oRd E_impl_Test)))))) x44.2 []), false, fun A => .raw (.int .i64 x44.1)⟩ :: ⟨_, true, [], none, true, fun A => .raw (.int .i64 x44.1)⟩ :: []) (by kernel_rfl) (by kernel_rfl) (Wf.mk' (by kernel_rfl) (UAll.cons ust_raw (UAll.cons ust_raw (UAll.cons ust_raw (UAll.cons ust_raw (UAll.nil))))) (by kernel_rfl) (by kernel_rfl)) hO hA ?_ ?_
        · exact
            OblsR.cons (OblR.plain rfl rfl rfl rfl fun A' R' w' ho hd => by have a0 : R' 7 = u14 := (ho.old 7 rfl).trans h7; exact of_load_pinS (F := oBx (oSl 79 (oBx (oSl 82 (oRd E_impl_Test))))) ((ho.rdo 3 _ rfl rfl).2.2 _ (.head _)) l_h42 a0 Try.isAgg29 Try.sizeOf29) <|
            OblsR.cons (OblR.plain rfl rfl rfl rfl fun A' R' w' ho hd => by have a0 : R' 11 = .int .i64 (1 : Int) := (ho.old 11 rfl).trans h11; exact of_move a0) <|
            OblsR.cons (OblR.tookS 3 _ _ rfl rfl rfl rfl rfl fun A' R' w' ho hd u S hok hown hav hin hop hds => by have a0 : R' 57 = (Enc.val E_impl_RuleSet h42) := hd 0 _ _ _ rfl rfl rfl rfl rfl; have a1 : R' 58 = .int .i64 (1 : Int) := hd 1 _ _ _ rfl rfl rfl rfl rfl; have e0 := (hin _ rfl).1; rw [e0] at hown ⊢; have hu0 : evalR R' (.tmp 57) = (Enc.val E_impl_RuleSet h42) := a0; exact took_callT Try.call15 (((tr_root hown.2).ptr).pinS (hown.2.2 _ (.head _)) l_h42) hav hown.1 (fun k hk => Nat.le_trans (Nat.le_trans hF.size ho.ch.size) hk) (fun k hk => SP.lt _ hown.2 hk) (fun S1 hS1 hP => by simp only [List.map, hu0]; exact M_laws_markRuleSet_ok (q45 rfl) (ho.av.subS _) (fun b o h => h.2) hP a1) (fun _ _ _ h => h)) <|
            OblsR.cons (OblR.plain rfl rfl rfl rfl fun A' R' w' ho hd => by have a0 : R' 59 = .int .i64 x44.1 := hd 0 _ _ _ rfl rfl rfl rfl rfl; exact of_assign a0) <|
            OblsR.nil
        intro done ρ σ A R w hdn hI
        replace h1 : R 1 = (.pointer (some ⟨b1_0, 0, none⟩)) := (hI.reg rfl).trans h1
        replace h4 : R 4 = u9 := (hI.reg rfl).trans h4
        replace h5 : R 5 = u10 := (hI.reg rfl).trans h5
        replace h6 : R 6 = .bool x7.2.2 := (hI.reg rfl).trans h6
        replace h8 : R 8 = u20 := (hI.reg rfl).trans h8
        replace h9 : R 9 = u21 := (hI.reg rfl).trans h9
        replace h10 : R 10 = .bool x18.2.2 := (hI.reg rfl).trans h10
        have z46 := hI.inivR 0 rfl
        have z47 := hI.inivR 1 rfl
        have z48 := hI.inivR 2 rfl
        have z49 := hI.inivR 3 rfl
        have z50 := (hI.opnR hdn 6 2 rfl rfl rfl rfl rfl).trans z49
        obtain ⟨S51, eS_u14⟩ : ∃ S, σ 6 = S := ⟨_, rfl⟩
        have h11 : R 11 = .int .i64 x44.1 := hI.fact hdn (i := 3) rfl rfl rfl
        replace f_u10 := f_u10.stp hI.stp
        replace f_u9 := f_u9.stp hI.stp
        replace hAA := hI.low' hAA hA0 (hO.ge (⟨rfl, ⟨rfl, ⟨rfl, ⟨fun _ h => h, trivial⟩⟩⟩⟩))
        replace hF : Fr w0 w := hF.tr hI.ch (hO.ge (⟨rfl, ⟨rfl, ⟨rfl, ⟨fun _ h => h, trivial⟩⟩⟩⟩))
        replace hO : IniOK [ob u20 (.vec w0.heap.size 3 (eInt .i64) x18.1), ob u21 (.vec w0.heap.size 3 (eInt .i64) x18.2.1), ob (.pointer (some ⟨b1_0, 0, none⟩)) (.box w0.heap.size 24 E_laws_RuleSet p0)] A w := hI.left hdn [(0, ob u20 (.vec w0.heap.size 3 (eInt .i64) x18.1)), (1, ob u21 (.vec w0.heap.size 3 (eInt .i64) x18.2.1)), (2, ob (.pointer (some ⟨b1_0, 0, none⟩)) (.box w0.heap.size 24 E_laws_RuleSet p0))] ⟨rfl, rfl, z46, rfl, rfl, ⟨rfl, rfl, z47, rfl, rfl, ⟨rfl, rfl, z48, rfl, rfl, trivial⟩⟩⟩
        replace hA := hI.avok
        clear hI
        refine HT.seq ?_
        refine HT.seq ?_
        obtain ⟨x52, q53, hr⟩ := cl_some hr
        obtain ⟨x54, q55, hr⟩ := bd_some hr
        obtain ⟨x56, q57, hr⟩ := cl_some hr
        obtain ⟨x58, q59, hr⟩ := bd_some hr
        obtain ⟨x60, q61, hr⟩ := bd_some hr
        refine HT.text (l := ⟨_, true, .raw (.int .i64 x44.1)⟩ :: ⟨_, true, .raw (.bool (decide (x44.1 < (0 : Int))))⟩ :: ⟨_, true, .raw (.bool (decide (x44.1 < (0 : Int))))⟩ :: ⟨_, (true && ((decide (x44.1 < (0 : Int))) == false)), .raw u20⟩ :: ⟨_, (true && ((decide (x44.1 < (0 : Int))) == false)), .raw u9⟩ :: ⟨_, (true && ((decide (x44.1 < (0 : Int))) == false)), .raw (.bool x52)⟩ :: ⟨_, (true && ((decide (x44.1 < (0 : Int))) == false)), .raw (.bool (!x52))⟩ :: ⟨_, true, .raw (.bool x54)⟩ :: ⟨_, true, .raw (.bool x54)⟩ :: ⟨_, (true && (x54 == false)), .raw u21⟩ :: ⟨_, (true && (x54 == false)), .raw u10⟩ :: ⟨_, (true && (x54 == false)), .raw (.bool x56)⟩ :: ⟨_, (true && (x54 == false)), .raw (.bool (!x56))⟩ :: ⟨_, true, .raw (.bool x58)⟩ :: ⟨_, true, .raw (.bool x58)⟩ :: ⟨_, (true && (x58 == false)), .raw (.bool x18.2.2)⟩ :: ⟨_, (true && (x58 == false)), .raw (.bool x7.2.2)⟩ :: ⟨_, (true && (x58 == false)), .raw (.bool (x18.2.2 != x7.2.2))⟩ :: ⟨_, true, .raw (.bool x60)⟩ :: []) (tl := []) (by kernel_rfl) (by kernel_rfl) (by kernel_rfl) ?_ ?_
        · exact
            Obls.cons (Obl.plain rfl rfl fun R' w' hw hs hd => by have a0 : R' 11 = .int .i64 x44.1 := (hs 11 rfl).trans h11; exact of_move a0) <|
            Obls.cons (Obl.plain rfl rfl fun R' w' hw hs hd => by have a0 : R' 60 = .int .i64 x44.1 := hd 0 _ _ _ rfl rfl rfl rfl rfl; exact of_lss a0 rfl) <|
            Obls.cons (Obl.plain rfl rfl fun R' w' hw hs hd => by have a0 : R' 61 = .bool (decide (x44.1 < (0 : Int))) := hd 0 _ _ _ rfl rfl rfl rfl rfl; exact of_move a0) <|
            Obls.cons (Obl.grd 2 false _ _ _ rfl rfl rfl rfl rfl (by kernel_rfl) fun hg R' w' hw hs hd => by have a0 : R' 8 = u20 := (hs 8 rfl).trans h8; exact of_move a0) <|
            Obls.cons (Obl.grd 2 false _ _ _ rfl rfl rfl rfl rfl (by kernel_rfl) fun hg R' w' hw hs hd => by have a0 : R' 4 = u9 := (hs 4 rfl).trans h4; exact of_move a0) <|
            Obls.cons (Obl.grd 2 false _ _ _ rfl rfl rfl rfl rfl (by kernel_rfl) fun hg R' w' hw hs hd => by have a0 : R' 63 = u20 := hd 0 _ _ _ rfl rfl rfl rfl hg; have ra0 := (vec_rep ((hO.fr hw).ok 0 _ rfl).1 hAA hA0).eq a0; have a1 : R' 64 = u9 := hd 1 _ _ _ rfl rfl rfl rfl hg; have ra1 := (f_u9.fr hw).eq a1; exact of_call Try.call14 (M_laws_eqIntS_ok (q53 hg) (hA00.fr ((Nat.le_trans hF.size hw.size))) ra0 (ra1.down hAA))) <|
            Obls.cons (Obl.grd 2 false _ _ _ rfl rfl rfl rfl rfl (by kernel_rfl) fun hg R' w' hw hs hd => by have a0 : R' 65 = .bool x52 := hd 0 _ _ _ rfl rfl rfl rfl hg; exact of_not a0) <|
            Obls.cons (Obl.plain rfl rfl fun R' w' hw hs hd => by have a0 : R' 62 = .bool (decide (x44.1 < (0 : Int))) := hd 0 _ _ _ rfl rfl rfl rfl rfl; exact of_pick (decide (x44.1 < (0 : Int))) a0 (fun hc => by show _ = Value.bool x54; rw [q55, hc]; exact rfl) (fun hc => by have a2 : R' 66 = .bool (!x52) := hd 1 _ _ _ rfl rfl rfl rfl (g_and rfl (beq_of hc)); show _ = Value.bool x54; rw [q55, hc]; exact a2)) <|
            Obls.cons (Obl.plain rfl rfl fun R' w' hw hs hd => by have a0 : R' 67 = .bool x54 := hd 0 _ _ _ rfl rfl rfl rfl rfl; exact of_move a0) <|
            Obls.cons (Obl.grd 8 false _ _ _ rfl rfl rfl rfl rfl (by kernel_rfl) fun hg R' w' hw hs hd => by have a0 : R' 9 = u21 := (hs 9 rfl).trans h9; exact of_move a0) <|
            Obls.cons (Obl.grd 8 false _ _ _ rfl rfl rfl rfl rfl (by kernel_rfl) fun hg R' w' hw hs hd => by have a0 : R' 5 = u10 := (hs 5 rfl).trans h5; exact of_move a0) <|
            Obls.cons (Obl.grd 8 false _ _ _ rfl rfl rfl rfl rfl (by kernel_rfl) fun hg R' w' hw hs hd => by have a0 : R' 69 = u21 := hd 0 _ _ _ rfl rfl rfl rfl hg; have ra0 := (vec_rep ((hO.fr hw).ok 1 _ rfl).1 hAA hA0).eq a0; have a1 : R' 70 = u10 := hd 1 _ _ _ rfl rfl rfl rfl hg; have ra1 := (f_u10.fr hw).eq a1; exact of_call Try.call14 (M_laws_eqIntS_ok (q57 hg) (hA00.fr ((Nat.le_trans hF.size hw.size))) ra0 (ra1.down hAA))) <|
            Obls.cons (Obl.grd 8 false _ _ _ rfl rfl rfl rfl rfl (by kernel_rfl) fun hg R' w' hw hs hd => by have a0 : R' 71 = .bool x56 := hd 0 _ _ _ rfl rfl rfl rfl hg; exact of_not a0) <|
            Obls.cons (Obl.plain rfl rfl fun R' w' hw hs hd => by have a0 : R' 68 = .bool x54 := hd 0 _ _ _ rfl rfl rfl rfl rfl; exact of_pick x54 a0 (fun hc => by show _ = Value.bool x58; rw [q59, hc]; exact rfl) (fun hc => by have a2 : R' 72 = .bool (!x56) := hd 1 _ _ _ rfl rfl rfl rfl (g_and rfl (beq_of hc)); show _ = Value.bool x58; rw [q59, hc]; exact a2)) <|
            Obls.cons (Obl.plain rfl rfl fun R' w' hw hs hd => by have a0 : R' 73 = .bool x58 := hd 0 _ _ _ rfl rfl rfl rfl rfl; exact of_move a0) <|
            Obls.cons (Obl.grd 14 false _ _ _ rfl rfl rfl rfl rfl (by kernel_rfl) fun hg R' w' hw hs hd => by have a0 : R' 10 = .bool x18.2.2 := (hs 10 rfl).trans h10; exact of_move a0) <|
            Obls.cons (Obl.grd 14 false _ _ _ rfl rfl rfl rfl rfl (by kernel_rfl) fun hg R' w' hw hs hd => by have a0 : R' 6 = .bool x7.2.2 := (hs 6 rfl).trans h6; exact of_move a0) <|
            Obls.cons (Obl.grd 14 false _ _ _ rfl rfl rfl rfl rfl (by kernel_rfl) fun hg R' w' hw hs hd => by have a0 : R' 75 = .bool x18.2.2 := hd 0 _ _ _ rfl rfl rfl rfl hg; have a1 : R' 76 = .bool x7.2.2 := hd 1 _ _ _ rfl rfl rfl rfl hg; exact of_bneq Try.underlying4 a0 a1) <|
            Obls.cons (Obl.plain rfl rfl fun R' w' hw hs hd => by have a0 : R' 74 = .bool x58 := hd 0 _ _ _ rfl rfl rfl rfl rfl; exact of_pick x58 a0 (fun hc => by show _ = Value.bool x60; rw [q61, hc]; exact rfl) (fun hc => by have a2 : R' 77 = .bool (x18.2.2 != x7.2.2) := hd 1 _ _ _ rfl rfl rfl rfl (g_and rfl (beq_of hc)); show _ = Value.bool x60; rw [q61, hc]; exact a2)) <|
            Obls.nil
        intro R w hw hs hF'
        replace h1 : R 1 = (.pointer (some ⟨b1_0, 0, none⟩)) := (hs 1 rfl).trans h1
        replace h4 : R 4 = u9 := (hs 4 rfl).trans h4
        replace h5 : R 5 = u10 := (hs 5 rfl).trans h5
        replace h6 : R 6 = .bool x7.2.2 := (hs 6 rfl).trans h6
        replace h8 : R 8 = u20 := (hs 8 rfl).trans h8
        replace h9 : R 9 = u21 := (hs 9 rfl).trans h9
        have h78 : R 78 = .bool x60 := hF' 18 _ _ rfl rfl rfl
        replace f_u10 := f_u10.fr hw
        replace f_u9 := f_u9.fr hw
        replace hO := hO.fr hw
        replace hA := hA.fr hw.size
        replace hF := hF.trans hw
        clear hs hF' hw
        refine seqR_nil ?_
        refine HT.cond x60 h78 (fun c62 => ?_) (fun c62 => ?_)
        · have hr := cnd_t c62 hr
          refine HT.seq ?_
          refine HT.text (l := ⟨_, true, .raw (.bool false)⟩ :: []) (tl := []) (by kernel_rfl) (by kernel_rfl) (by kernel_rfl) ?_ ?_
          · exact
              Obls.cons (Obl.plain rfl rfl fun R' w' hw hs hd => by exact of_assign rfl) <|
              Obls.nil
          intro R w hw hs hF'
          have h2 : R 2 = .bool false := hF' 0 _ _ rfl rfl rfl
          replace hO := hO.fr hw
          replace hO : IniOK [] A w := hO.sub [] trivial
          replace hA := hA.fr hw.size
          replace hF := hF.trans hw
          clear hs hF' hw
          refine seqR_nil ?_
          refine HT.ret ?_
          obtain rfl := Option.some.inj hr
          exact ⟨.inr rfl, [R 2], ⟨rfl, trivial⟩, h2, hF⟩
        · have hr := cnd_f c62 hr
          refine HT.skip ?_
          refine HT.seq ?_
          refine HT.text (l := ⟨_, true, .raw (.int .i64 (1 : Int))⟩ :: []) (tl := []) (by kernel_rfl) (by kernel_rfl) (by kernel_rfl) ?_ ?_
          · exact
              Obls.cons (Obl.plain rfl rfl fun R' w' hw hs hd => by exact of_assign rfl) <|
              Obls.nil
          intro R w hw hs hF'
          replace h1 : R 1 = (.pointer (some ⟨b1_0, 0, none⟩)) := (hs 1 rfl).trans h1
          replace h4 : R 4 = u9 := (hs 4 rfl).trans h4
          replace h5 : R 5 = u10 := (hs 5 rfl).trans h5
          replace h6 : R 6 = .bool x7.2.2 := (hs 6 rfl).trans h6
          replace h8 : R 8 = u20 := (hs 8 rfl).trans h8
          replace h9 : R 9 = u21 := (hs 9 rfl).trans h9
          have h12 : R 12 = .int .i64 (1 : Int) := hF' 0 _ _ rfl rfl rfl
          replace f_u10 := f_u10.fr hw
          replace f_u9 := f_u9.fr hw
          replace hO := hO.fr hw
          replace hA := hA.fr hw.size
          replace hF := hF.trans hw
          clear hs hF' hw
          refine seqR_nil ?_
          refine HT.seq ?_
          obtain ⟨x63, q64, hr⟩ := cl_some hr
          refine HT.textR [ob u20 (.vec w0.heap.size 3 (eInt .i64) x18.1), ob u21 (.vec w0.heap.size 3 (eInt .i64) x18.2.1), ob (.pointer (some ⟨b1_0, 0, none⟩)) (.box w0.heap.size 24 E_laws_RuleSet p0)] (⟨_, true, [], none, true, fun A => .raw u20⟩ :: ⟨_, true, [], none, true, fun A => .raw (.int .i64 (1 : Int))⟩ :: ⟨_, true, [0], some (.vec w0.heap.size 3 (eInt .i64) x63.2), false, fun A => .raw (.int .i64 x63.1)⟩ :: ⟨_, true, [], none, true, fun A => .raw (.int .i64 x63.1)⟩ :: []) (by kernel_rfl) (by kernel_rfl) (Wf.mk' (by kernel_rfl) (UAll.cons ust_raw (UAll.cons ust_raw (UAll.cons ust_raw (UAll.cons ust_raw (UAll.nil))))) (by kernel_rfl) (by kernel_rfl)) hO hA ?_ ?_
          · exact
              OblsR.cons (OblR.plain rfl rfl rfl rfl fun A' R' w' ho hd => by have a0 : R' 8 = u20 := (ho.old 8 rfl).trans h8; exact of_move a0) <|
              OblsR.cons (OblR.plain rfl rfl rfl rfl fun A' R' w' ho hd => by have a0 : R' 12 = .int .i64 (1 : Int) := (ho.old 12 rfl).trans h12; exact of_move a0) <|
              OblsR.cons (OblR.took 0 _ _ rfl rfl rfl rfl rfl fun A' R' w' ho hd u hok hav hin hop hds => by have a0 : R' 79 = u20 := hd 0 _ _ _ rfl rfl rfl rfl rfl; have a1 : R' 80 = .int .i64 (1 : Int) := hd 1 _ _ _ rfl rfl rfl rfl rfl; have hu0 : evalR R' (.tmp 79) = u := a0.trans (hin _ rfl).symm; exact took_call Try.call16 hav (fun _ _ _ _ _ h => h) (by simp only [List.map, hu0]; exact Calls.mono (M_laws_markIntS_ok (q64 rfl) (ho.av.sub _) (fun b o h => h.2) (Vec.flat hok (fun _ _ _ _ _ h => h)) a1) (fun _ _ ⟨v, h1, h2, h3, h4⟩ => ⟨v, h1, h2, h3, h4⟩))) <|
              OblsR.cons (OblR.plain rfl rfl rfl rfl fun A' R' w' ho hd => by have a0 : R' 81 = .int .i64 x63.1 := hd 0 _ _ _ rfl rfl rfl rfl rfl; exact of_assign a0) <|
              OblsR.nil
          intro done ρ σ A R w hdn hI
          replace h1 : R 1 = (.pointer (some ⟨b1_0, 0, none⟩)) := (hI.reg rfl).trans h1
          replace h4 : R 4 = u9 := (hI.reg rfl).trans h4
          replace h5 : R 5 = u10 := (hI.reg rfl).trans h5
          replace h6 : R 6 = .bool x7.2.2 := (hI.reg rfl).trans h6
          replace h8 : R 8 = u20 := (hI.reg rfl).trans h8
          replace h9 : R 9 = u21 := (hI.reg rfl).trans h9
          have z65 := hI.inivR 0 rfl
          have z66 := (hI.opnR hdn 5 2 rfl rfl rfl rfl rfl).trans z65
          have z67 := hI.inivR 1 rfl
          have z68 := hI.inivR 2 rfl
          have h12 : R 12 = .int .i64 x63.1 := hI.fact hdn (i := 3) rfl rfl rfl
          replace f_u10 := f_u10.stp hI.stp
          replace f_u9 := f_u9.stp hI.stp
          replace hAA := hI.low' hAA hA0 (hO.ge (⟨rfl, ⟨rfl, ⟨rfl, trivial⟩⟩⟩))
          replace hF : Fr w0 w := hF.tr hI.ch (hO.ge (⟨rfl, ⟨rfl, ⟨rfl, trivial⟩⟩⟩))
          replace hO : IniOK [ob u20 (.vec w0.heap.size 3 (eInt .i64) x63.2), ob u21 (.vec w0.heap.size 3 (eInt .i64) x18.2.1), ob (.pointer (some ⟨b1_0, 0, none⟩)) (.box w0.heap.size 24 E_laws_RuleSet p0)] A w := hI.left hdn [(5, ob u20 (.vec w0.heap.size 3 (eInt .i64) x63.2)), (1, ob u21 (.vec w0.heap.size 3 (eInt .i64) x18.2.1)), (2, ob (.pointer (some ⟨b1_0, 0, none⟩)) (.box w0.heap.size 24 E_laws_RuleSet p0))] ⟨rfl, rfl, z66, rfl, rfl, ⟨rfl, rfl, z67, rfl, rfl, ⟨rfl, rfl, z68, rfl, rfl, trivial⟩⟩⟩
          replace hA := hI.avok
          clear hI
          refine HT.seq ?_
          obtain ⟨x69, q70, hr⟩ := cl_some hr
          refine HT.textR [ob u20 (.vec w0.heap.size 3 (eInt .i64) x63.2), ob u21 (.vec w0.heap.size 3 (eInt .i64) x18.2.1), ob (.pointer (some ⟨b1_0, 0, none⟩)) (.box w0.heap.size 24 E_laws_RuleSet p0)] (⟨_, true, [], none, true, fun A => .raw u21⟩ :: ⟨_, true, [], none, true, fun A => .raw (.int .i64 x63.1)⟩ :: ⟨_, true, [1], some (.vec w0.heap.size 3 (eInt .i64) x69.2), false, fun A => .raw (.int .i64 x69.1)⟩ :: ⟨_, true, [], none, true, fun A => .raw (.int .i64 x69.1)⟩ :: []) (by kernel_rfl) (by kernel_rfl) (Wf.mk' (by kernel_rfl) (UAll.cons ust_raw (UAll.cons ust_raw (UAll.cons ust_raw (UAll.cons ust_raw (UAll.nil))))) (by kernel_rfl) (by kernel_rfl)) hO hA ?_ ?_
          · exact
              OblsR.cons (OblR.plain rfl rfl rfl rfl fun A' R' w' ho hd => by have a0 : R' 9 = u21 := (ho.old 9 rfl).trans h9; exact of_move a0) <|
              OblsR.cons (OblR.plain rfl rfl rfl rfl fun A' R' w' ho hd => by have a0 : R' 12 = .int .i64 x63.1 := (ho.old 12 rfl).trans h12; exact of_move a0) <|
              OblsR.cons (OblR.took 1 _ _ rfl rfl rfl rfl rfl fun A' R' w' ho hd u hok hav hin hop hds => by have a0 : R' 82 = u21 := hd 0 _ _ _ rfl rfl rfl rfl rfl; have a1 : R' 83 = .int .i64 x63.1 := hd 1 _ _ _ rfl rfl rfl rfl rfl; have hu0 : evalR R' (.tmp 82) = u := a0.trans (hin _ rfl).symm; exact took_call Try.call16 hav (fun _ _ _ _ _ h => h) (by simp only [List.map, hu0]; exact Calls.mono (M_laws_markIntS_ok (q70 rfl) (ho.av.sub _) (fun b o h => h.2) (Vec.flat hok (fun _ _ _ _ _ h => h)) a1) (fun _ _ ⟨v, h1, h2, h3, h4⟩ => ⟨v, h1, h2, h3, h4⟩))) <|
              OblsR.cons (OblR.plain rfl rfl rfl rfl fun A' R' w' ho hd => by have a0 : R' 84 = .int .i64 x69.1 := hd 0 _ _ _ rfl rfl rfl rfl rfl; exact of_assign a0) <|
              OblsR.nil
          intro done ρ σ A R w hdn hI
          replace h1 : R 1 = (.pointer (some ⟨b1_0, 0, none⟩)) := (hI.reg rfl).trans h1
          replace h4 : R 4 = u9 := (hI.reg rfl).trans h4
          replace h5 : R 5 = u10 := (hI.reg rfl).trans h5
          replace h6 : R 6 = .bool x7.2.2 := (hI.reg rfl).trans h6
          replace h8 : R 8 = u20 := (hI.reg rfl).trans h8
          replace h9 : R 9 = u21 := (hI.reg rfl).trans h9
          have z71 := hI.inivR 0 rfl
          have z72 := hI.inivR 1 rfl
          have z73 := (hI.opnR hdn 5 2 rfl rfl rfl rfl rfl).trans z72
          have z74 := hI.inivR 2 rfl
          have h12 : R 12 = .int .i64 x69.1 := hI.fact hdn (i := 3) rfl rfl rfl
          replace f_u10 := f_u10.stp hI.stp
          replace f_u9 := f_u9.stp hI.stp
          replace hAA := hI.low' hAA hA0 (hO.ge (⟨rfl, ⟨rfl, ⟨rfl, trivial⟩⟩⟩))
          replace hF : Fr w0 w := hF.tr hI.ch (hO.ge (⟨rfl, ⟨rfl, ⟨rfl, trivial⟩⟩⟩))
          replace hO : IniOK [ob u20 (.vec w0.heap.size 3 (eInt .i64) x63.2), ob u21 (.vec w0.heap.size 3 (eInt .i64) x69.2), ob (.pointer (some ⟨b1_0, 0, none⟩)) (.box w0.heap.size 24 E_laws_RuleSet p0)] A w := hI.left hdn [(0, ob u20 (.vec w0.heap.size 3 (eInt .i64) x63.2)), (5, ob u21 (.vec w0.heap.size 3 (eInt .i64) x69.2)), (2, ob (.pointer (some ⟨b1_0, 0, none⟩)) (.box w0.heap.size 24 E_laws_RuleSet p0))] ⟨rfl, rfl, z71, rfl, rfl, ⟨rfl, rfl, z73, rfl, rfl, ⟨rfl, rfl, z74, rfl, rfl, trivial⟩⟩⟩
          replace hA := hI.avok
          clear hI
          refine HT.seq ?_
          refine HT.text (l := ⟨_, true, .raw (.int .i64 (1 : Int))⟩ :: []) (tl := []) (by kernel_rfl) (by kernel_rfl) (by kernel_rfl) ?_ ?_
          · exact
              Obls.cons (Obl.plain rfl rfl fun R' w' hw hs hd => by exact of_assign rfl) <|
              Obls.nil
          intro R w hw hs hF'
          replace h1 : R 1 = (.pointer (some ⟨b1_0, 0, none⟩)) := (hs 1 rfl).trans h1
          replace h4 : R 4 = u9 := (hs 4 rfl).trans h4
          replace h5 : R 5 = u10 := (hs 5 rfl).trans h5
          replace h6 : R 6 = .bool x7.2.2 := (hs 6 rfl).trans h6
          replace h8 : R 8 = u20 := (hs 8 rfl).trans h8
          replace h9 : R 9 = u21 := (hs 9 rfl).trans h9
          replace h12 : R 12 = .int .i64 x69.1 := (hs 12 rfl).trans h12
          have h13 : R 13 = .int .i64 (1 : Int) := hF' 0 _ _ rfl rfl rfl
          replace f_u10 := f_u10.fr hw
          replace f_u9 := f_u9.fr hw
          replace hO := hO.fr hw
          replace hA := hA.fr hw.size
          replace hF := hF.trans hw
          clear hs hF' hw
          refine seqR_nil ?_
          refine HT.seq ?_
          obtain ⟨x75, q76, hr⟩ := cl_some hr
          refine HT.text (l := ⟨_, true, .raw u20⟩ :: ⟨_, true, .raw (.int .i64 (1 : Int))⟩ :: ⟨_, true, .raw (.int .i64 x75)⟩ :: ⟨_, true, .raw (.int .i64 x75)⟩ :: []) (tl := []) (by kernel_rfl) (by kernel_rfl) (by kernel_rfl) ?_ ?_
          · exact
              Obls.cons (Obl.plain rfl rfl fun R' w' hw hs hd => by have a0 : R' 8 = u20 := (hs 8 rfl).trans h8; exact of_move a0) <|
              Obls.cons (Obl.plain rfl rfl fun R' w' hw hs hd => by have a0 : R' 13 = .int .i64 (1 : Int) := (hs 13 rfl).trans h13; exact of_move a0) <|
              Obls.cons (Obl.plain rfl rfl fun R' w' hw hs hd => by have a0 : R' 85 = u20 := hd 0 _ _ _ rfl rfl rfl rfl rfl; have ra0 := (vec_rep ((hO.fr hw).ok 0 _ rfl).1 hAA hA0).eq a0; have a1 : R' 86 = .int .i64 (1 : Int) := hd 1 _ _ _ rfl rfl rfl rfl rfl; exact of_call Try.call17 (M_laws_heldIntS_ok (q76 rfl) (hA00.fr ((Nat.le_trans hF.size hw.size))) ra0 a1)) <|
              Obls.cons (Obl.plain rfl rfl fun R' w' hw hs hd => by have a0 : R' 87 = .int .i64 x75 := hd 0 _ _ _ rfl rfl rfl rfl rfl; exact of_assign a0) <|
              Obls.nil
          intro R w hw hs hF'
          replace h1 : R 1 = (.pointer (some ⟨b1_0, 0, none⟩)) := (hs 1 rfl).trans h1
          replace h4 : R 4 = u9 := (hs 4 rfl).trans h4
          replace h5 : R 5 = u10 := (hs 5 rfl).trans h5
          replace h6 : R 6 = .bool x7.2.2 := (hs 6 rfl).trans h6
          replace h8 : R 8 = u20 := (hs 8 rfl).trans h8
          replace h9 : R 9 = u21 := (hs 9 rfl).trans h9
          replace h12 : R 12 = .int .i64 x69.1 := (hs 12 rfl).trans h12
          have h13 : R 13 = .int .i64 x75 := hF' 3 _ _ rfl rfl rfl
          replace f_u10 := f_u10.fr hw
          replace f_u9 := f_u9.fr hw
          replace hO := hO.fr hw
          replace hA := hA.fr hw.size
          replace hF := hF.trans hw
          clear hs hF' hw
          refine seqR_nil ?_
          refine HT.seq ?_
          refine HT.seq ?_
          refine HT.text (l := ⟨_, true, .raw (.int .i64 x75)⟩ :: ⟨_, true, .raw (.bool (decide (x75 < (0 : Int))))⟩ :: []) (tl := []) (by kernel_rfl) (by kernel_rfl) (by kernel_rfl) ?_ ?_
          · exact
              Obls.cons (Obl.plain rfl rfl fun R' w' hw hs hd => by have a0 : R' 13 = .int .i64 x75 := (hs 13 rfl).trans h13; exact of_move a0) <|
              Obls.cons (Obl.plain rfl rfl fun R' w' hw hs hd => by have a0 : R' 88 = .int .i64 x75 := hd 0 _ _ _ rfl rfl rfl rfl rfl; exact of_lss a0 rfl) <|
              Obls.nil
          intro R w hw hs hF'
          replace h1 : R 1 = (.pointer (some ⟨b1_0, 0, none⟩)) := (hs 1 rfl).trans h1
          replace h4 : R 4 = u9 := (hs 4 rfl).trans h4
          replace h5 : R 5 = u10 := (hs 5 rfl).trans h5
          replace h6 : R 6 = .bool x7.2.2 := (hs 6 rfl).trans h6
          replace h8 : R 8 = u20 := (hs 8 rfl).trans h8
          replace h9 : R 9 = u21 := (hs 9 rfl).trans h9
          replace h12 : R 12 = .int .i64 x69.1 := (hs 12 rfl).trans h12
          replace h13 : R 13 = .int .i64 x75 := (hs 13 rfl).trans h13
          have h89 : R 89 = .bool (decide (x75 < (0 : Int))) := hF' 1 _ _ rfl rfl rfl
          replace f_u10 := f_u10.fr hw
          replace f_u9 := f_u9.fr hw
          replace hO := hO.fr hw
          replace hA := hA.fr hw.size
          replace hF := hF.trans hw
          clear hs hF' hw
          refine seqR_nil ?_
          refine HT.cond (decide (x75 < (0 : Int))) h89 (fun c77 => ?_) (fun c77 => ?_)
          · have hr := cnd_t c77 hr
            refine HT.seq ?_
            refine HT.text (l := ⟨_, true, .raw (.bool false)⟩ :: []) (tl := []) (by kernel_rfl) (by kernel_rfl) (by kernel_rfl) ?_ ?_
            · exact
                Obls.cons (Obl.plain rfl rfl fun R' w' hw hs hd => by exact of_assign rfl) <|
                Obls.nil
            intro R w hw hs hF'
            have h2 : R 2 = .bool false := hF' 0 _ _ rfl rfl rfl
            replace hO := hO.fr hw
            replace hO : IniOK [] A w := hO.sub [] trivial
            replace hA := hA.fr hw.size
            replace hF := hF.trans hw
            clear hs hF' hw
            refine seqR_nil ?_
            refine HT.ret ?_
            obtain rfl := Option.some.inj hr
            exact ⟨.inr rfl, [R 2], ⟨rfl, trivial⟩, h2, hF⟩
          · have hr := cnd_f c77 hr
            refine HT.skip ?_
            refine HT.seq ?_
            obtain ⟨x78, q79, hr⟩ := cl_some hr
            refine HT.text (l := ⟨_, true, .raw u21⟩ :: ⟨_, true, .raw (.int .i64 x75)⟩ :: ⟨_, true, .raw (.int .i64 x78)⟩ :: ⟨_, true, .raw (.int .i64 x78)⟩ :: []) (tl := []) (by kernel_rfl) (by kernel_rfl) (by kernel_rfl) ?_ ?_
            · exact
                Obls.cons (Obl.plain rfl rfl fun R' w' hw hs hd => by have a0 : R' 9 = u21 := (hs 9 rfl).trans h9; exact of_move a0) <|
                Obls.cons (Obl.plain rfl rfl fun R' w' hw hs hd => by have a0 : R' 13 = .int .i64 x75 := (hs 13 rfl).trans h13; exact of_move a0) <|
                Obls.cons (Obl.plain rfl rfl fun R' w' hw hs hd => by have a0 : R' 90 = u21 := hd 0 _ _ _ rfl rfl rfl rfl rfl; have ra0 := (vec_rep ((hO.fr hw).ok 1 _ rfl).1 hAA hA0).eq a0; have a1 : R' 91 = .int .i64 x75 := hd 1 _ _ _ rfl rfl rfl rfl rfl; exact of_call Try.call17 (M_laws_heldIntS_ok (q79 rfl) (hA00.fr ((Nat.le_trans hF.size hw.size))) ra0 a1)) <|
                Obls.cons (Obl.plain rfl rfl fun R' w' hw hs hd => by have a0 : R' 92 = .int .i64 x78 := hd 0 _ _ _ rfl rfl rfl rfl rfl; exact of_assign a0) <|
                Obls.nil
            intro R w hw hs hF'
            replace h1 : R 1 = (.pointer (some ⟨b1_0, 0, none⟩)) := (hs 1 rfl).trans h1
            replace h4 : R 4 = u9 := (hs 4 rfl).trans h4
            replace h5 : R 5 = u10 := (hs 5 rfl).trans h5
            replace h6 : R 6 = .bool x7.2.2 := (hs 6 rfl).trans h6
            replace h8 : R 8 = u20 := (hs 8 rfl).trans h8
            replace h9 : R 9 = u21 := (hs 9 rfl).trans h9
            replace h12 : R 12 = .int .i64 x69.1 := (hs 12 rfl).trans h12
            have h13 : R 13 = .int .i64 x78 := hF' 3 _ _ rfl rfl rfl
            replace f_u10 := f_u10.fr hw
            replace f_u9 := f_u9.fr hw
            replace hO := hO.fr hw
            replace hA := hA.fr hw.size
            replace hF := hF.trans hw
            clear hs hF' hw
            refine seqR_nil ?_
            refine HT.seq ?_
            refine HT.seq ?_
            refine HT.text (l := ⟨_, true, .raw (.int .i64 x78)⟩ :: ⟨_, true, .raw (.bool (decide (x78 < (0 : Int))))⟩ :: []) (tl := []) (by kernel_rfl) (by kernel_rfl) (by kernel_rfl) ?_ ?_
            · exact
                Obls.cons (Obl.plain rfl rfl fun R' w' hw hs hd => by have a0 : R' 13 = .int .i64 x78 := (hs 13 rfl).trans h13; exact of_move a0) <|
                Obls.cons (Obl.plain rfl rfl fun R' w' hw hs hd => by have a0 : R' 93 = .int .i64 x78 := hd 0 _ _ _ rfl rfl rfl rfl rfl; exact of_lss a0 rfl) <|
                Obls.nil
            intro R w hw hs hF'
            replace h1 : R 1 = (.pointer (some ⟨b1_0, 0, none⟩)) := (hs 1 rfl).trans h1
            replace h4 : R 4 = u9 := (hs 4 rfl).trans h4
            replace h5 : R 5 = u10 := (hs 5 rfl).trans h5
            replace h6 : R 6 = .bool x7.2.2 := (hs 6 rfl).trans h6
            replace h8 : R 8 = u20 := (hs 8 rfl).trans h8
            replace h9 : R 9 = u21 := (hs 9 rfl).trans h9
            replace h12 : R 12 = .int .i64 x69.1 := (hs 12 rfl).trans h12
            replace h13 : R 13 = .int .i64 x78 := (hs 13 rfl).trans h13
            have h94 : R 94 = .bool (decide (x78 < (0 : Int))) := hF' 1 _ _ rfl rfl rfl
            replace f_u10 := f_u10.fr hw
            replace f_u9 := f_u9.fr hw
            replace hO := hO.fr hw
            replace hA := hA.fr hw.size
            replace hF := hF.trans hw
            clear hs hF' hw
            refine seqR_nil ?_
            refine HT.cond (decide (x78 < (0 : Int))) h94 (fun c80 => ?_) (fun c80 => ?_)
            · have hr := cnd_t c80 hr
              refine HT.seq ?_
              refine HT.text (l := ⟨_, true, .raw (.bool false)⟩ :: []) (tl := []) (by kernel_rfl) (by kernel_rfl) (by kernel_rfl) ?_ ?_
              · exact
                  Obls.cons (Obl.plain rfl rfl fun R' w' hw hs hd => by exact of_assign rfl) <|
                  Obls.nil
              intro R w hw hs hF'
              have h2 : R 2 = .bool false := hF' 0 _ _ rfl rfl rfl
              replace hO := hO.fr hw
              replace hO : IniOK [] A w := hO.sub [] trivial
              replace hA := hA.fr hw.size
              replace hF := hF.trans hw
              clear hs hF' hw
              refine seqR_nil ?_
              refine HT.ret ?_
              obtain rfl := Option.some.inj hr
              exact ⟨.inr rfl, [R 2], ⟨rfl, trivial⟩, h2, hF⟩
            · have hr := cnd_f c80 hr
              refine HT.skip ?_
              refine HT.seq ?_
              refine HT.seq ?_
              refine HT.text (l := ⟨_, true, .raw (.int .i64 x78)⟩ :: ⟨_, true, .raw (.int .i64 x69.1)⟩ :: ⟨_, true, .raw (.bool (x78 != x69.1))⟩ :: []) (tl := []) (by kernel_rfl) (by kernel_rfl) (by kernel_rfl) ?_ ?_
              · exact
                  Obls.cons (Obl.plain rfl rfl fun R' w' hw hs hd => by have a0 : R' 13 = .int .i64 x78 := (hs 13 rfl).trans h13; exact of_move a0) <|
                  Obls.cons (Obl.plain rfl rfl fun R' w' hw hs hd => by have a0 : R' 12 = .int .i64 x69.1 := (hs 12 rfl).trans h12; exact of_move a0) <|
                  Obls.cons (Obl.plain rfl rfl fun R' w' hw hs hd => by have a0 : R' 95 = .int .i64 x78 := hd 0 _ _ _ rfl rfl rfl rfl rfl; have a1 : R' 96 = .int .i64 x69.1 := hd 1 _ _ _ rfl rfl rfl rfl rfl; exact of_neq a0 a1) <|
                  Obls.nil
              intro R w hw hs hF'
              replace h1 : R 1 = (.pointer (some ⟨b1_0, 0, none⟩)) := (hs 1 rfl).trans h1
              replace h4 : R 4 = u9 := (hs 4 rfl).trans h4
              replace h5 : R 5 = u10 := (hs 5 rfl).trans h5
              replace h6 : R 6 = .bool x7.2.2 := (hs 6 rfl).trans h6
              replace h8 : R 8 = u20 := (hs 8 rfl).trans h8
              replace h9 : R 9 = u21 := (hs 9 rfl).trans h9
              replace h12 : R 12 = .int .i64 x69.1 := (hs 12 rfl).trans h12
              have h97 : R 97 = .bool (x78 != x69.1) := hF' 2 _ _ rfl rfl rfl
              replace f_u10 := f_u10.fr hw
              replace f_u9 := f_u9.fr hw
              replace hO := hO.fr hw
              replace hA := hA.fr hw.size
              replace hF := hF.trans hw
              clear hs hF' hw
              refine seqR_nil ?_
              refine HT.cond (x78 != x69.1) h97 (fun c81 => ?_) (fun c81 => ?_)
              · have hr := cnd_t c81 hr
                refine HT.seq ?_
                refine HT.text (l := ⟨_, true, .raw (.bool false)⟩ :: []) (tl := []) (by kernel_rfl) (by kernel_rfl) (by kernel_rfl) ?_ ?_
                · exact
                    Obls.cons (Obl.plain rfl rfl fun R' w' hw hs hd => by exact of_assign rfl) <|
                    Obls.nil
                intro R w hw hs hF'
                have h2 : R 2 = .bool false := hF' 0 _ _ rfl rfl rfl
                replace hO := hO.fr hw
                replace hO : IniOK [] A w := hO.sub [] trivial
                replace hA := hA.fr hw.size
                replace hF := hF.trans hw
                clear hs hF' hw
                refine seqR_nil ?_
                refine HT.ret ?_
                obtain rfl := Option.some.inj hr
                exact ⟨.inr rfl, [R 2], ⟨rfl, trivial⟩, h2, hF⟩
              · have hr := cnd_f c81 hr
                refine HT.skip ?_
                refine HT.seq ?_
                obtain ⟨x82, q83, hr⟩ := cl_some hr
                obtain ⟨x84, q85, hr⟩ := cl_some hr
                refine HT.text (l := ⟨_, true, .rep E_laws_RuleSet A p0⟩ :: ⟨_, true, .rep E_impl_RuleSet A x82⟩ :: ⟨_, true, .tup3 (.rep (eSl (eInt .i64)) A x84.1) (.rep (eSl (eInt .i64)) A x84.2.1) (.raw (.bool x84.2.2))⟩ :: ⟨_, true, .tup3 (.rep (eSl (eInt .i64)) A x84.1) (.rep (eSl (eInt .i64)) A x84.2.1) (.raw (.bool x84.2.2))⟩ :: ⟨_, true, .rep (eSl (eInt .i64)) A x84.1⟩ :: ⟨_, true, .rep (eSl (eInt .i64)) A x84.2.1⟩ :: ⟨_, true, .raw (.bool x84.2.2)⟩ :: ⟨_, true, .rep (eSl (eInt .i64)) A x84.1⟩ :: ⟨_, true, .rep (eSl (eInt .i64)) A x84.2.1⟩ :: ⟨_, true, .raw (.bool x84.2.2)⟩ :: []) (tl := []) (by kernel_rfl) (by kernel_rfl) (by kernel_rfl) ?_ ?_
                · exact
                    Obls.cons (Obl.plain rfl rfl fun R' w' hw hs hd => by have a0 : R' 1 = (.pointer (some ⟨b1_0, 0, none⟩)) := (hs 1 rfl).trans h1; exact (of_load_box ((hO.fr hw).ok 2 _ rfl).1 a0 (Fld.id _) rfl Try.isAgg24 Try.sizeOf24)) <|
                    Obls.cons (Obl.plain rfl rfl fun R' w' hw hs hd => by have a0 : Rep E_laws_RuleSet A w' (R' 99) p0 := hd 0 _ _ _ rfl rfl rfl rfl rfl; exact of_call Try.call9 (M_laws_toRuleSet_okR (q83 rfl) (hA.fr hw.size) a0)) <|
                    Obls.cons (Obl.plain rfl rfl fun R' w' hw hs hd => by have a0 : Rep E_impl_RuleSet A w' (R' 100) x82 := hd 0 _ _ _ rfl rfl rfl rfl rfl; exact of_call Try.call13 (M_impl_MonotoneViolation_okR (q85 rfl) (hA.fr hw.size) a0)) <|
                    Obls.cons (Obl.plain rfl rfl fun R' w' hw hs hd => by have a0 : Fact.ok (.tup3 (.rep (eSl (eInt .i64)) A x84.1) (.rep (eSl (eInt .i64)) A x84.2.1) (.raw (.bool x84.2.2))) (R' 101) w' := hd 0 _ _ _ rfl rfl rfl rfl rfl; exact of_move a0) <|
                    Obls.cons (Obl.plain rfl rfl fun R' w' hw hs hd => by have a0 : Fact.ok (.tup3 (.rep (eSl (eInt .i64)) A x84.1) (.rep (eSl (eInt .i64)) A x84.2.1) (.raw (.bool x84.2.2))) (R' 98) w' := hd 0 _ _ _ rfl rfl rfl rfl rfl; exact of_extract3_0 a0) <|
                    Obls.cons (Obl.plain rfl rfl fun R' w' hw hs hd => by have a0 : Fact.ok (.tup3 (.rep (eSl (eInt .i64)) A x84.1) (.rep (eSl (eInt .i64)) A x84.2.1) (.raw (.bool x84.2.2))) (R' 98) w' := hd 0 _ _ _ rfl rfl rfl rfl rfl; exact of_extract3_1 a0) <|
                    Obls.cons (Obl.plain rfl rfl fun R' w' hw hs hd => by have a0 : Fact.ok (.tup3 (.rep (eSl (eInt .i64)) A x84.1) (.rep (eSl (eInt .i64)) A x84.2.1) (.raw (.bool x84.2.2))) (R' 98) w' := hd 0 _ _ _ rfl rfl rfl rfl rfl; exact of_extract3_2 a0) <|
                    Obls.cons (Obl.plain rfl rfl fun R' w' hw hs hd => by have a0 : Rep (eSl (eInt .i64)) A w' (R' 102) x84.1 := hd 0 _ _ _ rfl rfl rfl rfl rfl; exact of_assign a0) <|
                    Obls.cons (Obl.plain rfl rfl fun R' w' hw hs hd => by have a0 : Rep (eSl (eInt .i64)) A w' (R' 103) x84.2.1 := hd 0 _ _ _ rfl rfl rfl rfl rfl; exact of_assign a0) <|
                    Obls.cons (Obl.plain rfl rfl fun R' w' hw hs hd => by have a0 : R' 104 = .bool x84.2.2 := hd 0 _ _ _ rfl rfl rfl rfl rfl; exact of_assign a0) <|
                    Obls.nil
                intro R w hw hs hF'
                replace h4 : R 4 = u9 := (hs 4 rfl).trans h4
                replace h5 : R 5 = u10 := (hs 5 rfl).trans h5
                replace h6 : R 6 = .bool x7.2.2 := (hs 6 rfl).trans h6
                replace h8 : R 8 = u20 := (hs 8 rfl).trans h8
                replace h9 : R 9 = u21 := (hs 9 rfl).trans h9
                replace h12 : R 12 = .int .i64 x69.1 := (hs 12 rfl).trans h12
                obtain ⟨u86, h14, f_u86⟩ : ∃ u, R 14 = u ∧ Rep (eSl (eInt .i64)) A w u x84.1 := ⟨_, rfl, hF' 7 _ _ rfl rfl rfl⟩
                obtain ⟨u87, h15, f_u87⟩ : ∃ u, R 15 = u ∧ Rep (eSl (eInt .i64)) A w u x84.2.1 := ⟨_, rfl, hF' 8 _ _ rfl rfl rfl⟩
                have h16 : R 16 = .bool x84.2.2 := hF' 9 _ _ rfl rfl rfl
                replace f_u10 := f_u10.fr hw
                replace f_u9 := f_u9.fr hw
                replace hO := hO.fr hw
                replace hO : IniOK [ob u20 (.vec w0.heap.size 3 (eInt .i64) x63.2), ob u21 (.vec w0.heap.size 3 (eInt .i64) x69.2)] A w := hO.sub [(0, ob u20 (.vec w0.heap.size 3 (eInt .i64) x63.2)), (1, ob u21 (.vec w0.heap.size 3 (eInt .i64) x69.2))] ⟨rfl, rfl, ⟨rfl, rfl, trivial⟩⟩
                replace hA := hA.fr hw.size
                replace hF := hF.trans hw
                clear hs hF' hw
                refine seqR_nil ?_
                refine HT.seq ?_
                refine HT.seq ?_
                obtain ⟨x88, q89, hr⟩ := cl_some hr
                obtain ⟨x90, q91, hr⟩ := cl_some hr
                obtain ⟨x92, q93, hr⟩ := bd_some hr
                obtain ⟨x94, q95, hr⟩ := bd_some hr
                refine HT.text (l := ⟨_, true, .raw u86⟩ :: ⟨_, true, .raw u9⟩ :: ⟨_, true, .raw (.bool x88)⟩ :: ⟨_, true, .raw (.bool (!x88))⟩ :: ⟨_, true, .raw (.bool (!x88))⟩ :: ⟨_, (true && ((!x88) == false)), .raw u87⟩ :: ⟨_, (true && ((!x88) == false)), .raw u10⟩ :: ⟨_, (true && ((!x88) == false)), .raw (.bool x90)⟩ :: ⟨_, (true && ((!x88) == false)), .raw (.bool (!x90))⟩ :: ⟨_, true, .raw (.bool x92)⟩ :: ⟨_, true, .raw (.bool x92)⟩ :: ⟨_, (true && (x92 == false)), .raw (.bool x84.2.2)⟩ :: ⟨_, (true && (x92 == false)), .raw (.bool x7.2.2)⟩ :: ⟨_, (true && (x92 == false)), .raw (.bool (x84.2.2 != x7.2.2))⟩ :: ⟨_, true, .raw (.bool x94)⟩ :: []) (tl := []) (by kernel_rfl) (by kernel_rfl) (by kernel_rfl) ?_ ?_
                · exact
                    Obls.cons (Obl.plain rfl rfl fun R' w' hw hs hd => by have a0 : R' 14 = u86 := (hs 14 rfl).trans h14; exact of_move a0) <|
                    Obls.cons (Obl.plain rfl rfl fun R' w' hw hs hd => by have a0 : R' 4 = u9 := (hs 4 rfl).trans h4; exact of_move a0) <|
                    Obls.cons (Obl.plain rfl rfl fun R' w' hw hs hd => by have a0 : R' 105 = u86 := hd 0 _ _ _ rfl rfl rfl rfl rfl; have ra0 := (f_u86.fr hw).eq a0; have a1 : R' 106 = u9 := hd 1 _ _ _ rfl rfl rfl rfl rfl; have ra1 := (f_u9.fr hw).eq a1; exact of_call Try.call14 (M_laws_eqIntS_ok (q89 rfl) (hA.fr hw.size) ra0 ra1)) <|
                    Obls.cons (Obl.plain rfl rfl fun R' w' hw hs hd => by have a0 : R' 107 = .bool x88 := hd 0 _ _ _ rfl rfl rfl rfl rfl; exact of_not a0) <|
                    Obls.cons (Obl.plain rfl rfl fun R' w' hw hs hd => by have a0 : R' 108 = .bool (!x88) := hd 0 _ _ _ rfl rfl rfl rfl rfl; exact of_move a0) <|
                    Obls.cons (Obl.grd 4 false _ _ _ rfl rfl rfl rfl rfl (by kernel_rfl) fun hg R' w' hw hs hd => by have a0 : R' 15 = u87 := (hs 15 rfl).trans h15; exact of_move a0) <|
                    Obls.cons (Obl.grd 4 false _ _ _ rfl rfl rfl rfl rfl (by kernel_rfl) fun hg R' w' hw hs hd => by have a0 : R' 5 = u10 := (hs 5 rfl).trans h5; exact of_move a0) <|
                    Obls.cons (Obl.grd 4 false _ _ _ rfl rfl rfl rfl rfl (by kernel_rfl) fun hg R' w' hw hs hd => by have a0 : R' 110 = u87 := hd 0 _ _ _ rfl rfl rfl rfl hg; have ra0 := (f_u87.fr hw).eq a0; have a1 : R' 111 = u10 := hd 1 _ _ _ rfl rfl rfl rfl hg; have ra1 := (f_u10.fr hw).eq a1; exact of_call Try.call14 (M_laws_eqIntS_ok (q91 hg) (hA.fr hw.size) ra0 ra1)) <|
                    Obls.cons (Obl.grd 4 false _ _ _ rfl rfl rfl rfl rfl (by kernel_rfl) fun hg R' w' hw hs hd => by have a0 : R' 112 = .bool x90 := hd 0 _ _ _ rfl rfl rfl rfl hg; exact of_not a0) <|
                    Obls.cons (Obl.plain rfl rfl fun R' w' hw hs hd => by have a0 : R' 109 = .bool (!x88) := hd 0 _ _ _ rfl rfl rfl rfl rfl; exact of_pick (!x88) a0 (fun hc => by show _ = Value.bool x92; rw [q93, hc]; exact rfl) (fun hc => by have a2 : R' 113 = .bool (!x90) := hd 1 _ _ _ rfl rfl rfl rfl (g_and rfl (beq_of hc)); show _ = Value.bool x92; rw [q93, hc]; exact a2)) <|
                    Obls.cons (Obl.plain rfl rfl fun R' w' hw hs hd => by have a0 : R' 114 = .bool x92 := hd 0 _ _ _ rfl rfl rfl rfl rfl; exact of_move a0) <|
                    Obls.cons (Obl.grd 10 false _ _ _ rfl rfl rfl rfl rfl (by kernel_rfl) fun hg R' w' hw hs hd => by have a0 : R' 16 = .bool x84.2.2 := (hs 16 rfl).trans h16; exact of_move a0) <|
                    Obls.cons (Obl.grd 10 false _ _ _ rfl rfl rfl rfl rfl (by kernel_rfl) fun hg R' w' hw hs hd => by have a0 : R' 6 = .bool x7.2.2 := (hs 6 rfl).trans h6; exact of_move a0) <|
                    Obls.cons (Obl.grd 10 false _ _ _ rfl rfl rfl rfl rfl (by kernel_rfl) fun hg R' w' hw hs hd => by have a0 : R' 116 = .bool x84.2.2 := hd 0 _ _ _ rfl rfl rfl rfl hg; have a1 : R' 117 = .bool x7.2.2 := hd 1 _ _ _ rfl rfl rfl rfl hg; exact of_bneq Try.underlying4 a0 a1) <|
                    Obls.cons (Obl.plain rfl rfl fun R' w' hw hs hd => by have a0 : R' 115 = .bool x92 := hd 0 _ _ _ rfl rfl rfl rfl rfl; exact of_pick x92 a0 (fun hc => by show _ = Value.bool x94; rw [q95, hc]; exact rfl) (fun hc => by have a2 : R' 118 = .bool (x84.2.2 != x7.2.2) := hd 1 _ _ _ rfl rfl rfl rfl (g_and rfl (beq_of hc)); show _ = Value.bool x94; rw [q95, hc]; exact a2)) <|
                    Obls.nil
                intro R w hw hs hF'
                replace h8 : R 8 = u20 := (hs 8 rfl).trans h8
                replace h9 : R 9 = u21 := (hs 9 rfl).trans h9
                replace h12 : R 12 = .int .i64 x69.1 := (hs 12 rfl).trans h12
                have h119 : R 119 = .bool x94 := hF' 14 _ _ rfl rfl rfl
                replace hO := hO.fr hw
                replace hA := hA.fr hw.size
                replace hF := hF.trans hw
                clear hs hF' hw
                refine seqR_nil ?_
                refine HT.cond x94 h119 (fun c96 => ?_) (fun c96 => ?_)
                · have hr := cnd_t c96 hr
                  refine HT.seq ?_
                  refine HT.text (l := ⟨_, true, .raw (.bool false)⟩ :: []) (tl := []) (by kernel_rfl) (by kernel_rfl) (by kernel_rfl) ?_ ?_
                  · exact
                      Obls.cons (Obl.plain rfl rfl fun R' w' hw hs hd => by exact of_assign rfl) <|
                      Obls.nil
                  intro R w hw hs hF'
                  have h2 : R 2 = .bool false := hF' 0 _ _ rfl rfl rfl
                  replace hO := hO.fr hw
                  replace hO : IniOK [] A w := hO.sub [] trivial
                  replace hA := hA.fr hw.size
                  replace hF := hF.trans hw
                  clear hs hF' hw
                  refine seqR_nil ?_
                  refine HT.ret ?_
                  obtain rfl := Option.some.inj hr
                  exact ⟨.inr rfl, [R 2], ⟨rfl, trivial⟩, h2, hF⟩
                · have hr := cnd_f c96 hr
                  refine HT.skip ?_
                  refine HT.seq ?_
                  refine HT.text (l := ⟨_, true, .raw (.int .i64 (1 : Int))⟩ :: []) (tl := []) (by kernel_rfl) (by kernel_rfl) (by kernel_rfl) ?_ ?_
                  · exact
                      Obls.cons (Obl.plain rfl rfl fun R' w' hw hs hd => by exact of_assign rfl) <|
                      Obls.nil
                  intro R w hw hs hF'
                  replace h8 : R 8 = u20 := (hs 8 rfl).trans h8
                  replace h9 : R 9 = u21 := (hs 9 rfl).trans h9
                  replace h12 : R 12 = .int .i64 x69.1 := (hs 12 rfl).trans h12
                  have h13 : R 13 = .int .i64 (1 : Int) := hF' 0 _ _ rfl rfl rfl
                  replace hO := hO.fr hw
                  replace hA := hA.fr hw.size
                  replace hF := hF.trans hw
                  clear hs hF' hw
                  refine seqR_nil ?_
                  refine HT.seq ?_
                  obtain ⟨x97, q98, hr⟩ := cl_some hr
                  refine HT.text (l := ⟨_, true, .raw u20⟩ :: ⟨_, true, .raw (.int .i64 (1 : Int))⟩ :: ⟨_, true, .raw (.int .i64 x97)⟩ :: ⟨_, true, .raw (.int .i64 x97)⟩ :: []) (tl := []) (by kernel_rfl) (by kernel_rfl) (by kernel_rfl) ?_ ?_
                  · exact
                      Obls.cons (Obl.plain rfl rfl fun R' w' hw hs hd => by have a0 : R' 8 = u20 := (hs 8 rfl).trans h8; exact of_move a0) <|
                      Obls.cons (Obl.plain rfl rfl fun R' w' hw hs hd => by have a0 : R' 13 = .int .i64 (1 : Int) := (hs 13 rfl).trans h13; exact of_move a0) <|
                      Obls.cons (Obl.plain rfl rfl fun R' w' hw hs hd => by have a0 : R' 120 = u20 := hd 0 _ _ _ rfl rfl rfl rfl rfl; have ra0 := (vec_rep ((hO.fr hw).ok 0 _ rfl).1 hAA hA0).eq a0; have a1 : R' 121 = .int .i64 (1 : Int) := hd 1 _ _ _ rfl rfl rfl rfl rfl; exact of_call Try.call17 (M_laws_heldIntS_ok (q98 rfl) (hA00.fr ((Nat.le_trans hF.size hw.size))) ra0 a1)) <|
                      Obls.cons (Obl.plain rfl rfl fun R' w' hw hs hd => by have a0 : R' 122 = .int .i64 x97 := hd 0 _ _ _ rfl rfl rfl rfl rfl; exact of_assign a0) <|
                      Obls.nil
                  intro R w hw hs hF'
                  replace h9 : R 9 = u21 := (hs 9 rfl).trans h9
                  replace h12 : R 12 = .int .i64 x69.1 := (hs 12 rfl).trans h12
                  have h13 : R 13 = .int .i64 x97 := hF' 3 _ _ rfl rfl rfl
                  replace hO := hO.fr hw
                  replace hO : IniOK [ob u21 (.vec w0.heap.size 3 (eInt .i64) x69.2)] A w := hO.sub [(1, ob u21 (.vec w0.heap.size 3 (eInt .i64) x69.2))] ⟨rfl, rfl, trivial⟩
                  replace hA := hA.fr hw.size
                  replace hF := hF.trans hw
                  clear hs hF' hw
                  refine seqR_nil ?_
                  refine HT.seq ?_
                  refine HT.seq ?_
                  refine HT.text (l := ⟨_, true, .raw (.int .i64 x97)⟩ :: ⟨_, true, .raw (.bool (decide (x97 < (0 : Int))))⟩ :: []) (tl := []) (by kernel_rfl) (by kernel_rfl) (by kernel_rfl) ?_ ?_
                  · exact
                      Obls.cons (Obl.plain rfl rfl fun R' w' hw hs hd => by have a0 : R' 13 = .int .i64 x97 := (hs 13 rfl).trans h13; exact of_move a0) <|
                      Obls.cons (Obl.plain rfl rfl fun R' w' hw hs hd => by have a0 : R' 123 = .int .i64 x97 := hd 0 _ _ _ rfl rfl rfl rfl rfl; exact of_lss a0 rfl) <|
                      Obls.nil
                  intro R w hw hs hF'
                  replace h9 : R 9 = u21 := (hs 9 rfl).trans h9
                  replace h12 : R 12 = .int .i64 x69.1 := (hs 12 rfl).trans h12
                  replace h13 : R 13 = .int .i64 x97 := (hs 13 rfl).trans h13
                  have h124 : R 124 = .bool (decide (x97 < (0 : Int))) := hF' 1 _ _ rfl rfl rfl
                  replace hO := hO.fr hw
                  replace hA := hA.fr hw.size
                  replace hF := hF.trans hw
                  clear hs hF' hw
                  refine seqR_nil ?_
                  refine HT.cond (decide (x97 < (0 : Int))) h124 (fun c99 => ?_) (fun c99 => ?_)
                  · have hr := cnd_t c99 hr
                    refine HT.seq ?_
                    refine HT.text (l := ⟨_, true, .raw (.bool false)⟩ :: []) (tl := []) (by kernel_rfl) (by kernel_rfl) (by kernel_rfl) ?_ ?_
                    · exact
                        Obls.cons (Obl.plain rfl rfl fun R' w' hw hs hd => by exact of_assign rfl) <|
                        Obls.nil
                    intro R w hw hs hF'
                    have h2 : R 2 = .bool false := hF' 0 _ _ rfl rfl rfl
                    replace hO := hO.fr hw
                    replace hO : IniOK [] A w := hO.sub [] trivial
                    replace hA := hA.fr hw.size
                    replace hF := hF.trans hw
                    clear hs hF' hw
                    refine seqR_nil ?_
                    refine HT.ret ?_
                    obtain rfl := Option.some.inj hr
                    exact ⟨.inr rfl, [R 2], ⟨rfl, trivial⟩, h2, hF⟩
                  · have hr := cnd_f c99 hr
                    refine HT.skip ?_
                    refine HT.seq ?_
                    obtain ⟨x100, q101, hr⟩ := cl_some hr
                    refine HT.text (l := ⟨_, true, .raw u21⟩ :: ⟨_, true, .raw (.int .i64 x97)⟩ :: ⟨_, true, .raw (.int .i64 x100)⟩ :: ⟨_, true, .raw (.int .i64 x100)⟩ :: []) (tl := []) (by kernel_rfl) (by kernel_rfl) (by kernel_rfl) ?_ ?_
                    · exact
                        Obls.cons (Obl.plain rfl rfl fun R' w' hw hs hd => by have a0 : R' 9 = u21 := (hs 9 rfl).trans h9; exact of_move a0) <|
                        Obls.cons (Obl.plain rfl rfl fun R' w' hw hs hd => by have a0 : R' 13 = .int .i64 x97 := (hs 13 rfl).trans h13; exact of_move a0) <|
                        Obls.cons (Obl.plain rfl rfl fun R' w' hw hs hd => by have a0 : R' 125 = u21 := hd 0 _ _ _ rfl rfl rfl rfl rfl; have ra0 := (vec_rep ((hO.fr hw).ok 0 _ rfl).1 hAA hA0).eq a0; have a1 : R' 126 = .int .i64 x97 := hd 1 _ _ _ rfl rfl rfl rfl rfl; exact of_call Try.call17 (M_laws_heldIntS_ok (q101 rfl) (hA00.fr ((Nat.le_trans hF.size hw.size))) ra0 a1)) <|
                        Obls.cons (Obl.plain rfl rfl fun R' w' hw hs hd => by have a0 : R' 127 = .int .i64 x100 := hd 0 _ _ _ rfl rfl rfl rfl rfl; exact of_assign a0) <|
                        Obls.nil
                    intro R w hw hs hF'
                    replace h12 : R 12 = .int .i64 x69.1 := (hs 12 rfl).trans h12
                    have h13 : R 13 = .int .i64 x100 := hF' 3 _ _ rfl rfl rfl
                    replace hO := hO.fr hw
                    replace hO : IniOK [] A w := hO.sub [] trivial
                    replace hA := hA.fr hw.size
                    replace hF := hF.trans hw
                    clear hs hF' hw
                    refine seqR_nil ?_
                    refine HT.seq ?_
                    refine HT.seq ?_
                    refine HT.text (l := ⟨_, true, .raw (.int .i64 x100)⟩ :: ⟨_, true, .raw (.bool (decide (x100 < (0 : Int))))⟩ :: []) (tl := []) (by kernel_rfl) (by kernel_rfl) (by kernel_rfl) ?_ ?_
                    · exact
                        Obls.cons (Obl.plain rfl rfl fun R' w' hw hs hd => by have a0 : R' 13 = .int .i64 x100 := (hs 13 rfl).trans h13; exact of_move a0) <|
                        Obls.cons (Obl.plain rfl rfl fun R' w' hw hs hd => by have a0 : R' 128 = .int .i64 x100 := hd 0 _ _ _ rfl rfl rfl rfl rfl; exact of_lss a0 rfl) <|
                        Obls.nil
                    intro R w hw hs hF'
                    replace h12 : R 12 = .int .i64 x69.1 := (hs 12 rfl).trans h12
                    replace h13 : R 13 = .int .i64 x100 := (hs 13 rfl).trans h13
                    have h129 : R 129 = .bool (decide (x100 < (0 : Int))) := hF' 1 _ _ rfl rfl rfl
                    replace hO := hO.fr hw
                    replace hA := hA.fr hw.size
                    replace hF := hF.trans hw
                    clear hs hF' hw
                    refine seqR_nil ?_
                    refine HT.cond (decide (x100 < (0 : Int))) h129 (fun c102 => ?_) (fun c102 => ?_)
                    · have hr := cnd_t c102 hr
                      refine HT.seq ?_
                      refine HT.text (l := ⟨_, true, .raw (.bool false)⟩ :: []) (tl := []) (by kernel_rfl) (by kernel_rfl) (by kernel_rfl) ?_ ?_
                      · exact
                          Obls.cons (Obl.plain rfl rfl fun R' w' hw hs hd => by exact of_assign rfl) <|
                          Obls.nil
                      intro R w hw hs hF'
                      have h2 : R 2 = .bool false := hF' 0 _ _ rfl rfl rfl
                      replace hO := hO.fr hw
                      replace hA := hA.fr hw.size
                      replace hF := hF.trans hw
                      clear hs hF' hw
                      refine seqR_nil ?_
                      refine HT.ret ?_
                      obtain rfl := Option.some.inj hr
                      exact ⟨.inr rfl, [R 2], ⟨rfl, trivial⟩, h2, hF⟩
                    · have hr := cnd_f c102 hr
                      refine HT.skip ?_
                      refine HT.seq ?_
                      refine HT.seq ?_
                      refine HT.text (l := ⟨_, true, .raw (.int .i64 x100)⟩ :: ⟨_, true, .raw (.int .i64 x69.1)⟩ :: ⟨_, true, .raw (.bool (x100 != x69.1))⟩ :: []) (tl := []) (by kernel_rfl) (by kernel_rfl) (by kernel_rfl) ?_ ?_
                      · exact
                          Obls.cons (Obl.plain rfl rfl fun R' w' hw hs hd => by have a0 : R' 13 = .int .i64 x100 := (hs 13 rfl).trans h13; exact of_move a0) <|
                          Obls.cons (Obl.plain rfl rfl fun R' w' hw hs hd => by have a0 : R' 12 = .int .i64 x69.1 := (hs 12 rfl).trans h12; exact of_move a0) <|
                          Obls.cons (Obl.plain rfl rfl fun R' w' hw hs hd => by have a0 : R' 130 = .int .i64 x100 := hd 0 _ _ _ rfl rfl rfl rfl rfl; have a1 : R' 131 = .int .i64 x69.1 := hd 1 _ _ _ rfl rfl rfl rfl rfl; exact of_neq a0 a1) <|
                          Obls.nil
                      intro R w hw hs hF'
                      have h132 : R 132 = .bool (x100 != x69.1) := hF' 2 _ _ rfl rfl rfl
                      replace hO := hO.fr hw
                      replace hA := hA.fr hw.size
                      replace hF := hF.trans hw
                      clear hs hF' hw
                      refine seqR_nil ?_
                      refine HT.cond (x100 != x69.1) h132 (fun c103 => ?_) (fun c103 => ?_)
                      · have hr := cnd_t c103 hr
                        refine HT.seq ?_
                        refine HT.text (l := ⟨_, true, .raw (.bool false)⟩ :: []) (tl := []) (by kernel_rfl) (by kernel_rfl) (by kernel_rfl) ?_ ?_
                        · exact
                            Obls.cons (Obl.plain rfl rfl fun R' w' hw hs hd => by exact of_assign rfl) <|
                            Obls.nil
                        intro R w hw hs hF'
                        have h2 : R 2 = .bool false := hF' 0 _ _ rfl rfl rfl
                        replace hO := hO.fr hw
                        replace hA := hA.fr hw.size
                        replace hF := hF.trans hw
                        clear hs hF' hw
                        refine seqR_nil ?_
                        refine HT.ret ?_
                        obtain rfl := Option.some.inj hr
                        exact ⟨.inr rfl, [R 2], ⟨rfl, trivial⟩, h2, hF⟩
                      · have hr := cnd_f c103 hr
                        refine HT.skip ?_
                        refine HT.seq ?_
                        refine HT.text (l := ⟨_, true, .raw (.bool true)⟩ :: []) (tl := []) (by kernel_rfl) (by kernel_rfl) (by kernel_rfl) ?_ ?_
                        · exact
                            Obls.cons (Obl.plain rfl rfl fun R' w' hw hs hd => by exact of_assign rfl) <|
                            Obls.nil
                        intro R w hw hs hF'
                        have h2 : R 2 = .bool true := hF' 0 _ _ rfl rfl rfl
                        replace hO := hO.fr hw
                        replace hA := hA.fr hw.size
                        replace hF := hF.trans hw
                        clear hs hF' hw
                        refine seqR_nil ?_
                        refine HT.ret ?_
                        obtain rfl := Option.some.inj hr
                        exact ⟨.inr rfl, [R 2], ⟨rfl, trivial⟩, h2, hF⟩
end Go.Proofs.Ytmkgocdgkdglnaa
