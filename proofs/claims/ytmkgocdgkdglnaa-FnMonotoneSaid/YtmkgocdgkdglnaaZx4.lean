/- Own texts laid together. No statement of the seat is proved here. -/
import Derived.Test.YtmkgocdgkdglnaaZx3
/- Printed by dec.py: plain functions and the proofs that the code computes them. No statement of the seat is proved here. -/
namespace Go.Proofs.Ytmkgocdgkdglnaa
open Go.RowKit
set_option linter.unusedVariables false
open _root_.Go.Proofs.Try
set_option maxRecDepth 100000
set_option maxHeartbeats 4000000
def M_spec_ParseRules_L1 (fu : Nat) (x28 : List (List UInt8)) : Nat → Int → T_impl_Rule → Option T_impl_Rule
 | 0, _, _ => none
 | k + 1, y34, y35 =>
 bd ((decide (y34 < (x28.length : Int))) && (decide (y34 ≤ 3))) fun x36 =>
 bif x36 then (
 ck (inR y34 x28.length) <|
 cl true (M_spec_l14Test fu (gtD x28 y34)) fun x42 =>
 ck (lenOK (y35.length + ([x42] : List T_impl_Test).length)) <|
 ck (i64B (y34 + 1)) <|
 M_spec_ParseRules_L1 fu x28 k (y34 + 1) (y35 ++ ([x42] : List T_impl_Test))
 ) else (
 some y35
 )
def M_spec_ParseRules_L0 (fu : Nat) (x12 : List (List UInt8)) : Nat → Int → T_impl_RuleSet → T_impl_Rule → Option T_impl_RuleSet
 | 0, _, _, _ => none
 | k + 1, y18, y19, y20 =>
 bd ((decide (y18 < (x12.length : Int))) && (decide (y18 ≤ 6))) fun x21 =>
 bif x21 then (
 ck ((2 : Int) != 0) <|
 bif ((y18.tmod 2) == 1) then (
 ck (i64B (y18 + 1)) <|
 M_spec_ParseRules_L0 fu x12 k (y18 + 1) y19 y20
 ) else (
 ck (inR y18 x12.length) <|
 cl true (M_spec_l2Cut fu (gtD x12 y18) 44) fun x28 =>
 cl true (M_spec_ParseRules_L1 fu x28 fu 0 y20) fun s33 =>
 ck (lenOK (y19.length + 1)) <|
 ck (i64B (y18 + 1)) <|
 M_spec_ParseRules_L0 fu x12 k (y18 + 1) (y19 ++ [s33]) ([] : List T_impl_Test)
 )
 ) else (
 some y19
 )
def M_spec_ParseRules (fu : Nat) (p0 : List UInt8) : Option (T_impl_RuleSet × Bool) :=
 cl true (M_spec_l2Cut fu p0 32) fun x12 =>
 cl true (M_spec_ParseRules_L0 fu x12 fu 0 ([] : List T_impl_Rule) ([] : List T_impl_Test)) fun s17 =>
 cl (true && ((p0 == ([] : List UInt8)) == false)) (M_spec_FormatRules fu s17) fun x69 =>
 bd ((p0 == ([] : List UInt8)) || (!(x69 == p0))) fun x71 =>
 bif x71 then (
 some (([] : List T_impl_Rule), false)
 ) else (
 some (s17, true)
 )
set_option linter.unusedSimpArgs false in
theorem M_spec_ParseRules_ok {fu : Nat} {A0 : Av} {p0 : List UInt8} {r : T_impl_RuleSet × Bool} (c : M_spec_ParseRules fu p0 = some r) {w : World} {v0 : Value} (d : AvOK A0 w) (h0 : Rep eStr A0 w v0 p0) :
 Calls Try.prog 129 #[v0] w fun e w' => ∃ v, e = .returned v ∧ (∃ (u0 : Value) (S0 : Nat → Prop) (A1 : Av), GPost A0 (fun _ => False) w [⟨u0, S0, trR (geB w.heap.size) (oBx (oSl 79 (oBx (oSl 82 (oRd E_impl_Test))))) r.1 []⟩] A1 w' ∧ (Fact.tup2 (.raw u0) (.raw (.bool r.2))).ok v w') := by
 unfold M_spec_ParseRules at c
 obtain ⟨w0,hw0,j,C⟩ := pw d
 have hA00 : AvOK A0 w0 := C
 rw [show GPost A0 (fun _ => False) w = GPost A0 (fun _ => False) w0 from by rw [hw0]]
 rw [show w.heap.size = w0.heap.size from by rw [hw0]]
 obtain ⟨A,hAe,B,d,q⟩ := pa d
 refine calls_of_HT2 [.cell 2 29, .tmp 3] Try.func129 Try.ntmps129 (by decide) Z Z (nb Z) ?_
 intro R hR
 have f_v0 : Rep eStr A w v0 p0 := hAe ▸ h0
 replace h0 : R 0 = v0 := hR 0 _ Z
 refine HT.sx [] (⟨_, true, [], some (trR (geB w0.heap.size) (oPt 29 (oBx (oSl 79 (oBx (oSl 82 (oRd E_impl_Test)))))) ([] : List T_impl_Rule) []), true, fun A => .any⟩ :: rB false :: []) (ua (ur (UAll.nil))) q d ?_ ?_
 exact rc (OblR.madeS _ Z Z Z Z fun V Q U O D=> by exact made_allocT Try.zeroValue29 (fun A w=> own_nil) (fun k hk=> Nat.le_trans (Nat.le_trans j.size O.ch.size) hk)) <| rp (fun V Q U O D=> of_assign Z) <| rz
 intro done ρ σ A R w y s
 replace h0 := k1 s.rg h0
 obtain ⟨u1, e_u1⟩ : ∃ u, ρ 0 = u := ⟨_, Z⟩
 have h2 := s.ov y 0 0 e_u1
 obtain ⟨S2, eS_u1⟩ : ∃ S, σ 0 = S := ⟨_, Z⟩
 replace f_v0 := f_v0.stp s.stp
 obtain ⟨B,j,d⟩ := s.s B C j q N
 replace q := s.left y [(0, ⟨u1, S2, trR (geB w0.heap.size) (oPt 29 (oBx (oSl 79 (oBx (oSl 82 (oRd E_impl_Test)))))) ([] : List T_impl_Rule) []⟩)] ⟨Z, Z, e_u1, eS_u1, Z, N⟩
 refine HT.sx [⟨u1, S2, trR (geB w0.heap.size) (oPt 29 (oBx (oSl 79 (oBx (oSl 82 (oRd E_impl_Test)))))) ([] : List T_impl_Rule) []⟩] (⟨_, true, [], some (trR (geB w0.heap.size) (oBx (oSl 79 (oBx (oSl 82 (oRd E_impl_Test))))) ([] : List T_impl_Rule) []), true, fun A => .any⟩ :: ⟨_, true, [], some (trR (geB w0.heap.size) (oPt 29 (oBx (oSl 79 (oBx (oSl 82 (oRd E_impl_Test)))))) ([] : List T_impl_Rule) []), true, fun A => .any⟩ :: ⟨_, true, [2, 1], some (trR (geB w0.heap.size) (oPt 29 (oBx (oSl 79 (oBx (oSl 82 (oRd E_impl_Test)))))) ([] : List T_impl_Rule) []), false, fun A => .any⟩ :: []) (ua (ua (ua (UAll.nil)))) q d ?_ ?_
 exact rc (OblR.madeS _ Z Z Z Z fun V Q U O D=> by exact made_valT (v := .agg #[.slice none 0 0]) (by simp [execOp, Instr.build, evalR, underlying, Try.underlying29, Try.zeroValue29, Try.sizeOf27, go_sem, Instr.fill]) ⟨⟨_, Z, own_nil⟩, fun q hq=> by cases hq⟩ (fun k hk=> Nat.le_trans (Nat.le_trans j.size O.ch.size) hk)) <| rc (OblR.madeS _ Z Z Z Z fun V Q U O D=> by exact made_allocT Try.zeroValue29 (fun A w=> own_nil) (fun k hk=> Nat.le_trans (Nat.le_trans j.size O.ch.size) hk)) <| rc (OblR.tookM 2 [1] _ Z Z Z Z fun V Q U O D ρ σ X Y J L M hdd=> by have k1 := X 2 (.head _) _ Z; exact took_put2 Z (tr_root k1.2.2).ptr (X 1 (.tail _ (.head _)) _ Z).2.2.1 (L 1 (.tail _ (.head _)) _ _ Z Z Z Z).symm (L 2 (.head _) _ _ Z Z Z Z).symm Y hdd k1.2.1 (X 1 (.tail _ (.head _)) _ Z).2.1 Try.sizeOf29 (fun _ _ _ h=> h)) <| rz
 intro done ρ σ A R w y s
 obtain ⟨h0, h2⟩ := k2 s.rg h0 h2
 have z3 := s.inivR 0 Z
 obtain ⟨u4, e_u4⟩ : ∃ u, ρ 3 = u := ⟨_, Z⟩
 have z5 := (s.opnR y 3 2 Z Z Z Z Z).symm.trans e_u4
 have h4 := s.ov y 2 1 z5
 have eS_u1 := s.inisR 0 Z
 obtain ⟨S6, eS_u4⟩ : ∃ S, σ 3 = S := ⟨_, Z⟩
 replace f_v0 := f_v0.stp s.stp
 obtain ⟨B,j,d⟩ := s.s B C j q ⟨fun _ h => h, N⟩
 replace q := s.left y [(0, ⟨u1, S2, trR (geB w0.heap.size) (oPt 29 (oBx (oSl 79 (oBx (oSl 82 (oRd E_impl_Test)))))) ([] : List T_impl_Rule) []⟩), (3, ⟨u4, S6, trR (geB w0.heap.size) (oPt 29 (oBx (oSl 79 (oBx (oSl 82 (oRd E_impl_Test)))))) ([] : List T_impl_Rule) []⟩)] ⟨Z, Z, z3, eS_u1, Z, ⟨Z, Z, e_u4, eS_u4, Z, N⟩⟩
 refine HT.sx [⟨u1, S2, trR (geB w0.heap.size) (oPt 29 (oBx (oSl 79 (oBx (oSl 82 (oRd E_impl_Test)))))) ([] : List T_impl_Rule) []⟩, ⟨u4, S6, trR (geB w0.heap.size) (oPt 29 (oBx (oSl 79 (oBx (oSl 82 (oRd E_impl_Test)))))) ([] : List T_impl_Rule) []⟩] (⟨_, true, [], some (trR (geB w0.heap.size) (oBx (oSl 82 (oRd E_impl_Test))) ([] : List T_impl_Test) []), true, fun A => .any⟩ :: ⟨_, true, [], some (trR (geB w0.heap.size) (oPt 79 (oBx (oSl 82 (oRd E_impl_Test)))) ([] : List T_impl_Test) []), true, fun A => .any⟩ :: ⟨_, true, [3, 2], some (trR (geB w0.heap.size) (oPt 79 (oBx (oSl 82 (oRd E_impl_Test)))) ([] : List T_impl_Test) []), false, fun A => .any⟩ :: []) (ua (ua (ua (UAll.nil)))) q d ?_ ?_
 exact rc (OblR.madeS _ Z Z Z Z fun V Q U O D=> by exact made_valT (v := .agg #[.slice none 0 0]) (by simp [execOp, Instr.build, evalR, underlying, Try.underlying79, Try.zeroValue79, Try.sizeOf65, go_sem, Instr.fill]) ⟨⟨_, Z, own_nil⟩, fun q hq=> by cases hq⟩ (fun k hk=> Nat.le_trans (Nat.le_trans j.size O.ch.size) hk)) <| rc (OblR.madeS _ Z Z Z Z fun V Q U O D=> by exact made_allocT Try.zeroValue79 (fun A w=> own_nil) (fun k hk=> Nat.le_trans (Nat.le_trans j.size O.ch.size) hk)) <| rc (OblR.tookM 3 [2] _ Z Z Z Z fun V Q U O D ρ σ X Y J L M hdd=> by have k1 := X 3 (.head _) _ Z; exact took_put2 Z (tr_root k1.2.2).ptr (X 2 (.tail _ (.head _)) _ Z).2.2.1 (L 2 (.tail _ (.head _)) _ _ Z Z Z Z).symm (L 3 (.head _) _ _ Z Z Z Z).symm Y hdd k1.2.1 (X 2 (.tail _ (.head _)) _ Z).2.1 Try.sizeOf79 (fun _ _ _ h=> h)) <| rz
 intro done ρ σ A R w y s
 obtain ⟨h0, h2, h4⟩ := k3 s.rg h0 h2 h4
 have z7 := s.inivR 0 Z
 have z8 := s.inivR 1 Z
 obtain ⟨u9, e_u9⟩ : ∃ u, ρ 4 = u := ⟨_, Z⟩
 have z10 := (s.opnR y 4 2 Z Z Z Z Z).symm.trans e_u9
 have h5 := s.ov y 3 1 z10
 have eS_u1 := s.inisR 0 Z
 have eS_u4 := s.inisR 1 Z
 obtain ⟨S11, eS_u9⟩ : ∃ S, σ 4 = S := ⟨_, Z⟩
 replace f_v0 := f_v0.stp s.stp
 obtain ⟨B,j,d⟩ := s.s B C j q ⟨fun _ h => h, ⟨fun _ h => h, N⟩⟩
 replace q := s.left y [(0, ⟨u1, S2, trR (geB w0.heap.size) (oPt 29 (oBx (oSl 79 (oBx (oSl 82 (oRd E_impl_Test)))))) ([] : List T_impl_Rule) []⟩), (1, ⟨u4, S6, trR (geB w0.heap.size) (oPt 29 (oBx (oSl 79 (oBx (oSl 82 (oRd E_impl_Test)))))) ([] : List T_impl_Rule) []⟩), (4, ⟨u9, S11, trR (geB w0.heap.size) (oPt 79 (oBx (oSl 82 (oRd E_impl_Test)))) ([] : List T_impl_Test) []⟩)] ⟨Z, Z, z7, eS_u1, Z, ⟨Z, Z, z8, eS_u4, Z, ⟨Z, Z, e_u9, eS_u9, Z, N⟩⟩⟩
 obtain ⟨x12, q13, c⟩ := cl_some c
 refine HT.su d j (eR v0 :: eF (.rep (eSl eStr) A x12) :: eF (.rep (eSl eStr) A x12) :: []) ?_ ?_
 exact om h0 <| op (fun Q U W H D=> of_call Try.call139 (M_spec_l2Cut_okR (q13 Z) (d.fr W.size) ((f_v0.fr W).eq (D.g 0 Z)) Z)) <| op (fun Q U W H D=> of_assign (D.g 0 Z)) <| oz
 intro R w m n p d j
 obtain ⟨h0, h2, h4, h5⟩ := k4 n h0 h2 h4 h5
 obtain ⟨u14, h6, f_u14⟩ : ∃ u, R 6 = u ∧ Rep (eSl eStr) A w u x12 := ⟨_, Z, p 2 _ _ Z Z Z⟩
 replace f_v0 := f_v0.fr m
 replace q := q.fr m
 refine HT.seq ?_
 refine HT.su d j (eI 0 :: []) ?_ ?_
 exact op (fun Q U W H D=> of_assign Z) <| oz
 intro R w m n p d j
 obtain ⟨h0, h2, h4, h5, h6⟩ := k5 n h0 h2 h4 h5 h6
 have h7 := p.r 0 Z
 replace f_u14 := f_u14.fr m
 replace f_v0 := f_v0.fr m
 replace q := q.fr m
 obtain ⟨rl15, q16, c⟩ := cl_some c
 replace q16 := q16 Z
 refine HT.cut0 (fun R w => ∃ A : Av, ∃ (s17 : T_impl_RuleSet) (So_u4 : Nat → Prop), rl15 = s17 ∧ AvOK A w ∧ Fr w0 w ∧ (∀ b o, A0 b o → A b o) ∧ IniOK [⟨u1, S2, trR (geB w0.heap.size) (oPt 29 (oBx (oSl 79 (oBx (oSl 82 (oRd E_impl_Test)))))) ([] : List T_impl_Rule) []⟩, ⟨u4, So_u4, trR (geB w0.heap.size) (oPt 29 (oBx (oSl 79 (oBx (oSl 82 (oRd E_impl_Test)))))) s17 []⟩] A w ∧ R 0 = v0 ∧ R 2 = u1 ∧ R 4 = u4 ∧ Rep eStr A w v0 p0) ?_ ?_
 refine HT.block ?_
 refine HT.loop (fun k R w => ∃ A : Av, ∃ (y18 : Int) (y19 : T_impl_RuleSet) (y20 : T_impl_Rule) (Sl_u4 : Nat → Prop) (Sl_u9 : Nat → Prop), M_spec_ParseRules_L0 fu x12 k y18 y19 y20 = some rl15 ∧ AvOK A w ∧ Fr w0 w ∧ (∀ b o, A0 b o → A b o) ∧ IniOK [⟨u1, S2, trR (geB w0.heap.size) (oPt 29 (oBx (oSl 79 (oBx (oSl 82 (oRd E_impl_Test)))))) ([] : List T_impl_Rule) []⟩, ⟨u4, Sl_u4, trR (geB w0.heap.size) (oPt 29 (oBx (oSl 79 (oBx (oSl 82 (oRd E_impl_Test)))))) y19 []⟩, ⟨u9, Sl_u9, trR (geB w0.heap.size) (oPt 79 (oBx (oSl 82 (oRd E_impl_Test)))) y20 []⟩] A w ∧ R 0 = v0 ∧ R 2 = u1 ∧ R 4 = u4 ∧ R 5 = u9 ∧ R 6 = u14 ∧ R 7 = .int .i64 y18 ∧ Rep (eSl eStr) A w u14 x12 ∧ Rep eStr A w v0 p0) fu ⟨_, _, _, _, S6, S11, q16, d, j, B, q, h0, h2, h4, h5, h6, h7, f_u14, f_v0⟩ ?_
 have hr0 := c; clear c q16
 rintro k R w ⟨A, y18, y19, y20, Sl_u4, Sl_u9, c, d, j, B, q, h0, h2, h4, h5, h6, h7, f_u14, f_v0⟩
 rcases k with _ | k
 cases (show none = some _ from c)
 rw [M_spec_ParseRules_L0] at c
 refine HT.seq ?_
 refine HT.seq ?_
 obtain ⟨x21, q22, c⟩ := bd_some c
 refine HT.u d j (eI y18 :: eR u14 :: eI (x12.length : Int) :: eB (decide (y18 < (x12.length : Int))) :: eB (decide (y18 < (x12.length : Int))) :: gI (true && ((decide (y18 < (x12.length : Int))) == true)) y18 :: gB (true && ((decide (y18 < (x12.length : Int))) == true)) (decide (y18 ≤ 6)) :: eB x21 :: []) ?_ ?_
 exact om h7 <| om h6 <| op (fun Q U W H D=> of_len_sl (aT := #[]) ((f_u14.fr W).eq (D.g 0 Z)) Try.underlying154) <| op (fun Q U W H D=> of_lss (D.g 0 Z) (D.g 1 Z)) <| ov <| gm 4 true h7 <| og 4 true (fun G Q U W H D=> of_leq (D.h 0 G Z) Z) <| op (fun Q U W H D=> of_pick (decide (y18 < (x12.length : Int))) (D.g 0 Z) (fun hc=> by have a1 : Q 20 = .bool (decide (y18 ≤ 6)) := D 1 _ _ _ Z Z Z Z (g_and Z (beq_of hc)); show _ = Value.bool x21; rw [q22, hc]; exact a1) (fun hc=> by show _ = Value.bool x21; rw [q22, hc]; exact Z)) <| oz
 intro R w m n p d j
 obtain ⟨h0, h2, h4, h5, h6, h7⟩ := k6 n h0 h2 h4 h5 h6 h7
 have h21 := p.r 7 Z
 replace f_u14 := f_u14.fr m
 replace f_v0 := f_v0.fr m
 replace q := q.fr m
 refine HT.cond x21 h21 (fun c23 => ?_) (fun c23 => ?_)
 have c := cnd_t c23 c
 refine HT.skip ?_
 refine HT.seq ?_
 refine HT.block ?_
 refine HT.seq ?_
 obtain ⟨e24, c⟩ := ck_some c
 refine HT.su d j (eI y18 :: eI (y18.tmod 2) :: eB ((y18.tmod 2) == 1) :: []) ?_ ?_
 exact om h7 <| op (fun Q U W H D=> of_rem (D.g 0 Z) Z e24) <| op (fun Q U W H D=> of_eql (D.g 0 Z) Z) <| oz
 intro R w m n p d j
 obtain ⟨h0, h2, h4, h5, h6, h7⟩ := k6 n h0 h2 h4 h5 h6 h7
 have h26 := p.r 2 Z
 replace f_u14 := f_u14.fr m
 replace f_v0 := f_v0.fr m
 replace q := q.fr m
 refine HT.cond ((y18.tmod 2) == 1) h26 (fun c25 => ?_) (fun c25 => ?_)
 have c := cnd_t c25 c
 refine HT.exit ?_
 obtain ⟨e26, c⟩ := ck_some c
 refine HT.u d j (eI y18 :: eI (y18 + 1) :: eI (y18 + 1) :: []) ?_ ?_
 exact om h7 <| op (fun Q U W H D=> of_add (D.g 0 Z) Z e26) <| oa <| oz
 intro R w m n p d j
 obtain ⟨h0, h2, h4, h5, h6⟩ := k5 n h0 h2 h4 h5 h6
 have h7 := p.r 2 Z
 replace f_u14 := f_u14.fr m
 replace f_v0 := f_v0.fr m
 replace q := q.fr m
 exact ei k (And.intro (Nat.lt_succ_self k) ⟨_, _, _, _, Sl_u4, Sl_u9, c, d, j, B, q, h0, h2, h4, h5, h6, h7, f_u14, f_v0⟩)
 have c := cnd_f c25 c
 refine HT.skip ?_
 obtain ⟨e27, c⟩ := ck_some c
 obtain ⟨x28, q29, c⟩ := cl_some c
 refine HT.su d j (eR u14 :: eI y18 :: eF (.qtr eStr A (gtD x12 y18)) :: eF (.rep eStr A (gtD x12 y18)) :: eF (.rep (eSl eStr) A x28) :: eF (.rep (eSl eStr) A x28) :: []) ?_ ?_
 exact om h6 <| om h7 <| op (fun Q U W H D=> of_indexAddr ((f_u14.fr W).eq (D.g 0 Z)) (D.g 1 Z) Try.underlying154 Try.sizeOf9 e27) <| op (fun Q U W H D=> (of_load (QRep.ptr (D.g 0 Z)) Try.isAgg9 Try.sizeOf9)) <| op (fun Q U W H D=> of_call Try.call139 (M_spec_l2Cut_okR (q29 Z) (d.fr W.size) (D.g 0 Z) Z)) <| op (fun Q U W H D=> of_assign (D.g 0 Z)) <| oz
 intro R w m n p d j
 obtain ⟨h0, h2, h4, h5, h6, h7⟩ := k6 n h0 h2 h4 h5 h6 h7
 obtain ⟨u30, h8, f_u30⟩ : ∃ u, R 8 = u ∧ Rep (eSl eStr) A w u x28 := ⟨_, Z, p 5 _ _ Z Z Z⟩
 replace f_u14 := f_u14.fr m
 replace f_v0 := f_v0.fr m
 replace q := q.fr m
 refine HT.seq ?_
 refine HT.su d j (eI 0 :: []) ?_ ?_
 exact op (fun Q U W H D=> of_assign Z) <| oz
 intro R w m n p d j
 obtain ⟨h0, h2, h4, h5, h6, h7⟩ := k6 n h0 h2 h4 h5 h6 h7
 replace h8 := k1 n h8
 have h9 := p.r 0 Z
 replace f_u14 := f_u14.fr m
 replace f_u30 := f_u30.fr m
 replace f_v0 := f_v0.fr m
 replace q := q.fr m
 obtain ⟨rl31, q32, c⟩ := cl_some c
 replace q32 := q32 Z
 refine HT.cut0 (fun R w => ∃ A : Av, ∃ (s33 : T_impl_Rule) (So_u9 : Nat → Prop), rl31 = s33 ∧ AvOK A w ∧ Fr w0 w ∧ (∀ b o, A0 b o → A b o) ∧ IniOK [⟨u1, S2, trR (geB w0.heap.size) (oPt 29 (oBx (oSl 79 (oBx (oSl 82 (oRd E_impl_Test)))))) ([] : List T_impl_Rule) []⟩, ⟨u4, Sl_u4, trR (geB w0.heap.size) (oPt 29 (oBx (oSl 79 (oBx (oSl 82 (oRd E_impl_Test)))))) y19 []⟩, ⟨u9, So_u9, trR (geB w0.heap.size) (oPt 79 (oBx (oSl 82 (oRd E_impl_Test)))) s33 []⟩] A w ∧ R 0 = v0 ∧ R 2 = u1 ∧ R 4 = u4 ∧ R 5 = u9 ∧ R 6 = u14 ∧ R 7 = .int .i64 y18 ∧ Rep (eSl eStr) A w u14 x12 ∧ Rep eStr A w v0 p0) ?_ ?_
 refine HT.block ?_
 refine HT.loop (fun k R w => ∃ A : Av, ∃ (y34 : Int) (y35 : T_impl_Rule) (Sl_u9 : Nat → Prop), M_spec_ParseRules_L1 fu x28 k y34 y35 = some rl31 ∧ AvOK A w ∧ Fr w0 w ∧ (∀ b o, A0 b o → A b o) ∧ IniOK [⟨u1, S2, trR (geB w0.heap.size) (oPt 29 (oBx (oSl 79 (oBx (oSl 82 (oRd E_impl_Test)))))) ([] : List T_impl_Rule) []⟩, ⟨u4, Sl_u4, trR (geB w0.heap.size) (oPt 29 (oBx (oSl 79 (oBx (oSl 82 (oRd E_impl_Test)))))) y19 []⟩, ⟨u9, Sl_u9, trR (geB w0.heap.size) (oPt 79 (oBx (oSl 82 (oRd E_impl_Test)))) y35 []⟩] A w ∧ R 0 = v0 ∧ R 2 = u1 ∧ R 4 = u4 ∧ R 5 = u9 ∧ R 6 = u14 ∧ R 7 = .int .i64 y18 ∧ R 8 = u30 ∧ R 9 = .int .i64 y34 ∧ Rep (eSl eStr) A w u14 x12 ∧ Rep (eSl eStr) A w u30 x28 ∧ Rep eStr A w v0 p0) fu ⟨_, _, _, Sl_u9, q32, d, j, B, q, h0, h2, h4, h5, h6, h7, h8, h9, f_u14, f_u30, f_v0⟩ ?_
 have hr0 := c; clear c q32
 rintro k R w ⟨A, y34, y35, Sl_u9, c, d, j, B, q, h0, h2, h4, h5, h6, h7, h8, h9, f_u14, f_u30, f_v0⟩
 rcases k with _ | k
 cases (show none = some _ from c)
 rw [M_spec_ParseRules_L1] at c
 refine HT.seq ?_
 refine HT.seq ?_
 obtain ⟨x36, q37, c⟩ := bd_some c
 refine HT.u d j (eI y34 :: eR u30 :: eI (x28.length : Int) :: eB (decide (y34 < (x28.length : Int))) :: eB (decide (y34 < (x28.length : Int))) :: gI (true && ((decide (y34 < (x28.length : Int))) == true)) y34 :: gB (true && ((decide (y34 < (x28.length : Int))) == true)) (decide (y34 ≤ 3)) :: eB x36 :: []) ?_ ?_
 exact om h9 <| om h8 <| op (fun Q U W H D=> of_len_sl (aT := #[]) ((f_u30.fr W).eq (D.g 0 Z)) Try.underlying154) <| op (fun Q U W H D=> of_lss (D.g 0 Z) (D.g 1 Z)) <| ov <| gm 4 true h9 <| og 4 true (fun G Q U W H D=> of_leq (D.h 0 G Z) Z) <| op (fun Q U W H D=> of_pick (decide (y34 < (x28.length : Int))) (D.g 0 Z) (fun hc=> by have a1 : Q 38 = .bool (decide (y34 ≤ 3)) := D 1 _ _ _ Z Z Z Z (g_and Z (beq_of hc)); show _ = Value.bool x36; rw [q37, hc]; exact a1) (fun hc=> by show _ = Value.bool x36; rw [q37, hc]; exact Z)) <| oz
 intro R w m n p d j
 obtain ⟨h0, h2, h4, h5, h6, h7⟩ := k6 n h0 h2 h4 h5 h6 h7
 obtain ⟨h8, h9⟩ := k2 n h8 h9
 have h39 := p.r 7 Z
 replace f_u14 := f_u14.fr m
 replace f_u30 := f_u30.fr m
 replace f_v0 := f_v0.fr m
 replace q := q.fr m
 refine HT.cond x36 h39 (fun c38 => ?_) (fun c38 => ?_)
 have c := cnd_t c38 c
 refine HT.skip ?_
 refine HT.seq ?_
 refine HT.block ?_
 obtain ⟨h39, p_h39⟩ := (((tr_root (q.own 2 _ Z).2).ptr).bx).open1 Z
 replace q : IniOK [⟨u1, S2, trR (geB w0.heap.size) (oPt 29 (oBx (oSl 79 (oBx (oSl 82 (oRd E_impl_Test)))))) ([] : List T_impl_Rule) []⟩, ⟨u4, Sl_u4, trR (geB w0.heap.size) (oPt 29 (oBx (oSl 79 (oBx (oSl 82 (oRd E_impl_Test)))))) y19 []⟩, ⟨u9, Sl_u9, trR (geB w0.heap.size) (oPt 79 (oBx (oSl 82 (oRd E_impl_Test)))) y35 [(u9, [h39])]⟩] A w := q.repin 2 Z (trP.pin p_h39)
 obtain ⟨e41, c⟩ := ck_some c
 obtain ⟨x42, q43, c⟩ := cl_some c
 obtain ⟨e44, c⟩ := ck_some c
 refine HT.drawR [⟨u1, S2, trR (geB w0.heap.size) (oPt 29 (oBx (oSl 79 (oBx (oSl 82 (oRd E_impl_Test)))))) ([] : List T_impl_Rule) []⟩, ⟨u4, Sl_u4, trR (geB w0.heap.size) (oPt 29 (oBx (oSl 79 (oBx (oSl 82 (oRd E_impl_Test)))))) y19 []⟩, ⟨u9, Sl_u9, trR (geB w0.heap.size) (oPt 79 (oBx (oSl 82 (oRd E_impl_Test)))) y35 [(u9, [h39])]⟩] (rR u9 :: rR h39 :: rR u30 :: rI y34 :: (rF fun A => .qtr eStr A (gtD x28 y34)) :: (rF fun A => .rep eStr A (gtD x28 y34)) :: (rF fun A => .rep E_impl_Test A x42) :: (rF fun A => .rep (eSl E_impl_Test) A ([x42] : List T_impl_Test)) :: ⟨_, true, [2], some (.gen (geB w0.heap.size) (pdP (oSl 82 (oRd E_impl_Test)) u9 (fun z A w S => (trP (oPt 79 (oBx (oSl 82 (oRd E_impl_Test)))) z []).P A w S u9) (y35 ++ ([x42] : List T_impl_Test)))), true, fun A => .any⟩ :: rR u9 :: ⟨_, true, [11], some (.gen (geB w0.heap.size) (fixP u9 (trP (oPt 79 (oBx (oSl 82 (oRd E_impl_Test)))) (y35 ++ ([x42] : List T_impl_Test)) []))), false, fun A => .any⟩ :: []) (by kernel_rfl) (by kernel_rfl) (by kernel_rfl) (Wf.mk' (by kernel_rfl) (ur (ur (ur (ur (UAll.cons ust_qtr (up (up (up (ua (ur (ua (UAll.nil)))))))))))) (by kernel_rfl) (by kernel_rfl)) q d ?_ ?_
 exact rp (fun V Q U O D=> of_fieldAddr_tr ((tr_root (q.own 2 _ Z).2).ptr).ad ((O.old 5 Z).trans h5) ff_79_0 Try.sizeOf65 (by decide) (padd_zero ((tr_root (q.own 2 _ Z).2).ptr).ad)) <| rp (fun V Q U O D=> of_load_pin ((O.rdo 2 _ Z Z).2.2 _ (.head _)) (D.g 0 Z) Try.isAgg65 Try.sizeOf65) <| rm h8 <| rm h9 <| rp (fun V Q U O D=> of_indexAddr ((f_u30.stp O.stp).eq (D.g 0 Z)) (D.g 1 Z) Try.underlying154 Try.sizeOf9 e41) <| rp (fun V Q U O D=> (of_load (QRep.ptr (D.g 0 Z)) Try.isAgg9 Try.sizeOf9)) <| rp (fun V Q U O D=> of_call Try.call140 (M_spec_l14Test_ok (q43 Z) O.av (D.g 0 Z))) <| rp (fun V Q U O D=> of_build [_] (E := E_impl_Test) ⟨(D.g 0 Z), N⟩ Try.underlying65 Try.sizeOf82 Try.zeroValue82 Z Z Z O.av) <| rc (OblR.tookS 2 _ _ Z Z Z Z Z fun V Q U O D u S X I Y J L M=> by have a0 : Q 43 = h39 := D.g 0 Z; have a1 : Rep (eSl E_impl_Test) V U (Q 49) ([x42] : List T_impl_Test) := D.g 1 Z; have e0 := (J _ Z).1; rw [e0] at I ⊢; exact took_appendP ((tr_root I.2).ptr).bx (I.2.2 _ (.head _)) a0 Y I.1 (fun k hk=> Nat.le_trans (Nat.le_trans j.size O.ch.size) hk) (fun k hk=> SP.lt _ I.2 hk) a1 Try.underlying65 el_82 e44) <| rp (fun V Q U O D=> of_fieldAddr_tr ((tr_root (q.own 2 _ Z).2).ptr).ad ((O.old 5 Z).trans h5) ff_79_0 Try.sizeOf65 (by decide) (padd_zero ((tr_root (q.own 2 _ Z).2).ptr).ad)) <| rc (OblR.tookS 11 _ _ Z Z Z Z Z fun V Q U O D u S X I Y J L M=> by have a0 : Q 51 = u9 := D.g 0 Z; exact took_putP I.2 (L _ _ Z Z Z Z).symm a0 Y I.1 Try.sizeOf65 (fun _ _ _ h=> h)) <| rz
 intro done ρ σ A R w y s
 obtain ⟨h0, h2, h4, h5, h6, h7⟩ := k6 s.rg h0 h2 h4 h5 h6 h7
 obtain ⟨h8, h9⟩ := k2 s.rg h8 h9
 have z45 := s.inivR 0 Z
 have z46 := s.inivR 1 Z
 obtain ⟨u47, e_u47⟩ : ∃ u, ρ 13 = u := ⟨_, Z⟩
 have eS_u1 := s.inisR 0 Z
 have eS_u4 := s.inisR 1 Z
 obtain ⟨S48, eS_u9⟩ : ∃ S, σ 13 = S := ⟨_, Z⟩
 replace f_u14 := f_u14.stp s.stp
 replace f_u30 := f_u30.stp s.stp
 replace f_v0 := f_v0.stp s.stp
 obtain ⟨B,j,d⟩ := s.s B C j q ⟨fun _ h => h, ⟨fun _ h => h, ⟨fun _ h => h, N⟩⟩⟩
 replace q := s.left y [(0, ⟨u1, S2, trR (geB w0.heap.size) (oPt 29 (oBx (oSl 79 (oBx (oSl 82 (oRd E_impl_Test)))))) ([] : List T_impl_Rule) []⟩), (1, ⟨u4, Sl_u4, trR (geB w0.heap.size) (oPt 29 (oBx (oSl 79 (oBx (oSl 82 (oRd E_impl_Test)))))) y19 []⟩), (13, ⟨u47, S48, .gen (geB w0.heap.size) (fixP u9 (trP (oPt 79 (oBx (oSl 82 (oRd E_impl_Test)))) (y35 ++ ([x42] : List T_impl_Test)) []))⟩)] ⟨Z, Z, z45, eS_u1, Z, ⟨Z, Z, z46, eS_u4, Z, ⟨Z, Z, e_u47, eS_u9, Z, N⟩⟩⟩
 replace q : IniOK [⟨u1, S2, trR (geB w0.heap.size) (oPt 29 (oBx (oSl 79 (oBx (oSl 82 (oRd E_impl_Test)))))) ([] : List T_impl_Rule) []⟩, ⟨u4, Sl_u4, trR (geB w0.heap.size) (oPt 29 (oBx (oSl 79 (oBx (oSl 82 (oRd E_impl_Test)))))) y19 []⟩, ⟨u9, S48, trR (geB w0.heap.size) (oPt 79 (oBx (oSl 82 (oRd E_impl_Test)))) (y35 ++ ([x42] : List T_impl_Test)) []⟩] A w := q.refix 2 Z
 obtain ⟨e49, c⟩ := ck_some c
 refine HT.u d j (eI y34 :: eI (y34 + 1) :: eI (y34 + 1) :: []) ?_ ?_
 exact om h9 <| op (fun Q U W H D=> of_add (D.g 0 Z) Z e49) <| oa <| oz
 intro R w m n p d j
 obtain ⟨h0, h2, h4, h5, h6, h7⟩ := k6 n h0 h2 h4 h5 h6 h7
 replace h8 := k1 n h8
 have h9 := p.r 2 Z
 replace f_u14 := f_u14.fr m
 replace f_u30 := f_u30.fr m
 replace f_v0 := f_v0.fr m
 replace q := q.fr m
 exact ei k (And.intro (Nat.lt_succ_self k) ⟨_, _, _, S48, c, d, j, B, q, h0, h2, h4, h5, h6, h7, h8, h9, f_u14, f_u30, f_v0⟩)
 have c := cnd_f c38 c
 refine HT.exit ?_
 obtain rfl := si c
 exact ei _ ⟨_, Sl_u9, Z, d, j, B, q, h0, h2, h4, h5, h6, h7, f_u14, f_v0⟩
 rintro R w ⟨A, s33, So_u9, es, d, j, B, q, h0, h2, h4, h5, h6, h7, f_u14, f_v0⟩
 obtain rfl := es.symm
 refine HT.seq ?_
 replace q : IniOK [⟨u9, So_u9, trR (geB w0.heap.size) (oPt 79 (oBx (oSl 82 (oRd E_impl_Test)))) s33 []⟩, ⟨u1, S2, trR (geB w0.heap.size) (oPt 29 (oBx (oSl 79 (oBx (oSl 82 (oRd E_impl_Test)))))) ([] : List T_impl_Rule) []⟩, ⟨u4, Sl_u4, trR (geB w0.heap.size) (oPt 29 (oBx (oSl 79 (oBx (oSl 82 (oRd E_impl_Test)))))) y19 []⟩] A w := q.sub [(2, ⟨u9, So_u9, trR (geB w0.heap.size) (oPt 79 (oBx (oSl 82 (oRd E_impl_Test)))) s33 []⟩), (0, ⟨u1, S2, trR (geB w0.heap.size) (oPt 29 (oBx (oSl 79 (oBx (oSl 82 (oRd E_impl_Test)))))) ([] : List T_impl_Rule) []⟩), (1, ⟨u4, Sl_u4, trR (geB w0.heap.size) (oPt 29 (oBx (oSl 79 (oBx (oSl 82 (oRd E_impl_Test)))))) y19 []⟩)] ⟨Z, Z, ⟨Z, Z, ⟨Z, Z, N⟩⟩⟩
 obtain ⟨cs50, u51, S52, S53, e_u51, q⟩ := q.splitR
 replace q : IniOK [⟨u9, S52, trR (geB w0.heap.size) (oPt 79 (oRd (rawOf (oBx (oSl 82 (oRd E_impl_Test)))))) cs50 []⟩, ⟨u51, S53, trR (geB w0.heap.size) (oBx (oSl 82 (oRd E_impl_Test))) s33 []⟩, ⟨u1, S2, trR (geB w0.heap.size) (oPt 29 (oBx (oSl 79 (oBx (oSl 82 (oRd E_impl_Test)))))) ([] : List T_impl_Rule) []⟩, ⟨u4, Sl_u4, trR (geB w0.heap.size) (oPt 29 (oBx (oSl 79 (oBx (oSl 82 (oRd E_impl_Test)))))) y19 []⟩] A w := q
 obtain ⟨h54, p_h54⟩ := (((tr_root (q.own 3 _ Z).2).ptr).bx).open1 Z
 replace q : IniOK [⟨u9, S52, trR (geB w0.heap.size) (oPt 79 (oRd (rawOf (oBx (oSl 82 (oRd E_impl_Test)))))) cs50 []⟩, ⟨u51, S53, trR (geB w0.heap.size) (oBx (oSl 82 (oRd E_impl_Test))) s33 []⟩, ⟨u1, S2, trR (geB w0.heap.size) (oPt 29 (oBx (oSl 79 (oBx (oSl 82 (oRd E_impl_Test)))))) ([] : List T_impl_Rule) []⟩, ⟨u4, Sl_u4, trR (geB w0.heap.size) (oPt 29 (oBx (oSl 79 (oBx (oSl 82 (oRd E_impl_Test)))))) y19 [(u4, [h54])]⟩] A w := q.repin 3 Z (trP.pin p_h54)
 obtain ⟨e56, c⟩ := ck_some c
 refine HT.x [⟨u9, S52, trR (geB w0.heap.size) (oPt 79 (oRd (rawOf (oBx (oSl 82 (oRd E_impl_Test)))))) cs50 []⟩, ⟨u51, S53, trR (geB w0.heap.size) (oBx (oSl 82 (oRd E_impl_Test))) s33 []⟩, ⟨u1, S2, trR (geB w0.heap.size) (oPt 29 (oBx (oSl 79 (oBx (oSl 82 (oRd E_impl_Test)))))) ([] : List T_impl_Rule) []⟩, ⟨u4, Sl_u4, trR (geB w0.heap.size) (oPt 29 (oBx (oSl 79 (oBx (oSl 82 (oRd E_impl_Test)))))) y19 [(u4, [h54])]⟩] (rR u4 :: rR h54 :: rR u51 :: ⟨_, true, [1], some (trR (geB w0.heap.size) (oSl 79 (oBx (oSl 82 (oRd E_impl_Test)))) ([s33] : List T_impl_Rule) []), true, fun A => .any⟩ :: ⟨_, true, [3, 7], some (.gen (geB w0.heap.size) (pdP (oSl 79 (oBx (oSl 82 (oRd E_impl_Test)))) u4 (fun z A w S => (trP (oPt 29 (oBx (oSl 79 (oBx (oSl 82 (oRd E_impl_Test)))))) z []).P A w S u4) (y19 ++ [s33]))), true, fun A => .any⟩ :: rR u4 :: ⟨_, true, [8], some (.gen (geB w0.heap.size) (fixP u4 (trP (oPt 29 (oBx (oSl 79 (oBx (oSl 82 (oRd E_impl_Test)))))) (y19 ++ [s33]) []))), false, fun A => .any⟩ :: []) (ur (ur (ur (ua (ua (ur (ua (UAll.nil)))))))) q d ?_ ?_
 exact rp (fun V Q U O D=> of_fieldAddr_tr ((tr_root (q.own 3 _ Z).2).ptr).ad ((O.old 4 Z).trans h4) ff_29_0 Try.sizeOf27 (by decide) (padd_zero ((tr_root (q.own 3 _ Z).2).ptr).ad)) <| rp (fun V Q U O D=> of_load_pin ((O.rdo 3 _ Z Z).2.2 _ (.head _)) (D.g 0 Z) Try.isAgg27 Try.sizeOf27) <| rp (fun V Q U O D=> of_load_raw (O.rdo 0 _ Z Z).2 ((O.old 5 Z).trans h5) e_u51 Try.isAgg79 Try.sizeOf79) <| rc (OblR.tookS 1 _ _ Z Z Z Z Z fun V Q U O D u S X I Y J L M=> by have a0 : Q 54 = u51 := D.g 0 Z; exact took_buildT I.2 (a0.trans (J _ Z).1.symm) Y I.1 (fun k hk=> Nat.le_trans (Nat.le_trans j.size O.ch.size) hk) Try.underlying27 Try.sizeOf79 Try.zeroValue79 (by decide)) <| rc (OblR.tookM 3 [7] _ Z Z Z Z fun V Q U O D ρ σ X Y J L M hdd=> by have a0 : Q 53 = h54 := D.g 0 Z; have k1 := X 3 (.head _) _ Z; have e0 := (J 3 (.head _) _ Z).1; rw [e0] at k1 ⊢; exact took_appendPT Z ((tr_root k1.2.2).ptr).bx (k1.2.2.2 _ (.head _)) a0 (trP.nopin (X 7 (.tail _ (.head _)) _ Z).2.2) (L 7 (.tail _ (.head _)) _ _ Z Z Z Z).symm Y hdd k1.2.1 (X 7 (.tail _ (.head _)) _ Z).2.1 (fun k hk=> Nat.le_trans (Nat.le_trans j.size O.ch.size) hk) (fun k hk=> SP.lt _ k1.2.2 hk) Try.underlying27 el_79 e56) <| rp (fun V Q U O D=> of_fieldAddr_tr ((tr_root (q.own 3 _ Z).2).ptr).ad ((O.old 4 Z).trans h4) ff_29_0 Try.sizeOf27 (by decide) (padd_zero ((tr_root (q.own 3 _ Z).2).ptr).ad)) <| rc (OblR.tookS 8 _ _ Z Z Z Z Z fun V Q U O D u S X I Y J L M=> by have a0 : Q 57 = u4 := D.g 0 Z; exact took_putP I.2 (L _ _ Z Z Z Z).symm a0 Y I.1 Try.sizeOf27 (fun _ _ _ h=> h)) <| rz
 intro done ρ σ A R w y s
 obtain ⟨h0, h2, h4, h5, h6, h7⟩ := k6 s.rg h0 h2 h4 h5 h6 h7
 have z57 := s.inivR 0 Z
 have z58 := s.inivR 2 Z
 obtain ⟨u59, e_u59⟩ : ∃ u, ρ 10 = u := ⟨_, Z⟩
 have eS_u9 := s.inisR 0 Z
 have eS_u1 := s.inisR 2 Z
 obtain ⟨S60, eS_u4⟩ : ∃ S, σ 10 = S := ⟨_, Z⟩
 replace f_u14 := f_u14.stp s.stp
 replace f_v0 := f_v0.stp s.stp
 obtain ⟨B,j,d⟩ := s.s B C j q ⟨fun _ h => h, ⟨fun _ h => h, ⟨fun _ h => h, ⟨fun _ h => h, N⟩⟩⟩⟩
 replace q := s.left y [(0, ⟨u9, S52, trR (geB w0.heap.size) (oPt 79 (oRd (rawOf (oBx (oSl 82 (oRd E_impl_Test)))))) cs50 []⟩), (2, ⟨u1, S2, trR (geB w0.heap.size) (oPt 29 (oBx (oSl 79 (oBx (oSl 82 (oRd E_impl_Test)))))) ([] : List T_impl_Rule) []⟩), (10, ⟨u59, S60, .gen (geB w0.heap.size) (fixP u4 (trP (oPt 29 (oBx (oSl 79 (oBx (oSl 82 (oRd E_impl_Test)))))) (y19 ++ [s33]) []))⟩)] ⟨Z, Z, z57, eS_u9, Z, ⟨Z, Z, z58, eS_u1, Z, ⟨Z, Z, e_u59, eS_u4, Z, N⟩⟩⟩
 replace q : IniOK [⟨u9, S52, trR (geB w0.heap.size) (oPt 79 (oRd (rawOf (oBx (oSl 82 (oRd E_impl_Test)))))) cs50 []⟩, ⟨u1, S2, trR (geB w0.heap.size) (oPt 29 (oBx (oSl 79 (oBx (oSl 82 (oRd E_impl_Test)))))) ([] : List T_impl_Rule) []⟩, ⟨u4, S60, trR (geB w0.heap.size) (oPt 29 (oBx (oSl 79 (oBx (oSl 82 (oRd E_impl_Test)))))) (y19 ++ [s33]) []⟩] A w := q.refix 2 Z
 refine HT.x [⟨u9, S52, trR (geB w0.heap.size) (oPt 79 (oRd (rawOf (oBx (oSl 82 (oRd E_impl_Test)))))) cs50 []⟩, ⟨u1, S2, trR (geB w0.heap.size) (oPt 29 (oBx (oSl 79 (oBx (oSl 82 (oRd E_impl_Test)))))) ([] : List T_impl_Rule) []⟩, ⟨u4, S60, trR (geB w0.heap.size) (oPt 29 (oBx (oSl 79 (oBx (oSl 82 (oRd E_impl_Test)))))) (y19 ++ [s33]) []⟩] (⟨_, true, [], some (trR (geB w0.heap.size) (oBx (oSl 82 (oRd E_impl_Test))) ([] : List T_impl_Test) []), true, fun A => .any⟩ :: ⟨_, true, [0, 3], some (trR (geB w0.heap.size) (oPt 79 (oBx (oSl 82 (oRd E_impl_Test)))) ([] : List T_impl_Test) []), false, fun A => .any⟩ :: []) (ua (ua (UAll.nil))) q d ?_ ?_
 exact rc (OblR.madeS _ Z Z Z Z fun V Q U O D=> by exact made_valT (v := .agg #[.slice none 0 0]) (by simp [execOp, Instr.build, evalR, underlying, Try.underlying79, Try.zeroValue79, Try.sizeOf65, go_sem, Instr.fill]) ⟨⟨_, Z, own_nil⟩, fun q hq=> by cases hq⟩ (fun k hk=> Nat.le_trans (Nat.le_trans j.size O.ch.size) hk)) <| rc (OblR.tookM 0 [3] _ Z Z Z Z fun V Q U O D ρ σ X Y J L M hdd=> by have a0 : Q 5 = u9 := (O.old 5 Z).trans h5; have k1 := X 0 (.head _) _ Z; have e0 := (J 0 (.head _) _ Z).1; rw [e0] at k1 ⊢; exact took_refill2 Z k1.2.2 (X 3 (.tail _ (.head _)) _ Z).2.2.1 (L 3 (.tail _ (.head _)) _ _ Z Z Z Z).symm a0 Y hdd k1.2.1 (X 3 (.tail _ (.head _)) _ Z).2.1 Try.sizeOf79) <| rz
 intro done ρ σ A R w y s
 obtain ⟨h0, h2, h4, h5, h6, h7⟩ := k6 s.rg h0 h2 h4 h5 h6 h7
 have z61 := s.inivR 0 Z
 have z62 := s.on y 4 1 Z Z Z Z Z z61
 have z63 := s.inivR 1 Z
 have z64 := s.inivR 2 Z
 obtain ⟨S65, eS_u9⟩ : ∃ S, σ 4 = S := ⟨_, Z⟩
 have eS_u1 := s.inisR 1 Z
 have eS_u4 := s.inisR 2 Z
 replace f_u14 := f_u14.stp s.stp
 replace f_v0 := f_v0.stp s.stp
 obtain ⟨B,j,d⟩ := s.s B C j q ⟨fun _ h => h, ⟨fun _ h => h, ⟨fun _ h => h, N⟩⟩⟩
 replace q := s.left y [(4, ⟨u9, S65, trR (geB w0.heap.size) (oPt 79 (oBx (oSl 82 (oRd E_impl_Test)))) ([] : List T_impl_Test) []⟩), (1, ⟨u1, S2, trR (geB w0.heap.size) (oPt 29 (oBx (oSl 79 (oBx (oSl 82 (oRd E_impl_Test)))))) ([] : List T_impl_Rule) []⟩), (2, ⟨u4, S60, trR (geB w0.heap.size) (oPt 29 (oBx (oSl 79 (oBx (oSl 82 (oRd E_impl_Test)))))) (y19 ++ [s33]) []⟩)] ⟨Z, Z, z62, eS_u9, Z, ⟨Z, Z, z63, eS_u1, Z, ⟨Z, Z, z64, eS_u4, Z, N⟩⟩⟩
 obtain ⟨e66, c⟩ := ck_some c
 refine HT.u d j (eI y18 :: eI (y18 + 1) :: eI (y18 + 1) :: []) ?_ ?_
 exact om h7 <| op (fun Q U W H D=> of_add (D.g 0 Z) Z e66) <| oa <| oz
 intro R w m n p d j
 obtain ⟨h0, h2, h4, h5, h6⟩ := k5 n h0 h2 h4 h5 h6
 have h7 := p.r 2 Z
 replace f_u14 := f_u14.fr m
 replace f_v0 := f_v0.fr m
 replace q := q.fr m
 replace q : IniOK [⟨u1, S2, trR (geB w0.heap.size) (oPt 29 (oBx (oSl 79 (oBx (oSl 82 (oRd E_impl_Test)))))) ([] : List T_impl_Rule) []⟩, ⟨u4, S60, trR (geB w0.heap.size) (oPt 29 (oBx (oSl 79 (oBx (oSl 82 (oRd E_impl_Test)))))) (y19 ++ [s33]) []⟩, ⟨u9, S65, trR (geB w0.heap.size) (oPt 79 (oBx (oSl 82 (oRd E_impl_Test)))) ([] : List T_impl_Test) []⟩] A w := q.sub [(1, ⟨u1, S2, trR (geB w0.heap.size) (oPt 29 (oBx (oSl 79 (oBx (oSl 82 (oRd E_impl_Test)))))) ([] : List T_impl_Rule) []⟩), (2, ⟨u4, S60, trR (geB w0.heap.size) (oPt 29 (oBx (oSl 79 (oBx (oSl 82 (oRd E_impl_Test)))))) (y19 ++ [s33]) []⟩), (0, ⟨u9, S65, trR (geB w0.heap.size) (oPt 79 (oBx (oSl 82 (oRd E_impl_Test)))) ([] : List T_impl_Test) []⟩)] ⟨Z, Z, ⟨Z, Z, ⟨Z, Z, N⟩⟩⟩
 exact ei k (And.intro (Nat.lt_succ_self k) ⟨_, _, _, _, S60, S65, c, d, j, B, q, h0, h2, h4, h5, h6, h7, f_u14, f_v0⟩)
 have c := cnd_f c23 c
 refine HT.exit ?_
 obtain rfl := si c
 replace q : IniOK [⟨u1, S2, trR (geB w0.heap.size) (oPt 29 (oBx (oSl 79 (oBx (oSl 82 (oRd E_impl_Test)))))) ([] : List T_impl_Rule) []⟩, ⟨u4, Sl_u4, trR (geB w0.heap.size) (oPt 29 (oBx (oSl 79 (oBx (oSl 82 (oRd E_impl_Test)))))) y19 []⟩] A w := q.sub [(0, ⟨u1, S2, trR (geB w0.heap.size) (oPt 29 (oBx (oSl 79 (oBx (oSl 82 (oRd E_impl_Test)))))) ([] : List T_impl_Rule) []⟩), (1, ⟨u4, Sl_u4, trR (geB w0.heap.size) (oPt 29 (oBx (oSl 79 (oBx (oSl 82 (oRd E_impl_Test)))))) y19 []⟩)] ⟨Z, Z, ⟨Z, Z, N⟩⟩
 exact ei _ ⟨_, Sl_u4, Z, d, j, B, q, h0, h2, h4, f_v0⟩
 rintro R w ⟨A, s17, So_u4, es, d, j, B, q, h0, h2, h4, f_v0⟩
 obtain rfl := es.symm
 refine HT.seq ?_
 refine HT.seq ?_
 obtain ⟨h67, l_h67, p_h67⟩ := ((tr_root (q.own 1 _ Z).2).ptr).open
 replace q : IniOK [⟨u1, S2, trR (geB w0.heap.size) (oPt 29 (oBx (oSl 79 (oBx (oSl 82 (oRd E_impl_Test)))))) ([] : List T_impl_Rule) []⟩, ⟨u4, So_u4, trR (geB w0.heap.size) (oPt 29 (oBx (oSl 79 (oBx (oSl 82 (oRd E_impl_Test)))))) s17 [(u4, h67)]⟩] A w := q.repin 1 Z (trP.pin p_h67)
 obtain ⟨x69, q70, c⟩ := cl_some c
 obtain ⟨x71, q72, c⟩ := bd_some c
 refine HT.u d j (eR v0 :: eB (p0 == ([] : List UInt8)) :: eB (p0 == ([] : List UInt8)) :: gR (true && ((p0 == ([] : List UInt8)) == false)) (Enc.val E_impl_RuleSet h67) :: gF (true && ((p0 == ([] : List UInt8)) == false)) (.rep eStr A x69) :: gR (true && ((p0 == ([] : List UInt8)) == false)) v0 :: gB (true && ((p0 == ([] : List UInt8)) == false)) (!(x69 == p0)) :: eB x71 :: []) ?_ ?_
 exact om h0 <| op (fun Q U W H D=> of_seql ((f_v0.fr W).eq (D.g 0 Z)) ⟨_, Z, ⟨_, Z, Z, by decide⟩⟩) <| ov <| og 2 false (fun G Q U W H D=> of_load_pinS (F := oBx (oSl 79 (oBx (oSl 82 (oRd E_impl_Test))))) (((q.fr W).own 1 _ Z).2.2 _ (.head _)) l_h67 ((H 4 Z).trans h4) Try.isAgg29 Try.sizeOf29) <| og 2 false (fun G Q U W H D=> by have ra0 : Rep E_impl_RuleSet A0 U (Q 62) _ := (vh_rep (((tr_root ((q.fr W).own 1 _ Z).2).ptr).pinS (((q.fr W).own 1 _ Z).2.2 _ (.head _)) l_h67) B (fun k o hk ha=> Nat.not_lt.2 (((q.fr W).own 1 _ Z).1 k hk) (C k o ha))).eq (D.h 0 G Z); exact of_call Try.call141 (calls_flat (fun _ _ _ _ _ h=> h) (M_spec_FormatRules_ok (q70 G) (hA00.fr ((Nat.le_trans j.size W.size))) ra0))) <| gm 2 false h0 <| og 2 false (fun G Q U W H D=> of_sneq (D.h 0 G Z) ((f_v0.fr W).eq (D.h 1 G Z))) <| op (fun Q U W H D=> of_pick (p0 == ([] : List UInt8)) (D.g 0 Z) (fun hc=> by show _ = Value.bool x71; rw [q72, hc]; exact Z) (fun hc=> by have a2 : Q 65 = .bool (!(x69 == p0)) := D 1 _ _ _ Z Z Z Z (g_and Z (beq_of hc)); show _ = Value.bool x71; rw [q72, hc]; exact a2)) <| oz
 intro R w m n p d j
 obtain ⟨h2, h4⟩ := k2 n h2 h4
 have h66 := p.r 7 Z
 replace q := q.fr m
 replace q : IniOK [⟨u1, S2, trR (geB w0.heap.size) (oPt 29 (oBx (oSl 79 (oBx (oSl 82 (oRd E_impl_Test)))))) ([] : List T_impl_Rule) []⟩, ⟨u4, So_u4, trR (geB w0.heap.size) (oPt 29 (oBx (oSl 79 (oBx (oSl 82 (oRd E_impl_Test)))))) s17 []⟩] A w := q.repin 1 Z trP.nopin
 refine HT.cond x71 h66 (fun c73 => ?_) (fun c73 => ?_)
 have c := cnd_t c73 c
 refine HT.sx [⟨u1, S2, trR (geB w0.heap.size) (oPt 29 (oBx (oSl 79 (oBx (oSl 82 (oRd E_impl_Test)))))) ([] : List T_impl_Rule) []⟩, ⟨u4, So_u4, trR (geB w0.heap.size) (oPt 29 (oBx (oSl 79 (oBx (oSl 82 (oRd E_impl_Test)))))) s17 []⟩] (⟨_, true, [], some (trR (geB w0.heap.size) (oBx (oSl 79 (oBx (oSl 82 (oRd E_impl_Test))))) ([] : List T_impl_Rule) []), true, fun A => .any⟩ :: ⟨_, true, [0, 2], some (trR (geB w0.heap.size) (oPt 29 (oBx (oSl 79 (oBx (oSl 82 (oRd E_impl_Test)))))) ([] : List T_impl_Rule) []), false, fun A => .any⟩ :: rB false :: []) (ua (ua (ur (UAll.nil)))) q d ?_ ?_
 exact rc (OblR.madeS _ Z Z Z Z fun V Q U O D=> by exact made_valT (v := .agg #[.slice none 0 0]) (by simp [execOp, Instr.build, evalR, underlying, Try.underlying29, Try.zeroValue29, Try.sizeOf27, go_sem, Instr.fill]) ⟨⟨_, Z, own_nil⟩, fun q hq=> by cases hq⟩ (fun k hk=> Nat.le_trans (Nat.le_trans j.size O.ch.size) hk)) <| rc (OblR.tookM 0 [2] _ Z Z Z Z fun V Q U O D ρ σ X Y J L M hdd=> by have a0 : Q 2 = u1 := (O.old 2 Z).trans h2; have k1 := X 0 (.head _) _ Z; have e0 := (J 0 (.head _) _ Z).1; rw [e0] at k1 ⊢; exact took_put2 Z (tr_root k1.2.2).ptr (X 2 (.tail _ (.head _)) _ Z).2.2.1 (L 2 (.tail _ (.head _)) _ _ Z Z Z Z).symm a0 Y hdd k1.2.1 (X 2 (.tail _ (.head _)) _ Z).2.1 Try.sizeOf29 (fun _ _ _ h=> h)) <| rp (fun V Q U O D=> of_assign Z) <| rz
 intro done ρ σ A R w y s
 replace h2 := k1 s.rg h2
 have z74 := s.inivR 0 Z
 have z75 := s.on y 3 1 Z Z Z Z Z z74
 have z76 := s.inivR 1 Z
 obtain ⟨S77, eS_u1⟩ : ∃ S, σ 3 = S := ⟨_, Z⟩
 have eS_u4 := s.inisR 1 Z
 have h3 := s.r y 2 Z
 obtain ⟨B,j,d⟩ := s.s B C j q ⟨fun _ h => h, ⟨fun _ h => h, N⟩⟩
 replace q := s.left y [(3, ⟨u1, S77, trR (geB w0.heap.size) (oPt 29 (oBx (oSl 79 (oBx (oSl 82 (oRd E_impl_Test)))))) ([] : List T_impl_Rule) []⟩)] ⟨Z, Z, z75, eS_u1, Z, N⟩
 refine HT.ret ?_
 obtain rfl := si c
 obtain ⟨v_2, S_2, e_2, q⟩ := q.unbox 0 Z h2 Try.isAgg29 Try.sizeOf29
 obtain ⟨A1, hA1, hG1⟩ := GPost.of q d B (fun k hk => .inl (q.ge (⟨fun _ h => h, N⟩) k hk)) (j.ch (fun _ => False))
 exact ⟨.inr Z, [v_2, R 3], ⟨e_2, ⟨Z, N⟩⟩, v_2, S_2, A1, hG1, ⟨_, _, Z, Z, h3⟩⟩
 have c := cnd_f c73 c
 refine HT.skip ?_
 refine HT.sx [⟨u1, S2, trR (geB w0.heap.size) (oPt 29 (oBx (oSl 79 (oBx (oSl 82 (oRd E_impl_Test)))))) ([] : List T_impl_Rule) []⟩, ⟨u4, So_u4, trR (geB w0.heap.size) (oPt 29 (oBx (oSl 79 (oBx (oSl 82 (oRd E_impl_Test)))))) s17 []⟩] (⟨_, true, [1], some (trR (geB w0.heap.size) (oBx (oSl 79 (oBx (oSl 82 (oRd E_impl_Test))))) s17 []), true, fun A => .any⟩ :: ⟨_, true, [0, 2], some (trR (geB w0.heap.size) (oPt 29 (oBx (oSl 79 (oBx (oSl 82 (oRd E_impl_Test)))))) s17 []), false, fun A => .any⟩ :: rB true :: []) (ua (ua (ur (UAll.nil)))) q d ?_ ?_
 exact rc (OblR.tookS 1 _ _ Z Z Z Z Z fun V Q U O D u S X I Y J L M=> by have a0 : Q 4 = u4 := (O.old 4 Z).trans h4; exact took_loadT I.2 (a0.trans (J _ Z).1.symm) Y I.1 Try.isAgg29 Try.sizeOf29) <| rc (OblR.tookM 0 [2] _ Z Z Z Z fun V Q U O D ρ σ X Y J L M hdd=> by have a0 : Q 2 = u1 := (O.old 2 Z).trans h2; have k1 := X 0 (.head _) _ Z; have e0 := (J 0 (.head _) _ Z).1; rw [e0] at k1 ⊢; exact took_put2 Z (tr_root k1.2.2).ptr (X 2 (.tail _ (.head _)) _ Z).2.2.1 (L 2 (.tail _ (.head _)) _ _ Z Z Z Z).symm a0 Y hdd k1.2.1 (X 2 (.tail _ (.head _)) _ Z).2.1 Try.sizeOf29 (fun _ _ _ h=> h)) <| rp (fun V Q U O D=> of_assign Z) <| rz
 intro done ρ σ A R w y s
 replace h2 := k1 s.rg h2
 have z78 := s.inivR 0 Z
 have z79 := s.on y 3 1 Z Z Z Z Z z78
 obtain ⟨S80, eS_u1⟩ : ∃ S, σ 3 = S := ⟨_, Z⟩
 have h3 := s.r y 2 Z
 obtain ⟨B,j,d⟩ := s.s B C j q ⟨fun _ h => h, ⟨fun _ h => h, N⟩⟩
 replace q := s.left y [(3, ⟨u1, S80, trR (geB w0.heap.size) (oPt 29 (oBx (oSl 79 (oBx (oSl 82 (oRd E_impl_Test)))))) s17 []⟩)] ⟨Z, Z, z79, eS_u1, Z, N⟩
 refine HT.ret ?_
 obtain rfl := si c
 obtain ⟨v_2, S_2, e_2, q⟩ := q.unbox 0 Z h2 Try.isAgg29 Try.sizeOf29
 obtain ⟨A1, hA1, hG1⟩ := GPost.of q d B (fun k hk => .inl (q.ge (⟨fun _ h => h, N⟩) k hk)) (j.ch (fun _ => False))
 exact ⟨.inr Z, [v_2, R 3], ⟨e_2, ⟨Z, N⟩⟩, v_2, S_2, A1, hG1, ⟨_, _, Z, Z, h3⟩⟩
def M_spec_l14Known (fu : Nat) (p0 : T_spec_l1Cur) : Option (T_impl_RuleSet × T_spec_l1Cur) :=
 cl true (M_spec_l1Pick fu p0 ([([110, 97, 109, 101, 62, 61, 56, 48, 48, 44, 112, 104, 111, 110, 101, 62, 61, 56, 48, 48] : List UInt8), ([110, 97, 109, 101, 62, 61, 57, 48, 48, 32, 111, 114, 32, 116, 111, 107, 101, 110, 115, 62, 61, 53, 48, 48, 44, 112, 104, 111, 110, 101, 62, 61, 52, 48, 48] : List UInt8), ([115, 111, 117, 110, 100, 62, 61, 53, 48, 48, 44, 121, 101, 97, 114, 62, 61, 55, 48, 48, 32, 111, 114, 32, 112, 104, 111, 110, 101, 62, 61, 49, 48, 48, 48] : List UInt8), ([110, 97, 109, 101, 62, 61, 55, 48, 48, 44, 121, 101, 97, 114, 60, 53, 48, 48] : List UInt8), ([116, 111, 107, 101, 110, 115, 62, 61, 49, 48, 48, 48, 32, 111, 114, 32, 110, 97, 109, 101, 62, 61, 56, 48, 48, 44, 99, 105, 116, 121, 62, 61, 53, 48, 48, 44, 121, 101, 97, 114, 62, 61, 56, 48, 48, 32, 111, 114, 32, 112, 104, 111, 110, 101, 62, 61, 49, 48, 48, 48] : List UInt8), ([112, 104, 111, 110, 101, 60, 53, 48, 48, 32, 111, 114, 32, 112, 104, 111, 110, 101, 62, 61, 53, 48, 48] : List UInt8), ([110, 97, 109, 101, 62, 61, 54, 48, 48] : List UInt8)] : List (List UInt8))) fun x7 =>
 cl true (M_spec_ParseRules fu x7.1) fun x10 =>
 some (x10.1, x7.2)
theorem M_spec_l14Known_ok {fu : Nat} {Aq : Av} {p0 : T_spec_l1Cur} {r : T_impl_RuleSet × T_spec_l1Cur} (c : M_spec_l14Known fu p0 = some r) {w : World} {v0 : Value} {b0 B0 : Nat} (d : AvOK Aq w) (h0 : v0 = .pointer (some ⟨b0, 0, none⟩)) (hO0 : IniOK [ob (.pointer (some ⟨b0, 0, none⟩)) (.box B0 110 E_spec_l1Cur p0)] Aq w) :
 Calls Try.prog 102 #[v0] w fun e w' => ∃ v, e = .returned v ∧ (∃ (u0 : Value) (S0 : Nat → Prop) (A1 : Av), GPost (subS Aq (ownsB (.pointer (some ⟨b0, 0, none⟩)))) (ownsB (.pointer (some ⟨b0, 0, none⟩))) w [ob (.pointer (some ⟨b0, 0, none⟩)) (.box B0 110 E_spec_l1Cur r.2), ⟨u0, S0, trR (geB w.heap.size) (oBx (oSl 79 (oBx (oSl 82 (oRd E_impl_Test))))) r.1 []⟩] A1 w' ∧ (Fact.raw u0).ok v w') := by
 unfold M_spec_l14Known at c
 obtain ⟨w0, hw0⟩ : ∃ w0, w0 = w := ⟨_, Z⟩
 have j : Ch (ownsB (.pointer (some ⟨b0, 0, none⟩))) w0 w := hw0 ▸ Ch.refl _ _
 obtain ⟨A0, hA0e⟩ : ∃ A0, A0 = subS Aq (ownsB (.pointer (some ⟨b0, 0, none⟩))) := ⟨_, Z⟩
 have C : ∀ b o, A0 b o → b < w0.heap.size := fun b o h => hw0 ▸ d b o (hA0e ▸ h : subS Aq _ b o).1
 have K : ∀ b o, A0 b o → ¬ (ownsB (.pointer (some ⟨b0, 0, none⟩))) b := fun b o h => (hA0e ▸ h : subS Aq _ b o).2
 have hA00 : AvOK A0 w0 := C
 rw [show GPost (subS Aq (ownsB (.pointer (some ⟨b0, 0, none⟩)))) (ownsB (.pointer (some ⟨b0, 0, none⟩))) w = GPost A0 (ownsB (.pointer (some ⟨b0, 0, none⟩))) w0 from by rw [hA0e, hw0]]
 rw [show w.heap.size = w0.heap.size from by rw [hw0]]
 obtain ⟨A, hAe⟩ : ∃ A, A = Aq := ⟨_, Z⟩
 have B : ∀ b o, A0 b o → A b o := fun b o h => hAe ▸ (hA0e ▸ h : subS Aq _ b o).1
 replace d : AvOK A w := hAe ▸ d
 have q : IniOK [ob (.pointer (some ⟨b0, 0, none⟩)) (.box B0 110 E_spec_l1Cur p0)] A w := hAe ▸ hO0
 clear hA0e hO0
 refine calls_of_HT2 [.cell 2 29] Try.func102 Try.ntmps102 (by decide) Z Z (nb Z) ?_
 intro R hR
 replace h0 : R 0 = .pointer (some ⟨b0, 0, none⟩) := (hR 0 _ Z).trans h0
 refine HT.sx [ob (.pointer (some ⟨b0, 0, none⟩)) (.box B0 110 E_spec_l1Cur p0)] (⟨_, true, [], some (trR (geB w0.heap.size) (oPt 29 (oBx (oSl 79 (oBx (oSl 82 (oRd E_impl_Test)))))) ([] : List T_impl_Rule) []), true, fun A => .any⟩ :: []) (ua (UAll.nil)) q d ?_ ?_
 exact rc (OblR.madeS _ Z Z Z Z fun V Q U O D=> by exact made_allocT Try.zeroValue29 (fun A w=> own_nil) (fun k hk=> Nat.le_trans (Nat.le_trans j.size O.ch.size) hk)) <| rz
 intro done ρ σ A R w y s
 replace h0 := k1 s.rg h0
 have z1 := s.inivR 0 Z
 obtain ⟨u2, e_u2⟩ : ∃ u, ρ 1 = u := ⟨_, Z⟩
 have h2 := s.ov y 1 0 e_u2
 obtain ⟨S3, eS_u2⟩ : ∃ S, σ 1 = S := ⟨_, Z⟩
 replace B := s.lowK B C K (q.geK (⟨.inr (fun k h => .inr h), N⟩))
 replace j : Ch (ownsB (.pointer (some ⟨b0, 0, none⟩))) w0 w := j.tr s.ch (q.geK (⟨.inr (fun k h => .inr h), N⟩))
 replace q := s.left y [(0, ob (.pointer (some ⟨b0, 0, none⟩)) (.box B0 110 E_spec_l1Cur p0)), (1, ⟨u2, S3, trR (geB w0.heap.size) (oPt 29 (oBx (oSl 79 (oBx (oSl 82 (oRd E_impl_Test)))))) ([] : List T_impl_Rule) []⟩)] ⟨Z, Z, z1, Z, Z, ⟨Z, Z, e_u2, eS_u2, Z, N⟩⟩
 replace d := s.avok
 refine HT.seq ?_
 refine SG.of ?_
 refine SG.textR [ob (.pointer (some ⟨b0, 0, none⟩)) (.box B0 110 E_spec_l1Cur p0), ⟨u2, S3, trR (geB w0.heap.size) (oPt 29 (oBx (oSl 79 (oBx (oSl 82 (oRd E_impl_Test)))))) ([] : List T_impl_Rule) []⟩] (rR (.pointer (some ⟨b0, 0, none⟩)) :: (rF fun A => .rep (eSl eStr) A ([([110, 97, 109, 101, 62, 61, 56, 48, 48, 44, 112, 104, 111, 110, 101, 62, 61, 56, 48, 48] : List UInt8), ([110, 97, 109, 101, 62, 61, 57, 48, 48, 32, 111, 114, 32, 116, 111, 107, 101, 110, 115, 62, 61, 53, 48, 48, 44, 112, 104, 111, 110, 101, 62, 61, 52, 48, 48] : List UInt8), ([115, 111, 117, 110, 100, 62, 61, 53, 48, 48, 44, 121, 101, 97, 114, 62, 61, 55, 48, 48, 32, 111, 114, 32, 112, 104, 111, 110, 101, 62, 61, 49, 48, 48, 48] : List UInt8), ([110, 97, 109, 101, 62, 61, 55, 48, 48, 44, 121, 101, 97, 114, 60, 53, 48, 48] : List UInt8), ([116, 111, 107, 101, 110, 115, 62, 61, 49, 48, 48, 48, 32, 111, 114, 32, 110, 97, 109, 101, 62, 61, 56, 48, 48, 44, 99, 105, 116, 121, 62, 61, 53, 48, 48, 44, 121, 101, 97, 114, 62, 61, 56, 48, 48, 32, 111, 114, 32, 112, 104, 111, 110, 101, 62, 61, 49, 48, 48, 48] : List UInt8), ([112, 104, 111, 110, 101, 60, 53, 48, 48, 32, 111, 114, 32, 112, 104, 111, 110, 101, 62, 61, 53, 48, 48] : List UInt8), ([110, 97, 109, 101, 62, 61, 54, 48, 48] : List UInt8)] : List (List UInt8))) :: []) 2 Z Z Z (by kernel_rfl) (by kernel_rfl) (Wf.mk' (by kernel_rfl) (ur (up (UAll.nil))) (by kernel_rfl) (by kernel_rfl)) q d (N) ?_ ?_
 exact rm h0 <| rp (fun V Q U O D=> of_build [_, _, _, _, _, _, _] (E := eStr) ⟨⟨_, Z, ⟨_, Z, Z, by decide⟩⟩, ⟨⟨_, Z, ⟨_, Z, Z, by decide⟩⟩, ⟨⟨_, Z, ⟨_, Z, Z, by decide⟩⟩, ⟨⟨_, Z, ⟨_, Z, Z, by decide⟩⟩, ⟨⟨_, Z, ⟨_, Z, Z, by decide⟩⟩, ⟨⟨_, Z, ⟨_, Z, Z, by decide⟩⟩, ⟨⟨_, Z, ⟨_, Z, Z, by decide⟩⟩, N⟩⟩⟩⟩⟩⟩⟩ Try.underlying154 Try.sizeOf9 Try.zeroValue9 Z Z Z O.av) <| rz
 intro done ρ σ A R w y s
 replace h2 := k1 s.rg h2
 have z4 := s.inivR 0 Z
 have z5 := s.inivR 1 Z
 have eS_u2 := s.inisR 1 Z
 have h6 := s.r y 0 Z
 obtain ⟨u6, h7, f_u6⟩ : ∃ u, R 7 = u ∧ Rep (eSl eStr) A w u ([([110, 97, 109, 101, 62, 61, 56, 48, 48, 44, 112, 104, 111, 110, 101, 62, 61, 56, 48, 48] : List UInt8), ([110, 97, 109, 101, 62, 61, 57, 48, 48, 32, 111, 114, 32, 116, 111, 107, 101, 110, 115, 62, 61, 53, 48, 48, 44, 112, 104, 111, 110, 101, 62, 61, 52, 48, 48] : List UInt8), ([115, 111, 117, 110, 100, 62, 61, 53, 48, 48, 44, 121, 101, 97, 114, 62, 61, 55, 48, 48, 32, 111, 114, 32, 112, 104, 111, 110, 101, 62, 61, 49, 48, 48, 48] : List UInt8), ([110, 97, 109, 101, 62, 61, 55, 48, 48, 44, 121, 101, 97, 114, 60, 53, 48, 48] : List UInt8), ([116, 111, 107, 101, 110, 115, 62, 61, 49, 48, 48, 48, 32, 111, 114, 32, 110, 97, 109, 101, 62, 61, 56, 48, 48, 44, 99, 105, 116, 121, 62, 61, 53, 48, 48, 44, 121, 101, 97, 114, 62, 61, 56, 48, 48, 32, 111, 114, 32, 112, 104, 111, 110, 101, 62, 61, 49, 48, 48, 48] : List UInt8), ([112, 104, 111, 110, 101, 60, 53, 48, 48, 32, 111, 114, 32, 112, 104, 111, 110, 101, 62, 61, 53, 48, 48] : List UInt8), ([110, 97, 109, 101, 62, 61, 54, 48, 48] : List UInt8)] : List (List UInt8)) := ⟨_, Z, s.fact y (i := 1) Z Z Z⟩
 replace B := s.lowK B C K (q.geK (⟨.inr (fun k h => .inr h), ⟨fun _ h => .inl h, N⟩⟩))
 replace j : Ch (ownsB (.pointer (some ⟨b0, 0, none⟩))) w0 w := j.tr s.ch (q.geK (⟨.inr (fun k h => .inr h), ⟨fun _ h => .inl h, N⟩⟩))
 replace q := s.left y [(0, ob (.pointer (some ⟨b0, 0, none⟩)) (.box B0 110 E_spec_l1Cur p0)), (1, ⟨u2, S3, trR (geB w0.heap.size) (oPt 29 (oBx (oSl 79 (oBx (oSl 82 (oRd E_impl_Test)))))) ([] : List T_impl_Rule) []⟩)] ⟨Z, Z, z4, Z, Z, ⟨Z, Z, z5, eS_u2, Z, N⟩⟩
 replace d := s.avok
 obtain ⟨x7, q8, c⟩ := cl_some c
 have hFz : w0.heap.size ≤ w.heap.size := j.size
 refine SG.op 8 Z Z Z Z (call_run Try.call130 (M_spec_l1Pick_ok (q8 Z) d h6 (q.sub [(0, ob (.pointer (some ⟨b0, 0, none⟩)) (.box B0 110 E_spec_l1Cur p0))] ⟨Z, Z, N⟩) (f_u6.eq h7))) ?_
 rintro v_ w ⟨A, hG1, hv⟩ R n hd
 have hst := stp_call d hG1 (q.ok 0 _ Z).2
 replace B : ∀ b o, A0 b o → A b o := low_callK B C K (q.geK (⟨.inr (fun k h => .inr h), ⟨fun _ h => .inl h, N⟩⟩)) 0 Z hG1
 replace j : Ch (ownsB (.pointer (some ⟨b0, 0, none⟩))) w0 w := j.tr hG1.ch (fun k hk => (q.geK (⟨.inr (fun k h => .inr h), ⟨fun _ h => .inl h, N⟩⟩)) k ⟨0, _, Z, hk⟩)
 replace q := GPost.next q d 0 Z hG1
 replace d := hG1.avok
 replace q : IniOK [ob (.pointer (some ⟨b0, 0, none⟩)) (.box B0 110 E_spec_l1Cur x7.2), ⟨u2, S3, trR (geB w0.heap.size) (oPt 29 (oBx (oSl 79 (oBx (oSl 82 (oRd E_impl_Test)))))) ([] : List T_impl_Rule) []⟩] A w := q
 replace h2 := (n 2 Z).trans h2
 replace h6 := (n 6 Z).trans h6
 replace h7 := (n 7 Z).trans h7
 replace f_u6 := f_u6.stp hst
 obtain ⟨u9, h8, f_u9⟩ : ∃ u, R 8 = u ∧ Rep eStr A w u x7.1 := ⟨_, Z, hd ▸ hv⟩
 clear hFz hG1 hv n hd
 obtain ⟨x10, q11, c⟩ := cl_some c
 have hFz : w0.heap.size ≤ w.heap.size := j.size
 refine SG.op 9 Z Z Z Z (call_run Try.call129 (M_spec_ParseRules_ok (q11 Z) d (f_u9.eq h8))) ?_
 rintro v_ w ⟨u12, S13, A, hG1, hv⟩ R n hd
 obtain ⟨hO2, hst⟩ := GPost.next0 q d hG1
 replace q := hO2
 replace d := hG1.avok
 replace B : ∀ b o, A0 b o → A b o := fun b o h => hG1.low b o (B b o h)
 replace j : Ch (ownsB (.pointer (some ⟨b0, 0, none⟩))) w0 w := j.tr hG1.ch fun _ h => False.elim h
 replace q := q.reK (K' := geB w0.heap.size) 0 Z (fun k hk => Nat.le_trans hFz hk)
 replace q : IniOK [⟨u12, S13, trR (geB w0.heap.size) (oBx (oSl 79 (oBx (oSl 82 (oRd E_impl_Test))))) x10.1 []⟩, ob (.pointer (some ⟨b0, 0, none⟩)) (.box B0 110 E_spec_l1Cur x7.2), ⟨u2, S3, trR (geB w0.heap.size) (oPt 29 (oBx (oSl 79 (oBx (oSl 82 (oRd E_impl_Test)))))) ([] : List T_impl_Rule) []⟩] A w := q
 replace h2 := (n 2 Z).trans h2
 replace h8 := (n 8 Z).trans h8
 replace f_u9 := f_u9.stp hst
 have h9 : Fact.ok (.tup2 (.raw u12) (.raw (.bool x10.2))) (R 9) w := hd ▸ hv
 clear hFz hG1 hv n hd
 refine SG.textR [⟨u12, S13, trR (geB w0.heap.size) (oBx (oSl 79 (oBx (oSl 82 (oRd E_impl_Test))))) x10.1 []⟩, ob (.pointer (some ⟨b0, 0, none⟩)) (.box B0 110 E_spec_l1Cur x7.2), ⟨u2, S3, trR (geB w0.heap.size) (oPt 29 (oBx (oSl 79 (oBx (oSl 82 (oRd E_impl_Test)))))) ([] : List T_impl_Rule) []⟩] (rA :: rA :: rR u9 :: (rF fun A => .tup2 (.raw u12) (.raw (.bool x10.2))) :: (rF fun A => .tup2 (.raw u12) (.raw (.bool x10.2))) :: rR u12 :: rB x10.2 :: ⟨_, true, [], some (trR (geB w0.heap.size) (oPt 29 (oBx (oSl 79 (oBx (oSl 82 (oRd E_impl_Test)))))) ([] : List T_impl_Rule) []), true, fun A => .any⟩ :: ⟨_, true, [10, 0], some (trR (geB w0.heap.size) (oPt 29 (oBx (oSl 79 (oBx (oSl 82 (oRd E_impl_Test)))))) x10.1 []), false, fun A => .any⟩ :: rB x10.2 :: []) 10 Z Z Z (by kernel_rfl) (by kernel_rfl) (Wf.mk' (by kernel_rfl) (ua (ua (ur (UAll.cons (ust_tup2 ust_raw ust_raw) (UAll.cons (ust_tup2 ust_raw ust_raw) (ur (ur (ua (ua (ur (UAll.nil))))))))))) (by kernel_rfl) (by kernel_rfl)) q d (⟨⟨Z, Z, Z, N⟩, ⟨⟨Z, Z, Z, N⟩, ⟨⟨Z, Z, Z, h8⟩, ⟨⟨Z, Z, Z, h9⟩, N⟩⟩⟩⟩) ?_ ?_
 exact rp (fun V Q U O D=> of_move (D.g 0 Z)) <| rp (fun V Q U O D=> of_extract2_0 (D.g 0 Z)) <| rp (fun V Q U O D=> of_extract2_1 (D.g 0 Z)) <| rc (OblR.madeS _ Z Z Z Z fun V Q U O D=> by exact made_allocT Try.zeroValue29 (fun A w=> own_nil) (fun k hk=> Nat.le_trans (Nat.le_trans j.size O.ch.size) hk)) <| rc (OblR.tookM 10 [0] _ Z Z Z Z fun V Q U O D ρ σ X Y J L M hdd=> by have a1 : Q 10 = u12 := D.g 1 Z; have k1 := X 10 (.head _) _ Z; exact took_put2 Z (tr_root k1.2.2).ptr (X 0 (.tail _ (.head _)) _ Z).2.2.1 (a1.trans (J 0 (.tail _ (.head _)) _ Z).1.symm) (L 10 (.head _) _ _ Z Z Z Z).symm Y hdd k1.2.1 (X 0 (.tail _ (.head _)) _ Z).2.1 Try.sizeOf29 (fun _ _ _ h=> h)) <| ra <| rz
 intro done ρ σ A R w y s
 replace h2 := k1 s.rg h2
 have z14 := s.inivR 1 Z
 have z15 := s.inivR 2 Z
 obtain ⟨u16, e_u16⟩ : ∃ u, ρ 11 = u := ⟨_, Z⟩
 have z17 := (s.opnR y 11 8 Z Z Z Z Z).symm.trans e_u16
 have h3 := s.ov y 10 7 z17
 have eS_u2 := s.inisR 2 Z
 obtain ⟨S18, eS_u16⟩ : ∃ S, σ 11 = S := ⟨_, Z⟩
 replace B := s.lowK B C K (q.geK (⟨fun _ h => .inl h, ⟨.inr (fun k h => .inr h), ⟨fun _ h => .inl h, N⟩⟩⟩))
 replace j : Ch (ownsB (.pointer (some ⟨b0, 0, none⟩))) w0 w := j.tr s.ch (q.geK (⟨fun _ h => .inl h, ⟨.inr (fun k h => .inr h), ⟨fun _ h => .inl h, N⟩⟩⟩))
 replace q := s.left y [(1, ob (.pointer (some ⟨b0, 0, none⟩)) (.box B0 110 E_spec_l1Cur x7.2)), (2, ⟨u2, S3, trR (geB w0.heap.size) (oPt 29 (oBx (oSl 79 (oBx (oSl 82 (oRd E_impl_Test)))))) ([] : List T_impl_Rule) []⟩), (11, ⟨u16, S18, trR (geB w0.heap.size) (oPt 29 (oBx (oSl 79 (oBx (oSl 82 (oRd E_impl_Test)))))) x10.1 []⟩)] ⟨Z, Z, z14, Z, Z, ⟨Z, Z, z15, eS_u2, Z, ⟨Z, Z, e_u16, eS_u16, Z, N⟩⟩⟩
 replace d := s.avok
 refine SG.fin Z ?_
 refine HT.sx [ob (.pointer (some ⟨b0, 0, none⟩)) (.box B0 110 E_spec_l1Cur x7.2), ⟨u2, S3, trR (geB w0.heap.size) (oPt 29 (oBx (oSl 79 (oBx (oSl 82 (oRd E_impl_Test)))))) ([] : List T_impl_Rule) []⟩, ⟨u16, S18, trR (geB w0.heap.size) (oPt 29 (oBx (oSl 79 (oBx (oSl 82 (oRd E_impl_Test)))))) x10.1 []⟩] (⟨_, true, [2], some (trR (geB w0.heap.size) (oBx (oSl 79 (oBx (oSl 82 (oRd E_impl_Test))))) x10.1 []), true, fun A => .any⟩ :: ⟨_, true, [1, 3], some (trR (geB w0.heap.size) (oPt 29 (oBx (oSl 79 (oBx (oSl 82 (oRd E_impl_Test)))))) x10.1 []), false, fun A => .any⟩ :: []) (ua (ua (UAll.nil))) q d ?_ ?_
 exact rc (OblR.tookS 2 _ _ Z Z Z Z Z fun V Q U O D u S X I Y J L M=> by have a0 : Q 3 = u16 := (O.old 3 Z).trans h3; exact took_loadT I.2 (a0.trans (J _ Z).1.symm) Y I.1 Try.isAgg29 Try.sizeOf29) <| rc (OblR.tookM 1 [3] _ Z Z Z Z fun V Q U O D ρ σ X Y J L M hdd=> by have a0 : Q 2 = u2 := (O.old 2 Z).trans h2; have k1 := X 1 (.head _) _ Z; have e0 := (J 1 (.head _) _ Z).1; rw [e0] at k1 ⊢; exact took_put2 Z (tr_root k1.2.2).ptr (X 3 (.tail _ (.head _)) _ Z).2.2.1 (L 3 (.tail _ (.head _)) _ _ Z Z Z Z).symm a0 Y hdd k1.2.1 (X 3 (.tail _ (.head _)) _ Z).2.1 Try.sizeOf29 (fun _ _ _ h=> h)) <| rz
 intro done ρ σ A R w y s
 replace h2 := k1 s.rg h2
 have z19 := s.inivR 0 Z
 have z20 := s.inivR 1 Z
 have z21 := s.on y 4 1 Z Z Z Z Z z20
 obtain ⟨S22, eS_u2⟩ : ∃ S, σ 4 = S := ⟨_, Z⟩
 replace B := s.lowK B C K (q.geK (⟨.inr (fun k h => .inr h), ⟨fun _ h => .inl h, ⟨fun _ h => .inl h, N⟩⟩⟩))
 replace j : Ch (ownsB (.pointer (some ⟨b0, 0, none⟩))) w0 w := j.tr s.ch (q.geK (⟨.inr (fun k h => .inr h), ⟨fun _ h => .inl h, ⟨fun _ h => .inl h, N⟩⟩⟩))
 replace q := s.left y [(0, ob (.pointer (some ⟨b0, 0, none⟩)) (.box B0 110 E_spec_l1Cur x7.2)), (4, ⟨u2, S22, trR (geB w0.heap.size) (oPt 29 (oBx (oSl 79 (oBx (oSl 82 (oRd E_impl_Test)))))) x10.1 []⟩)] ⟨Z, Z, z19, Z, Z, ⟨Z, Z, z21, eS_u2, Z, N⟩⟩
 replace d := s.avok
 refine HT.ret ?_
 obtain rfl := si c
 obtain ⟨v_2, S_2, e_2, q⟩ := q.unbox 1 Z h2 Try.isAgg29 Try.sizeOf29
 obtain ⟨A1, hA1, hG1⟩ := GPost.of q d B (q.geK (⟨.inr (fun k h => .inr h), ⟨fun _ h => .inl h, N⟩⟩)) j
 exact ⟨.inr Z, [v_2], ⟨e_2, N⟩, v_2, S_2, A1, hG1, Z⟩
def M_spec_l1PickInt (fu : Nat) (p0 : T_spec_l1Cur) (p1 : List Int) : Option (Int × T_spec_l1Cur) :=
 cl true (M_spec_l1Below fu p0 (p1.length : Int)) fun x2 =>
 ck (inR x2.1 p1.length) <|
 some ((gtD p1 x2.1), x2.2)
theorem M_spec_l1PickInt_ok {fu : Nat} {Aq : Av} {p0 : T_spec_l1Cur} {p1 : List Int} {r : Int × T_spec_l1Cur} (c : M_spec_l1PickInt fu p0 p1 = some r) {w : World} {v0 : Value} {v1 : Value} {b0 B0 : Nat} (d : AvOK Aq w) (h0 : v0 = .pointer (some ⟨b0, 0, none⟩)) (hO0 : IniOK [ob (.pointer (some ⟨b0, 0, none⟩)) (.box B0 110 E_spec_l1Cur p0)] Aq w) (h1 : Rep (eSl (eInt .i64)) Aq w v1 p1) :
 Calls Try.prog 81 #[v0, v1] w fun e w' => ∃ v, e = .returned v ∧ (∃ (A1 : Av), GPost (subS Aq (ownsB (.pointer (some ⟨b0, 0, none⟩)))) (ownsB (.pointer (some ⟨b0, 0, none⟩))) w [ob (.pointer (some ⟨b0, 0, none⟩)) (.box B0 110 E_spec_l1Cur r.2)] A1 w' ∧ (Fact.raw (.int .i64 r.1)).ok v w') := by
 unfold M_spec_l1PickInt at c
 obtain ⟨w0, hw0⟩ : ∃ w0, w0 = w := ⟨_, Z⟩
 have j : Ch (ownsB (.pointer (some ⟨b0, 0, none⟩))) w0 w := hw0 ▸ Ch.refl _ _
 obtain ⟨A0, hA0e⟩ : ∃ A0, A0 = subS Aq (ownsB (.pointer (some ⟨b0, 0, none⟩))) := ⟨_, Z⟩
 have C : ∀ b o, A0 b o → b < w0.heap.size := fun b o h => hw0 ▸ d b o (hA0e ▸ h : subS Aq _ b o).1
 have K : ∀ b o, A0 b o → ¬ (ownsB (.pointer (some ⟨b0, 0, none⟩))) b := fun b o h => (hA0e ▸ h : subS Aq _ b o).2
 have hA00 : AvOK A0 w0 := C
 rw [show GPost (subS Aq (ownsB (.pointer (some ⟨b0, 0, none⟩)))) (ownsB (.pointer (some ⟨b0, 0, none⟩))) w = GPost A0 (ownsB (.pointer (some ⟨b0, 0, none⟩))) w0 from by rw [hA0e, hw0]]
 obtain ⟨A, hAe⟩ : ∃ A, A = Aq := ⟨_, Z⟩
 have B : ∀ b o, A0 b o → A b o := fun b o h => hAe ▸ (hA0e ▸ h : subS Aq _ b o).1
 replace d : AvOK A w := hAe ▸ d
 have q : IniOK [ob (.pointer (some ⟨b0, 0, none⟩)) (.box B0 110 E_spec_l1Cur p0)] A w := hAe ▸ hO0
 clear hA0e hO0
 refine calls_of_HT2 [.tmp 4] Try.func81 Try.ntmps81 (by decide) Z Z (nb Z) ?_
 intro R hR
 replace h0 : R 0 = .pointer (some ⟨b0, 0, none⟩) := (hR 0 _ Z).trans h0
 have f_v1 : Rep (eSl (eInt .i64)) A w v1 p1 := hAe ▸ h1
 replace h1 : R 1 = v1 := hR 1 _ Z
 refine HT.seq ?_
 refine HT.t (eI 0 :: []) ?_ ?_
 exact op (fun Q U W H D=> of_assign Z) <| oz
 intro R w m n p
 obtain ⟨h0, h1⟩ := k2 n h0 h1
 replace f_v1 := f_v1.fr m
 replace q := q.fr m
 replace d := d.fr m.size
 replace j := j.tr (m.ch noB) fun _ h => False.elim h
 refine HT.seq ?_
 refine SG.of ?_
 refine SG.textR [ob (.pointer (some ⟨b0, 0, none⟩)) (.box B0 110 E_spec_l1Cur p0)] (rR v1 :: rR (.pointer (some ⟨b0, 0, none⟩)) :: rR v1 :: rI (p1.length : Int) :: []) 4 Z Z Z (by kernel_rfl) (by kernel_rfl) (Wf.mk' (by kernel_rfl) (ur (ur (ur (ur (UAll.nil))))) (by kernel_rfl) (by kernel_rfl)) q d (N) ?_ ?_
 exact rm h1 <| rm h0 <| rm h1 <| rp (fun V Q U O D=> of_len_sl (aT := #[]) ((f_v1.stp O.stp).eq (D.g 0 Z)) Try.underlying33) <| rz
 intro done ρ σ A R w y s
 have z1 := s.inivR 0 Z
 have h5 := s.r y 0 Z
 have h6 := s.r y 1 Z
 have h8 := s.r y 3 Z
 replace f_v1 := f_v1.stp s.stp
 replace B := s.lowK B C K (q.geK (⟨.inr (fun k h => .inr h), N⟩))
 replace j : Ch (ownsB (.pointer (some ⟨b0, 0, none⟩))) w0 w := j.tr s.ch (q.geK (⟨.inr (fun k h => .inr h), N⟩))
 replace q := s.left y [(0, ob (.pointer (some ⟨b0, 0, none⟩)) (.box B0 110 E_spec_l1Cur p0))] ⟨Z, Z, z1, Z, Z, N⟩
 replace d := s.avok
 obtain ⟨x2, q3, c⟩ := cl_some c
 have hFz : w0.heap.size ≤ w.heap.size := j.size
 refine SG.op 9 Z Z Z Z (call_run Try.call55 (M_spec_l1Below_ok (q3 Z) d h6 (q.sub [(0, ob (.pointer (some ⟨b0, 0, none⟩)) (.box B0 110 E_spec_l1Cur p0))] ⟨Z, Z, N⟩) h8)) ?_
 rintro v_ w ⟨A, hG1, hv⟩ R n hd
 have hst := stp_call d hG1 (q.ok 0 _ Z).2
 replace B : ∀ b o, A0 b o → A b o := low_callK B C K (q.geK (⟨.inr (fun k h => .inr h), N⟩)) 0 Z hG1
 replace j : Ch (ownsB (.pointer (some ⟨b0, 0, none⟩))) w0 w := j.tr hG1.ch (fun k hk => (q.geK (⟨.inr (fun k h => .inr h), N⟩)) k ⟨0, _, Z, hk⟩)
 replace q := GPost.next q d 0 Z hG1
 replace d := hG1.avok
 replace q : IniOK [ob (.pointer (some ⟨b0, 0, none⟩)) (.box B0 110 E_spec_l1Cur x2.2)] A w := q
 replace h5 := (n 5 Z).trans h5
 replace h6 := (n 6 Z).trans h6
 replace h8 := (n 8 Z).trans h8
 replace f_v1 := f_v1.stp hst
 have h9 : R 9 = .int .i64 x2.1 := hd.trans hv
 clear hFz hG1 hv n hd
 obtain ⟨e4, c⟩ := ck_some c
 refine SG.textR [ob (.pointer (some ⟨b0, 0, none⟩)) (.box B0 110 E_spec_l1Cur x2.2)] (rR v1 :: rR (.pointer (some ⟨b0, 0, none⟩)) :: rA :: rI (p1.length : Int) :: rI x2.1 :: (rF fun A => .qtr (eInt .i64) A (gtD p1 x2.1)) :: rI (gtD p1 x2.1) :: rI (gtD p1 x2.1) :: []) 8 Z Z Z (by kernel_rfl) (by kernel_rfl) (Wf.mk' (by kernel_rfl) (ur (ur (ua (ur (ur (UAll.cons ust_qtr (ur (ur (UAll.nil))))))))) (by kernel_rfl) (by kernel_rfl)) q d (⟨⟨Z, Z, Z, h5⟩, ⟨⟨Z, Z, Z, h6⟩, ⟨⟨Z, Z, Z, N⟩, ⟨⟨Z, Z, Z, h8⟩, ⟨⟨Z, Z, Z, h9⟩, N⟩⟩⟩⟩⟩) ?_ ?_
 exact rp (fun V Q U O D=> of_indexAddr ((f_v1.stp O.stp).eq (D.g 0 Z)) (D.g 1 Z) Try.underlying33 Try.sizeOf3 e4) <| rp (fun V Q U O D=> OpF.int (of_load (QRep.ptr (D.g 0 Z)) Try.isAgg3 Try.sizeOf3)) <| ra <| rz
 intro done ρ σ A R w y s
 have z5 := s.inivR 0 Z
 have h4 := s.r y 7 Z
 replace B := s.lowK B C K (q.geK (⟨.inr (fun k h => .inr h), N⟩))
 replace j : Ch (ownsB (.pointer (some ⟨b0, 0, none⟩))) w0 w := j.tr s.ch (q.geK (⟨.inr (fun k h => .inr h), N⟩))
 replace q := s.left y [(0, ob (.pointer (some ⟨b0, 0, none⟩)) (.box B0 110 E_spec_l1Cur x2.2))] ⟨Z, Z, z5, Z, Z, N⟩
 replace d := s.avok
 refine SG.fin Z ?_
 refine HT.ret ?_
 obtain rfl := si c
 obtain ⟨A1, hA1, hG1⟩ := GPost.of q d B (q.geK (⟨.inr (fun k h => .inr h), N⟩)) j
 exact ⟨.inr Z, [R 4], ⟨Z, N⟩, A1, hG1, h4⟩
def M_spec_l14Rules_L1 (fu : Nat) : Nat → Int → T_spec_l1Cur → T_impl_Rule → Option (T_spec_l1Cur × T_impl_Rule)
 | 0, _, _, _ => none
 | k + 1, y49, y50, y51 =>
 bif (decide (y49 < 6)) then (
 bif (decide ((y51.length : Int) < 3)) then (
 cl true (M_spec_l1Once fu y50 3) fun x60 =>
 bd ((y49 == 5) && ((y51.length : Int) == 0)) fun x64 =>
 bd (x60.1 || x64) fun x66 =>
 bd ((decide ((y51.length : Int) < 3)) && x66) fun x68 =>
 bif x68 then (
 cl true (M_spec_l1PickInt fu x60.2 ([500, 700, 800, 1000] : List Int)) fun x77 =>
 cl true (M_spec_l1Once fu x77.2 6) fun x79 =>
 ck (lenOK (y51.length + ([(y49, x77.1, x79.1)] : List T_impl_Test).length)) <|
 ck (i64B (y49 + 1)) <|
 M_spec_l14Rules_L1 fu k (y49 + 1) x79.2 (y51 ++ ([(y49, x77.1, x79.1)] : List T_impl_Test))
 ) else (
 ck (i64B (y49 + 1)) <|
 M_spec_l14Rules_L1 fu k (y49 + 1) x60.2 y51
 )
 ) else (
 ck (i64B (y49 + 1)) <|
 M_spec_l14Rules_L1 fu k (y49 + 1) y50 y51
 )
 ) else (
 some (y50, y51)
 )
def M_spec_l14Rules_L0 (fu : Nat) : Nat → Int → T_spec_l1Cur → T_impl_RuleSet → Option (T_spec_l1Cur × T_impl_RuleSet)
 | 0, _, _, _ => none
 | k + 1, y36, y37, y38 =>
 bif (decide (0 < y36)) then (
 cl true (M_spec_l14Rules_L1 fu fu 0 y37 ([] : List T_impl_Test)) fun s48 =>
 ck (lenOK (y38.length + 1)) <|
 ck (i64B (y36 - 1)) <|
 M_spec_l14Rules_L0 fu k (y36 - 1) s48.1 (y38 ++ [s48.2])
 ) else (
 some (y37, y38)
 )
def M_spec_l14Rules (fu : Nat) (p0 : T_spec_l1Cur) : Option (T_impl_RuleSet × T_spec_l1Cur) :=
 cl true (M_spec_l1Once fu p0 2) fun x6 =>
 bif x6.1 then (
 cl true (M_spec_l14Known fu x6.2) fun x11 =>
 some (x11.1, x11.2)
 ) else (
 cl true (M_spec_l1Below fu x6.2 3) fun x27 =>
 ck (i64B (1 + x27.1)) <|
 cl true (M_spec_l14Rules_L0 fu fu (1 + x27.1) x27.2 ([] : List T_impl_Rule)) fun s35 =>
 some (s35.2, s35.1)
 )
set_option linter.unusedSimpArgs false in
theorem M_spec_l14Rules_ok {fu : Nat} {Aq : Av} {p0 : T_spec_l1Cur} {r : T_impl_RuleSet × T_spec_l1Cur} (c : M_spec_l14Rules fu p0 = some r) {w : World} {v0 : Value} {b0 B0 : Nat} (d : AvOK Aq w) (h0 : v0 = .pointer (some ⟨b0, 0, none⟩)) (hO0 : IniOK [ob (.pointer (some ⟨b0, 0, none⟩)) (.box B0 110 E_spec_l1Cur p0)] Aq w) :
 Calls Try.prog 80 #[v0] w fun e w' => ∃ v, e = .returned v ∧ (∃ (u0 : Value) (S0 : Nat → Prop) (A1 : Av), GPost (subS Aq (ownsB (.pointer (some ⟨b0, 0, none⟩)))) (ownsB (.pointer (some ⟨b0, 0, none⟩))) w [ob (.pointer (some ⟨b0, 0, none⟩)) (.box B0 110 E_spec_l1Cur r.2), ⟨u0, S0, trR (geB w.heap.size) (oBx (oSl 79 (oBx (oSl 82 (oRd E_impl_Test))))) r.1 []⟩] A1 w' ∧ (Fact.raw u0).ok v w') := by
 unfold M_spec_l14Rules at c
 obtain ⟨w0, hw0⟩ : ∃ w0, w0 = w := ⟨_, Z⟩
 have j : Ch (ownsB (.pointer (some ⟨b0, 0, none⟩))) w0 w := hw0 ▸ Ch.refl _ _
 obtain ⟨A0, hA0e⟩ : ∃ A0, A0 = subS Aq (ownsB (.pointer (some ⟨b0, 0, none⟩))) := ⟨_, Z⟩
 have C : ∀ b o, A0 b o → b < w0.heap.size := fun b o h => hw0 ▸ d b o (hA0e ▸ h : subS Aq _ b o).1
 have K : ∀ b o, A0 b o → ¬ (ownsB (.pointer (some ⟨b0, 0, none⟩))) b := fun b o h => (hA0e ▸ h : subS Aq _ b o).2
 have hA00 : AvOK A0 w0 := C
 rw [show GPost (subS Aq (ownsB (.pointer (some ⟨b0, 0, none⟩)))) (ownsB (.pointer (some ⟨b0, 0, none⟩))) w = GPost A0 (ownsB (.pointer (some ⟨b0, 0, none⟩))) w0 from by rw [hA0e, hw0]]
 rw [show w.heap.size = w0.heap.size from by rw [hw0]]
 obtain ⟨A, hAe⟩ : ∃ A, A = Aq := ⟨_, Z⟩
 have B : ∀ b o, A0 b o → A b o := fun b o h => hAe ▸ (hA0e ▸ h : subS Aq _ b o).1
 replace d : AvOK A w := hAe ▸ d
 have q : IniOK [ob (.pointer (some ⟨b0, 0, none⟩)) (.box B0 110 E_spec_l1Cur p0)] A w := hAe ▸ hO0
 clear hA0e hO0
 refine calls_of_HT2 [.cell 2 29] Try.func80 Try.ntmps80 (by decide) Z Z (nb Z) ?_
 intro R hR
 replace h0 : R 0 = .pointer (some ⟨b0, 0, none⟩) := (hR 0 _ Z).trans h0
 refine HT.sx [ob (.pointer (some ⟨b0, 0, none⟩)) (.box B0 110 E_spec_l1Cur p0)] (⟨_, true, [], some (trR (geB w0.heap.size) (oPt 29 (oBx (oSl 79 (oBx (oSl 82 (oRd E_impl_Test)))))) ([] : List T_impl_Rule) []), true, fun A => .any⟩ :: []) (ua (UAll.nil)) q d ?_ ?_
 exact rc (OblR.madeS _ Z Z Z Z fun V Q U O D=> by exact made_allocT Try.zeroValue29 (fun A w=> own_nil) (fun k hk=> Nat.le_trans (Nat.le_trans j.size O.ch.size) hk)) <| rz
 intro done ρ σ A R w y s
 replace h0 := k1 s.rg h0
 have z1 := s.inivR 0 Z
 obtain ⟨u2, e_u2⟩ : ∃ u, ρ 1 = u := ⟨_, Z⟩
 have h2 := s.ov y 1 0 e_u2
 obtain ⟨S3, eS_u2⟩ : ∃ S, σ 1 = S := ⟨_, Z⟩
 replace B := s.lowK B C K (q.geK (⟨.inr (fun k h => .inr h), N⟩))
 replace j : Ch (ownsB (.pointer (some ⟨b0, 0, none⟩))) w0 w := j.tr s.ch (q.geK (⟨.inr (fun k h => .inr h), N⟩))
 replace q := s.left y [(0, ob (.pointer (some ⟨b0, 0, none⟩)) (.box B0 110 E_spec_l1Cur p0)), (1, ⟨u2, S3, trR (geB w0.heap.size) (oPt 29 (oBx (oSl 79 (oBx (oSl 82 (oRd E_impl_Test)))))) ([] : List T_impl_Rule) []⟩)] ⟨Z, Z, z1, Z, Z, ⟨Z, Z, e_u2, eS_u2, Z, N⟩⟩
 replace d := s.avok
 refine HT.seq ?_
 refine HT.seq ?_
 refine SG.of ?_
 refine SG.textR [ob (.pointer (some ⟨b0, 0, none⟩)) (.box B0 110 E_spec_l1Cur p0), ⟨u2, S3, trR (geB w0.heap.size) (oPt 29 (oBx (oSl 79 (oBx (oSl 82 (oRd E_impl_Test)))))) ([] : List T_impl_Rule) []⟩] (rR (.pointer (some ⟨b0, 0, none⟩)) :: []) 1 Z Z Z (by kernel_rfl) (by kernel_rfl) (Wf.mk' (by kernel_rfl) (ur (UAll.nil)) (by kernel_rfl) (by kernel_rfl)) q d (N) ?_ ?_
 exact rm h0 <| rz
 intro done ρ σ A R w y s
 obtain ⟨h0, h2⟩ := k2 s.rg h0 h2
 have z4 := s.inivR 0 Z
 have z5 := s.inivR 1 Z
 have eS_u2 := s.inisR 1 Z
 have h7 := s.r y 0 Z
 replace B := s.lowK B C K (q.geK (⟨.inr (fun k h => .inr h), ⟨fun _ h => .inl h, N⟩⟩))
 replace j : Ch (ownsB (.pointer (some ⟨b0, 0, none⟩))) w0 w := j.tr s.ch (q.geK (⟨.inr (fun k h => .inr h), ⟨fun _ h => .inl h, N⟩⟩))
 replace q := s.left y [(0, ob (.pointer (some ⟨b0, 0, none⟩)) (.box B0 110 E_spec_l1Cur p0)), (1, ⟨u2, S3, trR (geB w0.heap.size) (oPt 29 (oBx (oSl 79 (oBx (oSl 82 (oRd E_impl_Test)))))) ([] : List T_impl_Rule) []⟩)] ⟨Z, Z, z4, Z, Z, ⟨Z, Z, z5, eS_u2, Z, N⟩⟩
 replace d := s.avok
 obtain ⟨x6, q7, c⟩ := cl_some c
 have hFz : w0.heap.size ≤ w.heap.size := j.size
 refine SG.op 8 Z Z Z Z (call_run Try.call101 (M_spec_l1Once_ok (q7 Z) d h7 (q.sub [(0, ob (.pointer (some ⟨b0, 0, none⟩)) (.box B0 110 E_spec_l1Cur p0))] ⟨Z, Z, N⟩) Z)) ?_
 rintro v_ w ⟨A, hG1, hv⟩ R n hd
 have hst := stp_call d hG1 (q.ok 0 _ Z).2
 replace B : ∀ b o, A0 b o → A b o := low_callK B C K (q.geK (⟨.inr (fun k h => .inr h), ⟨fun _ h => .inl h, N⟩⟩)) 0 Z hG1
 replace j : Ch (ownsB (.pointer (some ⟨b0, 0, none⟩))) w0 w := j.tr hG1.ch (fun k hk => (q.geK (⟨.inr (fun k h => .inr h), ⟨fun _ h => .inl h, N⟩⟩)) k ⟨0, _, Z, hk⟩)
 replace q := GPost.next q d 0 Z hG1
 replace d := hG1.avok
 replace q : IniOK [ob (.pointer (some ⟨b0, 0, none⟩)) (.box B0 110 E_spec_l1Cur x6.2), ⟨u2, S3, trR (geB w0.heap.size) (oPt 29 (oBx (oSl 79 (oBx (oSl 82 (oRd E_impl_Test)))))) ([] : List T_impl_Rule) []⟩] A w := q
 replace h0 := (n 0 Z).trans h0
 replace h2 := (n 2 Z).trans h2
 replace h7 := (n 7 Z).trans h7
 have h8 : R 8 = .bool x6.1 := hd.trans hv
 clear hFz hG1 hv n hd
 refine SG.fin Z ?_
 refine HT.cond x6.1 h8 (fun c8 => ?_) (fun c8 => ?_)
 have c := cnd_t c8 c
 refine HT.seq ?_
 refine SG.of ?_
 refine SG.textR [ob (.pointer (some ⟨b0, 0, none⟩)) (.box B0 110 E_spec_l1Cur x6.2), ⟨u2, S3, trR (geB w0.heap.size) (oPt 29 (oBx (oSl 79 (oBx (oSl 82 (oRd E_impl_Test)))))) ([] : List T_impl_Rule) []⟩] (rR (.pointer (some ⟨b0, 0, none⟩)) :: []) 1 Z Z Z (by kernel_rfl) (by kernel_rfl) (Wf.mk' (by kernel_rfl) (ur (UAll.nil)) (by kernel_rfl) (by kernel_rfl)) q d (N) ?_ ?_
 exact rm h0 <| rz
 intro done ρ σ A R w y s
 replace h2 := k1 s.rg h2
 have z9 := s.inivR 0 Z
 have z10 := s.inivR 1 Z
 have eS_u2 := s.inisR 1 Z
 have h9 := s.r y 0 Z
 replace B := s.lowK B C K (q.geK (⟨.inr (fun k h => .inr h), ⟨fun _ h => .inl h, N⟩⟩))
 replace j : Ch (ownsB (.pointer (some ⟨b0, 0, none⟩))) w0 w := j.tr s.ch (q.geK (⟨.inr (fun k h => .inr h), ⟨fun _ h => .inl h, N⟩⟩))
 replace q := s.left y [(0, ob (.pointer (some ⟨b0, 0, none⟩)) (.box B0 110 E_spec_l1Cur x6.2)), (1, ⟨u2, S3, trR (geB w0.heap.size) (oPt 29 (oBx (oSl 79 (oBx (oSl 82 (oRd E_impl_Test)))))) ([] : List T_impl_Rule) []⟩)] ⟨Z, Z, z9, Z, Z, ⟨Z, Z, z10, eS_u2, Z, N⟩⟩
 replace d := s.avok
 obtain ⟨x11, q12, c⟩ := cl_some c
 have hFz : w0.heap.size ≤ w.heap.size := j.size
 refine SG.op 10 Z Z Z Z (call_run Try.call102 (M_spec_l14Known_ok (q12 Z) d h9 (q.sub [(0, ob (.pointer (some ⟨b0, 0, none⟩)) (.box B0 110 E_spec_l1Cur x6.2))] ⟨Z, Z, N⟩))) ?_
 rintro v_ w ⟨u13, S14, A, hG1, hv⟩ R n hd
 have hst := stp_call d hG1 (q.ok 0 _ Z).2
 replace B : ∀ b o, A0 b o → A b o := low_callK B C K (q.geK (⟨.inr (fun k h => .inr h), ⟨fun _ h => .inl h, N⟩⟩)) 0 Z hG1
 replace j : Ch (ownsB (.pointer (some ⟨b0, 0, none⟩))) w0 w := j.tr hG1.ch (fun k hk => (q.geK (⟨.inr (fun k h => .inr h), ⟨fun _ h => .inl h, N⟩⟩)) k ⟨0, _, Z, hk⟩)
 replace q := GPost.next q d 0 Z hG1
 replace d := hG1.avok
 replace q := q.reK (K' := geB w0.heap.size) 1 Z (fun k hk => Nat.le_trans hFz hk)
 replace q : IniOK [ob (.pointer (some ⟨b0, 0, none⟩)) (.box B0 110 E_spec_l1Cur x11.2), ⟨u13, S14, trR (geB w0.heap.size) (oBx (oSl 79 (oBx (oSl 82 (oRd E_impl_Test))))) x11.1 []⟩, ⟨u2, S3, trR (geB w0.heap.size) (oPt 29 (oBx (oSl 79 (oBx (oSl 82 (oRd E_impl_Test)))))) ([] : List T_impl_Rule) []⟩] A w := q
 replace h2 := (n 2 Z).trans h2
 replace h9 := (n 9 Z).trans h9
 have h10 : R 10 = u13 := hd.trans hv
 clear hFz hG1 hv n hd
 refine SG.textR [ob (.pointer (some ⟨b0, 0, none⟩)) (.box B0 110 E_spec_l1Cur x11.2), ⟨u13, S14, trR (geB w0.heap.size) (oBx (oSl 79 (oBx (oSl 82 (oRd E_impl_Test))))) x11.1 []⟩, ⟨u2, S3, trR (geB w0.heap.size) (oPt 29 (oBx (oSl 79 (oBx (oSl 82 (oRd E_impl_Test)))))) ([] : List T_impl_Rule) []⟩] (rR (.pointer (some ⟨b0, 0, none⟩)) :: rR u13 :: ⟨_, true, [2, 1], some (trR (geB w0.heap.size) (oPt 29 (oBx (oSl 79 (oBx (oSl 82 (oRd E_impl_Test)))))) x11.1 []), false, fun A => .any⟩ :: []) 3 Z Z Z (by kernel_rfl) (by kernel_rfl) (Wf.mk' (by kernel_rfl) (ur (ur (ua (UAll.nil)))) (by kernel_rfl) (by kernel_rfl)) q d (⟨⟨Z, Z, Z, h9⟩, ⟨⟨Z, Z, Z, h10⟩, N⟩⟩) ?_ ?_
 exact rc (OblR.tookM 2 [1] _ Z Z Z Z fun V Q U O D ρ σ X Y J L M hdd=> by have a0 : Q 2 = u2 := (O.old 2 Z).trans h2; have a1 : Q 10 = u13 := D.g 0 Z; have k1 := X 2 (.head _) _ Z; have e0 := (J 2 (.head _) _ Z).1; rw [e0] at k1 ⊢; exact took_put2 Z (tr_root k1.2.2).ptr (X 1 (.tail _ (.head _)) _ Z).2.2.1 (a1.trans (J 1 (.tail _ (.head _)) _ Z).1.symm) a0 Y hdd k1.2.1 (X 1 (.tail _ (.head _)) _ Z).2.1 Try.sizeOf29 (fun _ _ _ h=> h)) <| rz
 intro done ρ σ A R w y s
 replace h2 := k1 s.rg h2
 have z15 := s.inivR 0 Z
 have z16 := s.inivR 2 Z
 have z17 := s.on y 5 2 Z Z Z Z Z z16
 obtain ⟨S18, eS_u2⟩ : ∃ S, σ 5 = S := ⟨_, Z⟩
 replace B := s.lowK B C K (q.geK (⟨.inr (fun k h => .inr h), ⟨fun _ h => .inl h, ⟨fun _ h => .inl h, N⟩⟩⟩))
 replace j : Ch (ownsB (.pointer (some ⟨b0, 0, none⟩))) w0 w := j.tr s.ch (q.geK (⟨.inr (fun k h => .inr h), ⟨fun _ h => .inl h, ⟨fun _ h => .inl h, N⟩⟩⟩))
 replace q := s.left y [(0, ob (.pointer (some ⟨b0, 0, none⟩)) (.box B0 110 E_spec_l1Cur x11.2)), (5, ⟨u2, S18, trR (geB w0.heap.size) (oPt 29 (oBx (oSl 79 (oBx (oSl 82 (oRd E_impl_Test)))))) x11.1 []⟩)] ⟨Z, Z, z15, Z, Z, ⟨Z, Z, z17, eS_u2, Z, N⟩⟩
 replace d := s.avok
 refine SG.fin Z ?_
 refine HT.ret ?_
 obtain rfl := si c
 obtain ⟨v_2, S_2, e_2, q⟩ := q.unbox 1 Z h2 Try.isAgg29 Try.sizeOf29
 obtain ⟨A1, hA1, hG1⟩ := GPost.of q d B (q.geK (⟨.inr (fun k h => .inr h), ⟨fun _ h => .inl h, N⟩⟩)) j
 exact ⟨.inr Z, [v_2], ⟨e_2, N⟩, v_2, S_2, A1, hG1, Z⟩
 have c := cnd_f c8 c
 refine HT.skip ?_
 refine HT.sx [ob (.pointer (some ⟨b0, 0, none⟩)) (.box B0 110 E_spec_l1Cur x6.2), ⟨u2, S3, trR (geB w0.heap.size) (oPt 29 (oBx (oSl 79 (oBx (oSl 82 (oRd E_impl_Test)))))) ([] : List T_impl_Rule) []⟩] (⟨_, true, [], some (trR (geB w0.heap.size) (oBx (oSl 79 (oBx (oSl 82 (oRd E_impl_Test))))) ([] : List T_impl_Rule) []), true, fun A => .any⟩ :: ⟨_, true, [], some (trR (geB w0.heap.size) (oPt 29 (oBx (oSl 79 (oBx (oSl 82 (oRd E_impl_Test)))))) ([] : List T_impl_Rule) []), true, fun A => .any⟩ :: ⟨_, true, [3, 2], some (trR (geB w0.heap.size) (oPt 29 (oBx (oSl 79 (oBx (oSl 82 (oRd E_impl_Test)))))) ([] : List T_impl_Rule) []), false, fun A => .any⟩ :: []) (ua (ua (ua (UAll.nil)))) q d ?_ ?_
 exact rc (OblR.madeS _ Z Z Z Z fun V Q U O D=> by exact made_valT (v := .agg #[.slice none 0 0]) (by simp [execOp, Instr.build, evalR, underlying, Try.underlying29, Try.zeroValue29, Try.sizeOf27, go_sem, Instr.fill]) ⟨⟨_, Z, own_nil⟩, fun q hq=> by cases hq⟩ (fun k hk=> Nat.le_trans (Nat.le_trans j.size O.ch.size) hk)) <| rc (OblR.madeS _ Z Z Z Z fun V Q U O D=> by exact made_allocT Try.zeroValue29 (fun A w=> own_nil) (fun k hk=> Nat.le_trans (Nat.le_trans j.size O.ch.size) hk)) <| rc (OblR.tookM 3 [2] _ Z Z Z Z fun V Q U O D ρ σ X Y J L M hdd=> by have k1 := X 3 (.head _) _ Z; exact took_put2 Z (tr_root k1.2.2).ptr (X 2 (.tail _ (.head _)) _ Z).2.2.1 (L 2 (.tail _ (.head _)) _ _ Z Z Z Z).symm (L 3 (.head _) _ _ Z Z Z Z).symm Y hdd k1.2.1 (X 2 (.tail _ (.head _)) _ Z).2.1 Try.sizeOf29 (fun _ _ _ h=> h)) <| rz
 intro done ρ σ A R w y s
 obtain ⟨h0, h2⟩ := k2 s.rg h0 h2
 have z19 := s.inivR 0 Z
 have z20 := s.inivR 1 Z
 obtain ⟨u21, e_u21⟩ : ∃ u, ρ 4 = u := ⟨_, Z⟩
 have z22 := (s.opnR y 4 2 Z Z Z Z Z).symm.trans e_u21
 have h3 := s.ov y 3 1 z22
 have eS_u2 := s.inisR 1 Z
 obtain ⟨S23, eS_u21⟩ : ∃ S, σ 4 = S := ⟨_, Z⟩
 replace B := s.lowK B C K (q.geK (⟨.inr (fun k h => .inr h), ⟨fun _ h => .inl h, N⟩⟩))
 replace j : Ch (ownsB (.pointer (some ⟨b0, 0, none⟩))) w0 w := j.tr s.ch (q.geK (⟨.inr (fun k h => .inr h), ⟨fun _ h => .inl h, N⟩⟩))
 replace q := s.left y [(0, ob (.pointer (some ⟨b0, 0, none⟩)) (.box B0 110 E_spec_l1Cur x6.2)), (1, ⟨u2, S3, trR (geB w0.heap.size) (oPt 29 (oBx (oSl 79 (oBx (oSl 82 (oRd E_impl_Test)))))) ([] : List T_impl_Rule) []⟩), (4, ⟨u21, S23, trR (geB w0.heap.size) (oPt 29 (oBx (oSl 79 (oBx (oSl 82 (oRd E_impl_Test)))))) ([] : List T_impl_Rule) []⟩)] ⟨Z, Z, z19, Z, Z, ⟨Z, Z, z20, eS_u2, Z, ⟨Z, Z, e_u21, eS_u21, Z, N⟩⟩⟩
 replace d := s.avok
 refine HT.seq ?_
 refine HT.seq ?_
 refine SG.of ?_
 refine SG.textR [ob (.pointer (some ⟨b0, 0, none⟩)) (.box B0 110 E_spec_l1Cur x6.2), ⟨u2, S3, trR (geB w0.heap.size) (oPt 29 (oBx (oSl 79 (oBx (oSl 82 (oRd E_impl_Test)))))) ([] : List T_impl_Rule) []⟩, ⟨u21, S23, trR (geB w0.heap.size) (oPt 29 (oBx (oSl 79 (oBx (oSl 82 (oRd E_impl_Test)))))) ([] : List T_impl_Rule) []⟩] (rR (.pointer (some ⟨b0, 0, none⟩)) :: []) 1 Z Z Z (by kernel_rfl) (by kernel_rfl) (Wf.mk' (by kernel_rfl) (ur (UAll.nil)) (by kernel_rfl) (by kernel_rfl)) q d (N) ?_ ?_
 exact rm h0 <| rz
 intro done ρ σ A R w y s
 obtain ⟨h0, h2, h3⟩ := k3 s.rg h0 h2 h3
 have z24 := s.inivR 0 Z
 have z25 := s.inivR 1 Z
 have z26 := s.inivR 2 Z
 have eS_u2 := s.inisR 1 Z
 have eS_u21 := s.inisR 2 Z
 have h12 := s.r y 0 Z
 replace B := s.lowK B C K (q.geK (⟨.inr (fun k h => .inr h), ⟨fun _ h => .inl h, ⟨fun _ h => .inl h, N⟩⟩⟩))
 replace j : Ch (ownsB (.pointer (some ⟨b0, 0, none⟩))) w0 w := j.tr s.ch (q.geK (⟨.inr (fun k h => .inr h), ⟨fun _ h => .inl h, ⟨fun _ h => .inl h, N⟩⟩⟩))
 replace q := s.left y [(0, ob (.pointer (some ⟨b0, 0, none⟩)) (.box B0 110 E_spec_l1Cur x6.2)), (1, ⟨u2, S3, trR (geB w0.heap.size) (oPt 29 (oBx (oSl 79 (oBx (oSl 82 (oRd E_impl_Test)))))) ([] : List T_impl_Rule) []⟩), (2, ⟨u21, S23, trR (geB w0.heap.size) (oPt 29 (oBx (oSl 79 (oBx (oSl 82 (oRd E_impl_Test)))))) ([] : List T_impl_Rule) []⟩)] ⟨Z, Z, z24, Z, Z, ⟨Z, Z, z25, eS_u2, Z, ⟨Z, Z, z26, eS_u21, Z, N⟩⟩⟩
 replace d := s.avok
 obtain ⟨x27, q28, c⟩ := cl_some c
 have hFz : w0.heap.size ≤ w.heap.size := j.size
 refine SG.op 13 Z Z Z Z (call_run Try.call55 (M_spec_l1Below_ok (q28 Z) d h12 (q.sub [(0, ob (.pointer (some ⟨b0, 0, none⟩)) (.box B0 110 E_spec_l1Cur x6.2))] ⟨Z, Z, N⟩) Z)) ?_
 rintro v_ w ⟨A, hG1, hv⟩ R n hd
 have hst := stp_call d hG1 (q.ok 0 _ Z).2
 replace B : ∀ b o, A0 b o → A b o := low_callK B C K (q.geK (⟨.inr (fun k h => .inr h), ⟨fun _ h => .inl h, ⟨fun _ h => .inl h, N⟩⟩⟩)) 0 Z hG1
 replace j : Ch (ownsB (.pointer (some ⟨b0, 0, none⟩))) w0 w := j.tr hG1.ch (fun k hk => (q.geK (⟨.inr (fun k h => .inr h), ⟨fun _ h => .inl h, ⟨fun _ h => .inl h, N⟩⟩⟩)) k ⟨0, _, Z, hk⟩)
 replace q := GPost.next q d 0 Z hG1
 replace d := hG1.avok
 replace q : IniOK [ob (.pointer (some ⟨b0, 0, none⟩)) (.box B0 110 E_spec_l1Cur x27.2), ⟨u2, S3, trR (geB w0.heap.size) (oPt 29 (oBx (oSl 79 (oBx (oSl 82 (oRd E_impl_Test)))))) ([] : List T_impl_Rule) []⟩, ⟨u21, S23, trR (geB w0.heap.size) (oPt 29 (oBx (oSl 79 (oBx (oSl 82 (oRd E_impl_Test)))))) ([] : List T_impl_Rule) []⟩] A w := q
 replace h0 := (n 0 Z).trans h0
 replace h2 := (n 2 Z).trans h2
 replace h3 := (n 3 Z).trans h3
 replace h12 := (n 12 Z).trans h12
 have h13 : R 13 = .int .i64 x27.1 := hd.trans hv
 clear hFz hG1 hv n hd
 obtain ⟨e29, c⟩ := ck_some c
 refine SG.textR [ob (.pointer (some ⟨b0, 0, none⟩)) (.box B0 110 E_spec_l1Cur x27.2), ⟨u2, S3, trR (geB w0.heap.size) (oPt 29 (oBx (oSl 79 (oBx (oSl 82 (oRd E_impl_Test)))))) ([] : List T_impl_Rule) []⟩, ⟨u21, S23, trR (geB w0.heap.size) (oPt 29 (oBx (oSl 79 (oBx (oSl 82 (oRd E_impl_Test)))))) ([] : List T_impl_Rule) []⟩] (rR (.pointer (some ⟨b0, 0, none⟩)) :: rI x27.1 :: rI (1 + x27.1) :: rI (1 + x27.1) :: []) 4 Z Z Z (by kernel_rfl) (by kernel_rfl) (Wf.mk' (by kernel_rfl) (ur (ur (ur (ur (UAll.nil))))) (by kernel_rfl) (by kernel_rfl)) q d (⟨⟨Z, Z, Z, h12⟩, ⟨⟨Z, Z, Z, h13⟩, N⟩⟩) ?_ ?_
 exact rp (fun V Q U O D=> of_add Z (D.g 0 Z) e29) <| ra <| rz
 intro done ρ σ A R w y s
 obtain ⟨h0, h2, h3⟩ := k3 s.rg h0 h2 h3
 have z30 := s.inivR 0 Z
 have z31 := s.inivR 1 Z
 have z32 := s.inivR 2 Z
 have eS_u2 := s.inisR 1 Z
 have eS_u21 := s.inisR 2 Z
 have h4 := s.r y 3 Z
 replace B := s.lowK B C K (q.geK (⟨.inr (fun k h => .inr h), ⟨fun _ h => .inl h, ⟨fun _ h => .inl h, N⟩⟩⟩))
 replace j : Ch (ownsB (.pointer (some ⟨b0, 0, none⟩))) w0 w := j.tr s.ch (q.geK (⟨.inr (fun k h => .inr h), ⟨fun _ h => .inl h, ⟨fun _ h => .inl h, N⟩⟩⟩))
 replace q := s.left y [(0, ob (.pointer (some ⟨b0, 0, none⟩)) (.box B0 110 E_spec_l1Cur x27.2)), (1, ⟨u2, S3, trR (geB w0.heap.size) (oPt 29 (oBx (oSl 79 (oBx (oSl 82 (oRd E_impl_Test)))))) ([] : List T_impl_Rule) []⟩), (2, ⟨u21, S23, trR (geB w0.heap.size) (oPt 29 (oBx (oSl 79 (oBx (oSl 82 (oRd E_impl_Test)))))) ([] : List T_impl_Rule) []⟩)] ⟨Z, Z, z30, Z, Z, ⟨Z, Z, z31, eS_u2, Z, ⟨Z, Z, z32, eS_u21, Z, N⟩⟩⟩
 replace d := s.avok
 refine SG.fin Z ?_
 obtain ⟨rl33, q34, c⟩ := cl_some c
 replace q34 := q34 Z
 refine HT.cut0 (fun R w => ∃ A : Av, ∃ (s35 : T_spec_l1Cur × T_impl_RuleSet) (So_u21 : Nat → Prop), rl33 = s35 ∧ AvOK A w ∧ Ch (ownsB (.pointer (some ⟨b0, 0, none⟩))) w0 w ∧ (∀ b o, A0 b o → A b o) ∧ IniOK [ob (.pointer (some ⟨b0, 0, none⟩)) (.box B0 110 E_spec_l1Cur s35.1), ⟨u2, S3, trR (geB w0.heap.size) (oPt 29 (oBx (oSl 79 (oBx (oSl 82 (oRd E_impl_Test)))))) ([] : List T_impl_Rule) []⟩, ⟨u21, So_u21, trR (geB w0.heap.size) (oPt 29 (oBx (oSl 79 (oBx (oSl 82 (oRd E_impl_Test)))))) s35.2 []⟩] A w ∧ R 2 = u2 ∧ R 3 = u21) ?_ ?_
 refine HT.block ?_
 refine HT.loop (fun k R w => ∃ A : Av, ∃ (y36 : Int) (y37 : T_spec_l1Cur) (y38 : T_impl_RuleSet) (Sl_u21 : Nat → Prop), M_spec_l14Rules_L0 fu k y36 y37 y38 = some rl33 ∧ AvOK A w ∧ Ch (ownsB (.pointer (some ⟨b0, 0, none⟩))) w0 w ∧ (∀ b o, A0 b o → A b o) ∧ IniOK [ob (.pointer (some ⟨b0, 0, none⟩)) (.box B0 110 E_spec_l1Cur y37), ⟨u2, S3, trR (geB w0.heap.size) (oPt 29 (oBx (oSl 79 (oBx (oSl 82 (oRd E_impl_Test)))))) ([] : List T_impl_Rule) []⟩, ⟨u21, Sl_u21, trR (geB w0.heap.size) (oPt 29 (oBx (oSl 79 (oBx (oSl 82 (oRd E_impl_Test)))))) y38 []⟩] A w ∧ R 0 = (.pointer (some ⟨b0, 0, none⟩)) ∧ R 2 = u2 ∧ R 3 = u21 ∧ R 4 = .int .i64 y36) fu ⟨_, _, _, _, S23, q34, d, j, B, q, h0, h2, h3, h4⟩ ?_
 have hr0 := c; clear c q34
 rintro k R w ⟨A, y36, y37, y38, Sl_u21, c, d, j, B, q, h0, h2, h3, h4⟩
 rcases k with _ | k
 cases (show none = some _ from c)
 rw [M_spec_l14Rules_L0] at c
 refine HT.seq ?_
 refine HT.seq ?_
 refine HT.t (eI y36 :: eB (decide (0 < y36)) :: []) ?_ ?_
 exact om h4 <| op (fun Q U W H D=> of_gtr (D.g 0 Z) Z) <| oz
 intro R w m n p
 obtain ⟨h0, h2, h3, h4⟩ := k4 n h0 h2 h3 h4
 have h16 := p.r 1 Z
 replace q := q.fr m
 replace d := d.fr m.size
 replace j := j.tr (m.ch noB) fun _ h => False.elim h
 refine HT.cond (decide (0 < y36)) h16 (fun c39 => ?_) (fun c39 => ?_)
 have c := cnd_t c39 c
 refine HT.skip ?_
 refine HT.seq ?_
 refine HT.block ?_
 refine HT.sx [ob (.pointer (some ⟨b0, 0, none⟩)) (.box B0 110 E_spec_l1Cur y37), ⟨u2, S3, trR (geB w0.heap.size) (oPt 29 (oBx (oSl 79 (oBx (oSl 82 (oRd E_impl_Test)))))) ([] : List T_impl_Rule) []⟩, ⟨u21, Sl_u21, trR (geB w0.heap.size) (oPt 29 (oBx (oSl 79 (oBx (oSl 82 (oRd E_impl_Test)))))) y38 []⟩] (⟨_, true, [], some (trR (geB w0.heap.size) (oBx (oSl 82 (oRd E_impl_Test))) ([] : List T_impl_Test) []), true, fun A => .any⟩ :: ⟨_, true, [], some (trR (geB w0.heap.size) (oPt 79 (oBx (oSl 82 (oRd E_impl_Test)))) ([] : List T_impl_Test) []), true, fun A => .any⟩ :: ⟨_, true, [4, 3], some (trR (geB w0.heap.size) (oPt 79 (oBx (oSl 82 (oRd E_impl_Test)))) ([] : List T_impl_Test) []), false, fun A => .any⟩ :: []) (ua (ua (ua (UAll.nil)))) q d ?_ ?_
 exact rc (OblR.madeS _ Z Z Z Z fun V Q U O D=> by exact made_valT (v := .agg #[.slice none 0 0]) (by simp [execOp, Instr.build, evalR, underlying, Try.underlying79, Try.zeroValue79, Try.sizeOf65, go_sem, Instr.fill]) ⟨⟨_, Z, own_nil⟩, fun q hq=> by cases hq⟩ (fun k hk=> Nat.le_trans (Nat.le_trans j.size O.ch.size) hk)) <| rc (OblR.madeS _ Z Z Z Z fun V Q U O D=> by exact made_allocT Try.zeroValue79 (fun A w=> own_nil) (fun k hk=> Nat.le_trans (Nat.le_trans j.size O.ch.size) hk)) <| rc (OblR.tookM 4 [3] _ Z Z Z Z fun V Q U O D ρ σ X Y J L M hdd=> by have k1 := X 4 (.head _) _ Z; exact took_put2 Z (tr_root k1.2.2).ptr (X 3 (.tail _ (.head _)) _ Z).2.2.1 (L 3 (.tail _ (.head _)) _ _ Z Z Z Z).symm (L 4 (.head _) _ _ Z Z Z Z).symm Y hdd k1.2.1 (X 3 (.tail _ (.head _)) _ Z).2.1 Try.sizeOf79 (fun _ _ _ h=> h)) <| rz
 intro done ρ σ A R w y s
 obtain ⟨h0, h2, h3, h4⟩ := k4 s.rg h0 h2 h3 h4
 have z40 := s.inivR 0 Z
 have z41 := s.inivR 1 Z
 have z42 := s.inivR 2 Z
 obtain ⟨u43, e_u43⟩ : ∃ u, ρ 5 = u := ⟨_, Z⟩
 have z44 := (s.opnR y 5 2 Z Z Z Z Z).symm.trans e_u43
 have h5 := s.ov y 4 1 z44
 have eS_u2 := s.inisR 1 Z
 have eS_u21 := s.inisR 2 Z
 obtain ⟨S45, eS_u43⟩ : ∃ S, σ 5 = S := ⟨_, Z⟩
 replace B := s.lowK B C K (q.geK (⟨.inr (fun k h => .inr h), ⟨fun _ h => .inl h, ⟨fun _ h => .inl h, N⟩⟩⟩))
 replace j : Ch (ownsB (.pointer (some ⟨b0, 0, none⟩))) w0 w := j.tr s.ch (q.geK (⟨.inr (fun k h => .inr h), ⟨fun _ h => .inl h, ⟨fun _ h => .inl h, N⟩⟩⟩))
 replace q := s.left y [(0, ob (.pointer (some ⟨b0, 0, none⟩)) (.box B0 110 E_spec_l1Cur y37)), (1, ⟨u2, S3, trR (geB w0.heap.size) (oPt 29 (oBx (oSl 79 (oBx (oSl 82 (oRd E_impl_Test)))))) ([] : List T_impl_Rule) []⟩), (2, ⟨u21, Sl_u21, trR (geB w0.heap.size) (oPt 29 (oBx (oSl 79 (oBx (oSl 82 (oRd E_impl_Test)))))) y38 []⟩), (5, ⟨u43, S45, trR (geB w0.heap.size) (oPt 79 (oBx (oSl 82 (oRd E_impl_Test)))) ([] : List T_impl_Test) []⟩)] ⟨Z, Z, z40, Z, Z, ⟨Z, Z, z41, eS_u2, Z, ⟨Z, Z, z42, eS_u21, Z, ⟨Z, Z, e_u43, eS_u43, Z, N⟩⟩⟩⟩
 replace d := s.avok
 refine HT.seq ?_
 refine HT.seq ?_
 refine HT.t (eI 0 :: []) ?_ ?_
 exact op (fun Q U W H D=> of_assign Z) <| oz
 intro R w m n p
 obtain ⟨h0, h2, h3, h4, h5⟩ := k5 n h0 h2 h3 h4 h5
 have h6 := p.r 0 Z
 replace q := q.fr m
 replace d := d.fr m.size
 replace j := j.tr (m.ch noB) fun _ h => False.elim h
 obtain ⟨rl46, q47, c⟩ := cl_some c
 replace q47 := q47 Z
 refine HT.cut0 (fun R w => ∃ A : Av, ∃ (s48 : T_spec_l1Cur × T_impl_Rule) (So_u43 : Nat → Prop), rl46 = s48 ∧ AvOK A w ∧ Ch (ownsB (.pointer (some ⟨b0, 0, none⟩))) w0 w ∧ (∀ b o, A0 b o → A b o) ∧ IniOK [ob (.pointer (some ⟨b0, 0, none⟩)) (.box B0 110 E_spec_l1Cur s48.1), ⟨u2, S3, trR (geB w0.heap.size) (oPt 29 (oBx (oSl 79 (oBx (oSl 82 (oRd E_impl_Test)))))) ([] : List T_impl_Rule) []⟩, ⟨u21, Sl_u21, trR (geB w0.heap.size) (oPt 29 (oBx (oSl 79 (oBx (oSl 82 (oRd E_impl_Test)))))) y38 []⟩, ⟨u43, So_u43, trR (geB w0.heap.size) (oPt 79 (oBx (oSl 82 (oRd E_impl_Test)))) s48.2 []⟩] A w ∧ R 0 = (.pointer (some ⟨b0, 0, none⟩)) ∧ R 2 = u2 ∧ R 3 = u21 ∧ R 4 = .int .i64 y36 ∧ R 5 = u43) ?_ ?_
 refine HT.block ?_
 refine HT.loop (fun k R w => ∃ A : Av, ∃ (y49 : Int) (y50 : T_spec_l1Cur) (y51 : T_impl_Rule) (Sl_u43 : Nat → Prop), M_spec_l14Rules_L1 fu k y49 y50 y51 = some rl46 ∧ AvOK A w ∧ Ch (ownsB (.pointer (some ⟨b0, 0, none⟩))) w0 w ∧ (∀ b o, A0 b o → A b o) ∧ IniOK [ob (.pointer (some ⟨b0, 0, none⟩)) (.box B0 110 E_spec_l1Cur y50), ⟨u2, S3, trR (geB w0.heap.size) (oPt 29 (oBx (oSl 79 (oBx (oSl 82 (oRd E_impl_Test)))))) ([] : List T_impl_Rule) []⟩, ⟨u21, Sl_u21, trR (geB w0.heap.size) (oPt 29 (oBx (oSl 79 (oBx (oSl 82 (oRd E_impl_Test)))))) y38 []⟩, ⟨u43, Sl_u43, trR (geB w0.heap.size) (oPt 79 (oBx (oSl 82 (oRd E_impl_Test)))) y51 []⟩] A w ∧ R 0 = (.pointer (some ⟨b0, 0, none⟩)) ∧ R 2 = u2 ∧ R 3 = u21 ∧ R 4 = .int .i64 y36 ∧ R 5 = u43 ∧ R 6 = .int .i64 y49) fu ⟨_, _, _, _, S45, q47, d, j, B, q, h0, h2, h3, h4, h5, h6⟩ ?_
 have hr0 := c; clear c q47
 rintro k R w ⟨A, y49, y50, y51, Sl_u43, c, d, j, B, q, h0, h2, h3, h4, h5, h6⟩
 rcases k with _ | k
 cases (show none = some _ from c)
 rw [M_spec_l14Rules_L1] at c
 refine HT.seq ?_
 refine HT.seq ?_
 refine HT.t (eI y49 :: eB (decide (y49 < 6)) :: []) ?_ ?_
 exact om h6 <| op (fun Q U W H D=> of_lss (D.g 0 Z) Z) <| oz
 intro R w m n p
 obtain ⟨h0, h2, h3, h4, h5, h6⟩ := k6 n h0 h2 h3 h4 h5 h6
 have h21 := p.r 1 Z
 replace q := q.fr m
 replace d := d.fr m.size
 replace j := j.tr (m.ch noB) fun _ h => False.elim h
 refine HT.cond (decide (y49 < 6)) h21 (fun c52 => ?_) (fun c52 => ?_)
 have c := cnd_t c52 c
 refine HT.skip ?_
 refine HT.seq ?_
 refine HT.block ?_
 refine HT.seq ?_
 refine SG.of ?_
 obtain ⟨h53, p_h53⟩ := (((tr_root (q.own 3 _ Z).2).ptr).bx).open1 Z
 replace q : IniOK [ob (.pointer (some ⟨b0, 0, none⟩)) (.box B0 110 E_spec_l1Cur y50), ⟨u2, S3, trR (geB w0.heap.size) (oPt 29 (oBx (oSl 79 (oBx (oSl 82 (oRd E_impl_Test)))))) ([] : List T_impl_Rule) []⟩, ⟨u21, Sl_u21, trR (geB w0.heap.size) (oPt 29 (oBx (oSl 79 (oBx (oSl 82 (oRd E_impl_Test)))))) y38 []⟩, ⟨u43, Sl_u43, trR (geB w0.heap.size) (oPt 79 (oBx (oSl 82 (oRd E_impl_Test)))) y51 [(u43, [h53])]⟩] A w := q.repin 3 Z (trP.pin p_h53)
 refine SG.textR [ob (.pointer (some ⟨b0, 0, none⟩)) (.box B0 110 E_spec_l1Cur y50), ⟨u2, S3, trR (geB w0.heap.size) (oPt 29 (oBx (oSl 79 (oBx (oSl 82 (oRd E_impl_Test)))))) ([] : List T_impl_Rule) []⟩, ⟨u21, Sl_u21, trR (geB w0.heap.size) (oPt 29 (oBx (oSl 79 (oBx (oSl 82 (oRd E_impl_Test)))))) y38 []⟩, ⟨u43, Sl_u43, trR (geB w0.heap.size) (oPt 79 (oBx (oSl 82 (oRd E_impl_Test)))) y51 [(u43, [h53])]⟩] (rR u43 :: rR h53 :: rI (y51.length : Int) :: rB (decide ((y51.length : Int) < 3)) :: rB (decide ((y51.length : Int) < 3)) :: []) 5 Z Z Z (by kernel_rfl) (by kernel_rfl) (Wf.mk' (by kernel_rfl) (ur (ur (ur (ur (ur (UAll.nil)))))) (by kernel_rfl) (by kernel_rfl)) q d (N) ?_ ?_
 exact rp (fun V Q U O D=> of_fieldAddr_tr ((tr_root (q.own 3 _ Z).2).ptr).ad ((O.old 5 Z).trans h5) ff_79_0 Try.sizeOf65 (by decide) (padd_zero ((tr_root (q.own 3 _ Z).2).ptr).ad)) <| rp (fun V Q U O D=> of_load_pin ((O.rdo 3 _ Z Z).2.2 _ (.head _)) (D.g 0 Z) Try.isAgg65 Try.sizeOf65) <| rp (fun V Q U O D=> of_len_tr ((((tr_root (q.own 3 _ Z).2).ptr).bx).pin ((q.own 3 _ Z).2.2 _ (.head _)) Z) (D.g 0 Z) Try.underlying65) <| rp (fun V Q U O D=> of_lss (D.g 0 Z) Z) <| rv <| rz
 intro done ρ σ A R w y s
 obtain ⟨h0, h2, h3, h4, h5, h6⟩ := k6 s.rg h0 h2 h3 h4 h5 h6
 have z55 := s.inivR 0 Z
 have z56 := s.inivR 1 Z
 have z57 := s.inivR 2 Z
 have z58 := s.inivR 3 Z
 have eS_u2 := s.inisR 1 Z
 have eS_u21 := s.inisR 2 Z
 have eS_u43 := s.inisR 3 Z
 have h28 := s.r y 4 Z
 replace B := s.lowK B C K (q.geK (⟨.inr (fun k h => .inr h), ⟨fun _ h => .inl h, ⟨fun _ h => .inl h, ⟨fun _ h => .inl h, N⟩⟩⟩⟩))
 replace j : Ch (ownsB (.pointer (some ⟨b0, 0, none⟩))) w0 w := j.tr s.ch (q.geK (⟨.inr (fun k h => .inr h), ⟨fun _ h => .inl h, ⟨fun _ h => .inl h, ⟨fun _ h => .inl h, N⟩⟩⟩⟩))
 replace q := s.left y [(0, ob (.pointer (some ⟨b0, 0, none⟩)) (.box B0 110 E_spec_l1Cur y50)), (1, ⟨u2, S3, trR (geB w0.heap.size) (oPt 29 (oBx (oSl 79 (oBx (oSl 82 (oRd E_impl_Test)))))) ([] : List T_impl_Rule) []⟩), (2, ⟨u21, Sl_u21, trR (geB w0.heap.size) (oPt 29 (oBx (oSl 79 (oBx (oSl 82 (oRd E_impl_Test)))))) y38 []⟩), (3, ⟨u43, Sl_u43, trR (geB w0.heap.size) (oPt 79 (oBx (oSl 82 (oRd E_impl_Test)))) y51 [(u43, [h53])]⟩)] ⟨Z, Z, z55, Z, Z, ⟨Z, Z, z56, eS_u2, Z, ⟨Z, Z, z57, eS_u21, Z, ⟨Z, Z, z58, eS_u43, Z, N⟩⟩⟩⟩
 replace d := s.avok
 replace q : IniOK [ob (.pointer (some ⟨b0, 0, none⟩)) (.box B0 110 E_spec_l1Cur y50), ⟨u2, S3, trR (geB w0.heap.size) (oPt 29 (oBx (oSl 79 (oBx (oSl 82 (oRd E_impl_Test)))))) ([] : List T_impl_Rule) []⟩, ⟨u21, Sl_u21, trR (geB w0.heap.size) (oPt 29 (oBx (oSl 79 (oBx (oSl 82 (oRd E_impl_Test)))))) y38 []⟩, ⟨u43, Sl_u43, trR (geB w0.heap.size) (oPt 79 (oBx (oSl 82 (oRd E_impl_Test)))) y51 []⟩] A w := q.repin 3 Z trP.nopin
 rcases Bool.eq_false_or_eq_true (decide ((y51.length : Int) < 3)) with c59 | c59
 have c := cnd_t c59 c
 refine SG.opG 29 4 28 true Z Z Z Z (h28.trans (congrArg Value.bool c59)) Z Z (of_move (f := .raw ((.pointer (some ⟨b0, 0, none⟩)))) (h0 : evalR R (.tmp 0) = _)) ?_
 rintro v_ w ⟨hv_, hfr⟩ R n hd
 have hst := hfr.stp A
 replace j : Ch (ownsB (.pointer (some ⟨b0, 0, none⟩))) w0 w := j.tr (hfr.ch noB) fun _ h => False.elim h
 replace d := d.fr hfr.size
 replace q := q.fr hfr
 replace h0 := (n 0 Z).trans h0
 replace h2 := (n 2 Z).trans h2
 replace h3 := (n 3 Z).trans h3
 replace h4 := (n 4 Z).trans h4
 replace h5 := (n 5 Z).trans h5
 replace h6 := (n 6 Z).trans h6
 replace h28 := (n 28 Z).trans h28
 have h29 : R 29 = (.pointer (some ⟨b0, 0, none⟩)) := hd.trans hv_
 clear n hd hst hfr hv_
 obtain ⟨x60, q61, c⟩ := cl_some c
 have hFz : w0.heap.size ≤ w.heap.size := j.size
 refine SG.opG 30 4 28 true Z Z Z Z (h28.trans (congrArg Value.bool c59)) Z Z (call_run Try.call101 (M_spec_l1Once_ok (q61 Z) d h29 (q.sub [(0, ob (.pointer (some ⟨b0, 0, none⟩)) (.box B0 110 E_spec_l1Cur y50))] ⟨Z, Z, N⟩) Z)) ?_
 rintro v_ w ⟨A, hG1, hv⟩ R n hd
 have hst := stp_call d hG1 (q.ok 0 _ Z).2
 replace B : ∀ b o, A0 b o → A b o := low_callK B C K (q.geK (⟨.inr (fun k h => .inr h), ⟨fun _ h => .inl h, ⟨fun _ h => .inl h, ⟨fun _ h => .inl h, N⟩⟩⟩⟩)) 0 Z hG1
 replace j : Ch (ownsB (.pointer (some ⟨b0, 0, none⟩))) w0 w := j.tr hG1.ch (fun k hk => (q.geK (⟨.inr (fun k h => .inr h), ⟨fun _ h => .inl h, ⟨fun _ h => .inl h, ⟨fun _ h => .inl h, N⟩⟩⟩⟩)) k ⟨0, _, Z, hk⟩)
 replace q := GPost.next q d 0 Z hG1
 replace d := hG1.avok
 replace q : IniOK [ob (.pointer (some ⟨b0, 0, none⟩)) (.box B0 110 E_spec_l1Cur x60.2), ⟨u2, S3, trR (geB w0.heap.size) (oPt 29 (oBx (oSl 79 (oBx (oSl 82 (oRd E_impl_Test)))))) ([] : List T_impl_Rule) []⟩, ⟨u21, Sl_u21, trR (geB w0.heap.size) (oPt 29 (oBx (oSl 79 (oBx (oSl 82 (oRd E_impl_Test)))))) y38 []⟩, ⟨u43, Sl_u43, trR (geB w0.heap.size) (oPt 79 (oBx (oSl 82 (oRd E_impl_Test)))) y51 []⟩] A w := q
 replace h0 := (n 0 Z).trans h0
 replace h2 := (n 2 Z).trans h2
 replace h3 := (n 3 Z).trans h3
 replace h4 := (n 4 Z).trans h4
 replace h5 := (n 5 Z).trans h5
 replace h6 := (n 6 Z).trans h6
 replace h28 := (n 28 Z).trans h28
 replace h29 := (n 29 Z).trans h29
 have h30 : R 30 = .bool x60.1 := hd.trans hv
 clear hFz hG1 hv n hd
 obtain ⟨h62, p_h62⟩ := (((tr_root (q.own 3 _ Z).2).ptr).bx).open1 Z
 replace q : IniOK [ob (.pointer (some ⟨b0, 0, none⟩)) (.box B0 110 E_spec_l1Cur x60.2), ⟨u2, S3, trR (geB w0.heap.size) (oPt 29 (oBx (oSl 79 (oBx (oSl 82 (oRd E_impl_Test)))))) ([] : List T_impl_Rule) []⟩, ⟨u21, Sl_u21, trR (geB w0.heap.size) (oPt 29 (oBx (oSl 79 (oBx (oSl 82 (oRd E_impl_Test)))))) y38 []⟩, ⟨u43, Sl_u43, trR (geB w0.heap.size) (oPt 79 (oBx (oSl 82 (oRd E_impl_Test)))) y51 [(u43, [h62])]⟩] A w := q.repin 3 Z (trP.pin p_h62)
 obtain ⟨x64, q65, c⟩ := bd_some c
 obtain ⟨x66, q67, c⟩ := bd_some c
 obtain ⟨x68, q69, c⟩ := bd_some c
 refine SG.textR [ob (.pointer (some ⟨b0, 0, none⟩)) (.box B0 110 E_spec_l1Cur x60.2), ⟨u2, S3, trR (geB w0.heap.size) (oPt 29 (oBx (oSl 79 (oBx (oSl 82 (oRd E_impl_Test)))))) ([] : List T_impl_Rule) []⟩, ⟨u21, Sl_u21, trR (geB w0.heap.size) (oPt 29 (oBx (oSl 79 (oBx (oSl 82 (oRd E_impl_Test)))))) y38 []⟩, ⟨u43, Sl_u43, trR (geB w0.heap.size) (oPt 79 (oBx (oSl 82 (oRd E_impl_Test)))) y51 [(u43, [h62])]⟩] (rA :: rA :: rA :: rA :: rB (decide ((y51.length : Int) < 3)) :: rR (.pointer (some ⟨b0, 0, none⟩)) :: rB x60.1 :: sB (true && ((decide ((y51.length : Int) < 3)) == true)) x60.1 :: sI ((true && ((decide ((y51.length : Int) < 3)) == true)) && (x60.1 == false)) y49 :: sB ((true && ((decide ((y51.length : Int) < 3)) == true)) && (x60.1 == false)) (y49 == 5) :: sB ((true && ((decide ((y51.length : Int) < 3)) == true)) && (x60.1 == false)) (y49 == 5) :: sR (((true && ((decide ((y51.length : Int) < 3)) == true)) && (x60.1 == false)) && ((y49 == 5) == true)) u43 :: sR (((true && ((decide ((y51.length : Int) < 3)) == true)) && (x60.1 == false)) && ((y49 == 5) == true)) h62 :: sI (((true && ((decide ((y51.length : Int) < 3)) == true)) && (x60.1 == false)) && ((y49 == 5) == true)) (y51.length : Int) :: sB (((true && ((decide ((y51.length : Int) < 3)) == true)) && (x60.1 == false)) && ((y49 == 5) == true)) ((y51.length : Int) == 0) :: sB ((true && ((decide ((y51.length : Int) < 3)) == true)) && (x60.1 == false)) x64 :: sB (true && ((decide ((y51.length : Int) < 3)) == true)) x66 :: rB x68 :: []) 18 Z Z Z (by kernel_rfl) (by kernel_rfl) (Wf.mk' (by kernel_rfl) (ua (ua (ua (ua (ur (ur (ur (ur (ur (ur (ur (ur (ur (ur (ur (ur (ur (ur (UAll.nil))))))))))))))))))) (by kernel_rfl) (by kernel_rfl)) q d (⟨⟨Z, Z, Z, N⟩, ⟨⟨Z, Z, Z, N⟩, ⟨⟨Z, Z, Z, N⟩, ⟨⟨Z, Z, Z, N⟩, ⟨⟨Z, Z, Z, h28⟩, ⟨⟨Z, Z, Z, h29⟩, ⟨⟨Z, Z, Z, h30⟩, N⟩⟩⟩⟩⟩⟩⟩) ?_ ?_
 exact rc (OblR.grd 4 true _ _ _ Z Z Z Z Z (fun _=> Z) Z Z fun G V Q U O D=> by have a0 : Q 30 = .bool x60.1 := D.g 0 Z; exact of_move a0) <| rc (OblR.grd 7 false _ _ _ Z Z Z Z Z (fun _=> Z) Z Z fun G V Q U O D=> by have a0 : Q 6 = .int .i64 y49 := (O.old 6 Z).trans h6; exact of_move a0) <| rc (OblR.grd 7 false _ _ _ Z Z Z Z Z (fun _=> Z) Z Z fun G V Q U O D=> by have a0 : Q 32 = .int .i64 y49 := D 0 _ _ _ Z Z Z Z G; exact of_eql a0 Z) <| rc (OblR.grd 7 false _ _ _ Z Z Z Z Z (fun _=> Z) Z Z fun G V Q U O D=> by have a0 : Q 33 = .bool (y49 == 5) := D 0 _ _ _ Z Z Z Z G; exact of_move a0) <| rc (OblR.grd 10 true _ _ _ Z Z Z Z Z (fun _=> Z) Z Z fun G V Q U O D=> by have a0 : Q 5 = u43 := (O.old 5 Z).trans h5; exact of_fieldAddr_tr ((tr_root (q.own 3 _ Z).2).ptr).ad a0 ff_79_0 Try.sizeOf65 (by decide) (padd_zero ((tr_root (q.own 3 _ Z).2).ptr).ad)) <| rc (OblR.grd 10 true _ _ _ Z Z Z Z Z (fun _=> Z) Z Z fun G V Q U O D=> by have a0 : Q 35 = u43 := D 0 _ _ _ Z Z Z Z G; exact of_load_pin ((O.rdo 3 _ Z Z).2.2 _ (.head _)) a0 Try.isAgg65 Try.sizeOf65) <| rc (OblR.grd 10 true _ _ _ Z Z Z Z Z (fun _=> Z) Z Z fun G V Q U O D=> by have a0 : Q 36 = h62 := D 0 _ _ _ Z Z Z Z G; exact of_len_tr ((((tr_root (q.own 3 _ Z).2).ptr).bx).pin ((q.own 3 _ Z).2.2 _ (.head _)) Z) a0 Try.underlying65) <| rc (OblR.grd 10 true _ _ _ Z Z Z Z Z (fun _=> Z) Z Z fun G V Q U O D=> by have a0 : Q 37 = .int .i64 (y51.length : Int) := D 0 _ _ _ Z Z Z Z G; exact of_eql a0 Z) <| rc (OblR.grd 7 false _ _ _ Z Z Z Z Z (fun _=> Z) Z Z fun G V Q U O D=> by have a0 : Q 34 = .bool (y49 == 5) := D 0 _ _ _ Z Z Z Z G; exact of_pick (y49 == 5) a0 (fun hc=> by have a1 : Q 38 = .bool ((y51.length : Int) == 0) := D 1 _ _ _ Z Z Z Z (g_and G (beq_of hc)); show _ = Value.bool x64; rw [q65, hc]; exact a1) (fun hc=> by show _ = Value.bool x64; rw [q65, hc]; exact Z)) <| rc (OblR.grd 4 true _ _ _ Z Z Z Z Z (fun _=> Z) Z Z fun G V Q U O D=> by have a0 : Q 31 = .bool x60.1 := D 0 _ _ _ Z Z Z Z G; exact of_pick x60.1 a0 (fun hc=> by show _ = Value.bool x66; rw [q67, hc]; exact Z) (fun hc=> by have a2 : Q 39 = .bool x64 := D 1 _ _ _ Z Z Z Z (g_and G (beq_of hc)); show _ = Value.bool x66; rw [q67, hc]; exact a2)) <| rp (fun V Q U O D=> of_pick (decide ((y51.length : Int) < 3)) (D.g 0 Z) (fun hc=> by have a1 : Q 40 = .bool x66 := D 1 _ _ _ Z Z Z Z (g_and Z (beq_of hc)); show _ = Value.bool x68; rw [q69, hc]; exact a1) (fun hc=> by show _ = Value.bool x68; rw [q69, hc]; exact Z)) <| rz
 intro done ρ σ A R w y s
 obtain ⟨h0, h2, h3, h4, h5, h6⟩ := k6 s.rg h0 h2 h3 h4 h5 h6
 have z70 := s.inivR 0 Z
 have z71 := s.inivR 1 Z
 have z72 := s.inivR 2 Z
 have z73 := s.inivR 3 Z
 have eS_u2 := s.inisR 1 Z
 have eS_u21 := s.inisR 2 Z
 have eS_u43 := s.inisR 3 Z
 have h41 := s.r y 17 Z
 replace B := s.lowK B C K (q.geK (⟨.inr (fun k h => .inr h), ⟨fun _ h => .inl h, ⟨fun _ h => .inl h, ⟨fun _ h => .inl h, N⟩⟩⟩⟩))
 replace j : Ch (ownsB (.pointer (some ⟨b0, 0, none⟩))) w0 w := j.tr s.ch (q.geK (⟨.inr (fun k h => .inr h), ⟨fun _ h => .inl h, ⟨fun _ h => .inl h, ⟨fun _ h => .inl h, N⟩⟩⟩⟩))
 replace q := s.left y [(0, ob (.pointer (some ⟨b0, 0, none⟩)) (.box B0 110 E_spec_l1Cur x60.2)), (1, ⟨u2, S3, trR (geB w0.heap.size) (oPt 29 (oBx (oSl 79 (oBx (oSl 82 (oRd E_impl_Test)))))) ([] : List T_impl_Rule) []⟩), (2, ⟨u21, Sl_u21, trR (geB w0.heap.size) (oPt 29 (oBx (oSl 79 (oBx (oSl 82 (oRd E_impl_Test)))))) y38 []⟩), (3, ⟨u43, Sl_u43, trR (geB w0.heap.size) (oPt 79 (oBx (oSl 82 (oRd E_impl_Test)))) y51 [(u43, [h62])]⟩)] ⟨Z, Z, z70, Z, Z, ⟨Z, Z, z71, eS_u2, Z, ⟨Z, Z, z72, eS_u21, Z, ⟨Z, Z, z73, eS_u43, Z, N⟩⟩⟩⟩
 replace d := s.avok
 replace q : IniOK [ob (.pointer (some ⟨b0, 0, none⟩)) (.box B0 110 E_spec_l1Cur x60.2), ⟨u2, S3, trR (geB w0.heap.size) (oPt 29 (oBx (oSl 79 (oBx (oSl 82 (oRd E_impl_Test)))))) ([] : List T_impl_Rule) []⟩, ⟨u21, Sl_u21, trR (geB w0.heap.size) (oPt 29 (oBx (oSl 79 (oBx (oSl 82 (oRd E_impl_Test)))))) y38 []⟩, ⟨u43, Sl_u43, trR (geB w0.heap.size) (oPt 79 (oBx (oSl 82 (oRd E_impl_Test)))) y51 []⟩] A w := q.repin 3 Z trP.nopin
 refine SG.fin Z ?_
 refine HT.cond x68 h41 (fun c74 => ?_) (fun c74 => ?_)
 have c := cnd_t c74 c
 obtain ⟨h75, p_h75⟩ := (((tr_root (q.own 3 _ Z).2).ptr).bx).open1 Z
 replace q : IniOK [ob (.pointer (some ⟨b0, 0, none⟩)) (.box B0 110 E_spec_l1Cur x60.2), ⟨u2, S3, trR (geB w0.heap.size) (oPt 29 (oBx (oSl 79 (oBx (oSl 82 (oRd E_impl_Test)))))) ([] : List T_impl_Rule) []⟩, ⟨u21, Sl_u21, trR (geB w0.heap.size) (oPt 29 (oBx (oSl 79 (oBx (oSl 82 (oRd E_impl_Test)))))) y38 []⟩, ⟨u43, Sl_u43, trR (geB w0.heap.size) (oPt 79 (oBx (oSl 82 (oRd E_impl_Test)))) y51 [(u43, [h75])]⟩] A w := q.repin 3 Z (trP.pin p_h75)
 obtain ⟨x77, q78, c⟩ := cl_some c
 obtain ⟨x79, q80, c⟩ := cl_some c
 obtain ⟨e81, c⟩ := ck_some c
 refine HT.drawR [ob (.pointer (some ⟨b0, 0, none⟩)) (.box B0 110 E_spec_l1Cur x60.2), ⟨u2, S3, trR (geB w0.heap.size) (oPt 29 (oBx (oSl 79 (oBx (oSl 82 (oRd E_impl_Test)))))) ([] : List T_impl_Rule) []⟩, ⟨u21, Sl_u21, trR (geB w0.heap.size) (oPt 29 (oBx (oSl 79 (oBx (oSl 82 (oRd E_impl_Test)))))) y38 []⟩, ⟨u43, Sl_u43, trR (geB w0.heap.size) (oPt 79 (oBx (oSl 82 (oRd E_impl_Test)))) y51 [(u43, [h75])]⟩] (rR u43 :: rR h75 :: rI y49 :: rR (.pointer (some ⟨b0, 0, none⟩)) :: (rF fun A => .rep (eSl (eInt .i64)) A ([500, 700, 800, 1000] : List Int)) :: ⟨_, true, [0], some (.box B0 110 E_spec_l1Cur x77.2), false, fun A => .raw (.int .i64 x77.1)⟩ :: rR (.pointer (some ⟨b0, 0, none⟩)) :: ⟨_, true, [9], some (.box B0 110 E_spec_l1Cur x79.2), false, fun A => .raw (.bool x79.1)⟩ :: (rF fun A => .rep E_impl_Test A (y49, x77.1, x79.1)) :: (rF fun A => .rep (eSl E_impl_Test) A ([(y49, x77.1, x79.1)] : List T_impl_Test)) :: ⟨_, true, [3], some (.gen (geB w0.heap.size) (pdP (oSl 82 (oRd E_impl_Test)) u43 (fun z A w S => (trP (oPt 79 (oBx (oSl 82 (oRd E_impl_Test)))) z []).P A w S u43) (y51 ++ ([(y49, x77.1, x79.1)] : List T_impl_Test)))), true, fun A => .any⟩ :: rR u43 :: ⟨_, true, [14], some (.gen (geB w0.heap.size) (fixP u43 (trP (oPt 79 (oBx (oSl 82 (oRd E_impl_Test)))) (y51 ++ ([(y49, x77.1, x79.1)] : List T_impl_Test)) []))), false, fun A => .any⟩ :: []) (by kernel_rfl) (by kernel_rfl) (by kernel_rfl) (Wf.mk' (by kernel_rfl) (ur (ur (ur (ur (up (ur (ur (ur (up (up (ua (ur (ua (UAll.nil)))))))))))))) (by kernel_rfl) (by kernel_rfl)) q d ?_ ?_
 exact rp (fun V Q U O D=> of_fieldAddr_tr ((tr_root (q.own 3 _ Z).2).ptr).ad ((O.old 5 Z).trans h5) ff_79_0 Try.sizeOf65 (by decide) (padd_zero ((tr_root (q.own 3 _ Z).2).ptr).ad)) <| rp (fun V Q U O D=> of_load_pin ((O.rdo 3 _ Z Z).2.2 _ (.head _)) (D.g 0 Z) Try.isAgg65 Try.sizeOf65) <| rm h6 <| rm h0 <| rp (fun V Q U O D=> of_build [_, _, _, _] (E := eInt .i64) ⟨(rep_int.eq Z), ⟨(rep_int.eq Z), ⟨(rep_int.eq Z), ⟨(rep_int.eq Z), N⟩⟩⟩⟩ Try.underlying33 Try.sizeOf3 Try.zeroValue3 Z Z Z O.av) <| rc (OblR.took 0 _ _ Z Z Z Z Z fun V Q U O D u X Y J L M=> by have a0 : Q 45 = (.pointer (some ⟨b0, 0, none⟩)) := D.g 0 Z; have a1 : Rep (eSl (eInt .i64)) V U (Q 46) ([500, 700, 800, 1000] : List Int) := D.g 1 Z; have e0 := J _ Z; rw [e0] at X Y ⊢; exact took_G Try.call81 X Y O.av (fun s=> M_spec_l1PickInt_ok (q78 Z) O.av a0 s a1)) <| rm h0 <| rc (OblR.tookN 9 _ _ Z Z Z Z Z fun V Q U O D u S X I Y J L M hrt=> by have a0 : Q 48 = (.pointer (some ⟨b0, 0, none⟩)) := D.g 0 Z; obtain rfl := (Res.own_iff Z).1 I; have e0 := hrt 14 0 _ Z Z; rw [e0] at X Y ⊢; exact OpR.took (took_G Try.call101 X Y O.av (fun s=> M_spec_l1Once_ok (q80 Z) O.av a0 s Z)) Z) <| rp (fun V Q U O D=> by have a0 : Q 44 = .int .i64 y49 := D.g 0 Z; have a1 : Q 47 = .int .i64 x77.1 := D.g 1 Z; have a2 : Q 49 = .bool x79.1 := D.g 2 Z; exact of_build_raw (v := .agg #[.int .i64 y49, .int .i64 x77.1, .bool x79.1]) (by simp [execOp, Instr.build, evalR, a0, a1, a2, underlying, Try.underlying82, Try.zeroValue82, Try.sizeOf3, Try.sizeOf4, go_sem, Instr.fill]) ⟨_, Z, rep_pr rep1_int (rep_pr rep1_int rep1_bool)⟩) <| rp (fun V Q U O D=> of_build [_] (E := E_impl_Test) ⟨(D.g 0 Z), N⟩ Try.underlying65 Try.sizeOf82 Try.zeroValue82 Z Z Z O.av) <| rc (OblR.tookS 3 _ _ Z Z Z Z Z fun V Q U O D u S X I Y J L M=> by have a0 : Q 43 = h75 := D.g 0 Z; have a1 : Rep (eSl E_impl_Test) V U (Q 51) ([(y49, x77.1, x79.1)] : List T_impl_Test) := D.g 1 Z; have e0 := (J _ Z).1; rw [e0] at I ⊢; exact took_appendP ((tr_root I.2).ptr).bx (I.2.2 _ (.head _)) a0 Y I.1 (fun k hk=> Nat.le_trans (Nat.le_trans j.size O.ch.size) hk) (fun k hk=> SP.lt _ I.2 hk) a1 Try.underlying65 el_82 e81) <| rp (fun V Q U O D=> of_fieldAddr_tr ((tr_root (q.own 3 _ Z).2).ptr).ad ((O.old 5 Z).trans h5) ff_79_0 Try.sizeOf65 (by decide) (padd_zero ((tr_root (q.own 3 _ Z).2).ptr).ad)) <| rc (OblR.tookS 14 _ _ Z Z Z Z Z fun V Q U O D u S X I Y J L M=> by have a0 : Q 53 = u43 := D.g 0 Z; exact took_putP I.2 (L _ _ Z Z Z Z).symm a0 Y I.1 Try.sizeOf65 (fun _ _ _ h=> h)) <| rz
 intro done ρ σ A R w y s
 obtain ⟨h0, h2, h3, h4, h5, h6⟩ := k6 s.rg h0 h2 h3 h4 h5 h6
 have z82 := s.inivR 0 Z
 have z83 := s.on y 9 5 Z Z Z Z Z z82
 have z84 := s.on y 11 7 Z Z Z Z Z z83
 have z85 := s.inivR 1 Z
 have z86 := s.inivR 2 Z
 obtain ⟨u87, e_u87⟩ : ∃ u, ρ 16 = u := ⟨_, Z⟩
 have eS_u2 := s.inisR 1 Z
 have eS_u21 := s.inisR 2 Z
 obtain ⟨S88, eS_u43⟩ : ∃ S, σ 16 = S := ⟨_, Z⟩
 replace B := s.lowK B C K (q.geK (⟨.inr (fun k h => .inr h), ⟨fun _ h => .inl h, ⟨fun _ h => .inl h, ⟨fun _ h => .inl h, N⟩⟩⟩⟩))
 replace j : Ch (ownsB (.pointer (some ⟨b0, 0, none⟩))) w0 w := j.tr s.ch (q.geK (⟨.inr (fun k h => .inr h), ⟨fun _ h => .inl h, ⟨fun _ h => .inl h, ⟨fun _ h => .inl h, N⟩⟩⟩⟩))
 replace q := s.left y [(11, ob (.pointer (some ⟨b0, 0, none⟩)) (.box B0 110 E_spec_l1Cur x79.2)), (1, ⟨u2, S3, trR (geB w0.heap.size) (oPt 29 (oBx (oSl 79 (oBx (oSl 82 (oRd E_impl_Test)))))) ([] : List T_impl_Rule) []⟩), (2, ⟨u21, Sl_u21, trR (geB w0.heap.size) (oPt 29 (oBx (oSl 79 (oBx (oSl 82 (oRd E_impl_Test)))))) y38 []⟩), (16, ⟨u87, S88, .gen (geB w0.heap.size) (fixP u43 (trP (oPt 79 (oBx (oSl 82 (oRd E_impl_Test)))) (y51 ++ ([(y49, x77.1, x79.1)] : List T_impl_Test)) []))⟩)] ⟨Z, Z, z84, Z, Z, ⟨Z, Z, z85, eS_u2, Z, ⟨Z, Z, z86, eS_u21, Z, ⟨Z, Z, e_u87, eS_u43, Z, N⟩⟩⟩⟩
 replace d := s.avok
 replace q : IniOK [ob (.pointer (some ⟨b0, 0, none⟩)) (.box B0 110 E_spec_l1Cur x79.2), ⟨u2, S3, trR (geB w0.heap.size) (oPt 29 (oBx (oSl 79 (oBx (oSl 82 (oRd E_impl_Test)))))) ([] : List T_impl_Rule) []⟩, ⟨u21, Sl_u21, trR (geB w0.heap.size) (oPt 29 (oBx (oSl 79 (oBx (oSl 82 (oRd E_impl_Test)))))) y38 []⟩, ⟨u43, S88, trR (geB w0.heap.size) (oPt 79 (oBx (oSl 82 (oRd E_impl_Test)))) (y51 ++ ([(y49, x77.1, x79.1)] : List T_impl_Test)) []⟩] A w := q.refix 3 Z
 obtain ⟨e89, c⟩ := ck_some c
 refine HT.t (eI y49 :: eI (y49 + 1) :: eI (y49 + 1) :: []) ?_ ?_
 exact om h6 <| op (fun Q U W H D=> of_add (D.g 0 Z) Z e89) <| oa <| oz
 intro R w m n p
 obtain ⟨h0, h2, h3, h4, h5⟩ := k5 n h0 h2 h3 h4 h5
 have h6 := p.r 2 Z
 replace q := q.fr m
 replace d := d.fr m.size
 replace j := j.tr (m.ch noB) fun _ h => False.elim h
 exact ei k (And.intro (Nat.lt_succ_self k) ⟨_, _, _, _, S88, c, d, j, B, q, h0, h2, h3, h4, h5, h6⟩)
 have c := cnd_f c74 c
 refine HT.skip ?_
 obtain ⟨e90, c⟩ := ck_some c
 refine HT.t (eI y49 :: eI (y49 + 1) :: eI (y49 + 1) :: []) ?_ ?_
 exact om h6 <| op (fun Q U W H D=> of_add (D.g 0 Z) Z e90) <| oa <| oz
 intro R w m n p
 obtain ⟨h0, h2, h3, h4, h5⟩ := k5 n h0 h2 h3 h4 h5
 have h6 := p.r 2 Z
 replace q := q.fr m
 replace d := d.fr m.size
 replace j := j.tr (m.ch noB) fun _ h => False.elim h
 exact ei k (And.intro (Nat.lt_succ_self k) ⟨_, _, _, _, Sl_u43, c, d, j, B, q, h0, h2, h3, h4, h5, h6⟩)
 have c := cnd_f c59 c
 refine SG.skip 29 4 28 true Z Z Z Z (h28.trans (congrArg Value.bool c59)) Z Z ?_
 rintro R n hd
 have hst : Stp A A w w := (Fr.refl w).stp A
 replace h0 := (n 0 Z).trans h0
 replace h2 := (n 2 Z).trans h2
 replace h3 := (n 3 Z).trans h3
 replace h4 := (n 4 Z).trans h4
 replace h5 := (n 5 Z).trans h5
 replace h6 := (n 6 Z).trans h6
 replace h28 := (n 28 Z).trans h28
 have h29 : R 29 = undef := hd
 clear n hd hst
 refine SG.skip 30 4 28 true Z Z Z Z (h28.trans (congrArg Value.bool c59)) Z Z ?_
 rintro R n hd
 have hst : Stp A A w w := (Fr.refl w).stp A
 replace h0 := (n 0 Z).trans h0
 replace h2 := (n 2 Z).trans h2
 replace h3 := (n 3 Z).trans h3
 replace h4 := (n 4 Z).trans h4
 replace h5 := (n 5 Z).trans h5
 replace h6 := (n 6 Z).trans h6
 replace h28 := (n 28 Z).trans h28
 replace h29 := (n 29 Z).trans h29
 have h30 : R 30 = undef := hd
 clear n hd hst
 refine SG.skip 31 4 28 true Z Z Z Z (h28.trans (congrArg Value.bool c59)) Z Z ?_
 rintro R n hd
 have hst : Stp A A w w := (Fr.refl w).stp A
 replace h0 := (n 0 Z).trans h0
 replace h2 := (n 2 Z).trans h2
 replace h3 := (n 3 Z).trans h3
 replace h4 := (n 4 Z).trans h4
 replace h5 := (n 5 Z).trans h5
 replace h6 := (n 6 Z).trans h6
 replace h28 := (n 28 Z).trans h28
 replace h30 := (n 30 Z).trans h30
 have h31 : R 31 = undef := hd
 clear n hd hst
 refine SG.skipU 32 7 31 false Z Z Z Z h31 Z Z ?_
 rintro R n hd
 have hst : Stp A A w w := (Fr.refl w).stp A
 replace h0 := (n 0 Z).trans h0
 replace h2 := (n 2 Z).trans h2
 replace h3 := (n 3 Z).trans h3
 replace h4 := (n 4 Z).trans h4
 replace h5 := (n 5 Z).trans h5
 replace h6 := (n 6 Z).trans h6
 replace h28 := (n 28 Z).trans h28
 replace h31 := (n 31 Z).trans h31
 have h32 : R 32 = undef := hd
 clear n hd hst
 refine SG.skipU 33 7 31 false Z Z Z Z h31 Z Z ?_
 rintro R n hd
 have hst : Stp A A w w := (Fr.refl w).stp A
 replace h0 := (n 0 Z).trans h0
 replace h2 := (n 2 Z).trans h2
 replace h3 := (n 3 Z).trans h3
 replace h4 := (n 4 Z).trans h4
 replace h5 := (n 5 Z).trans h5
 replace h6 := (n 6 Z).trans h6
 replace h28 := (n 28 Z).trans h28
 replace h31 := (n 31 Z).trans h31
 replace h32 := (n 32 Z).trans h32
 have h33 : R 33 = undef := hd
 clear n hd hst
 refine SG.skipU 34 7 31 false Z Z Z Z h31 Z Z ?_
 rintro R n hd
 have hst : Stp A A w w := (Fr.refl w).stp A
 replace h0 := (n 0 Z).trans h0
 replace h2 := (n 2 Z).trans h2
 replace h3 := (n 3 Z).trans h3
 replace h4 := (n 4 Z).trans h4
 replace h5 := (n 5 Z).trans h5
 replace h6 := (n 6 Z).trans h6
 replace h28 := (n 28 Z).trans h28
 replace h31 := (n 31 Z).trans h31
 replace h33 := (n 33 Z).trans h33
 have h34 : R 34 = undef := hd
 clear n hd hst
 refine SG.skipU 35 10 34 true Z Z Z Z h34 Z Z ?_
 rintro R n hd
 have hst : Stp A A w w := (Fr.refl w).stp A
 replace h0 := (n 0 Z).trans h0
 replace h2 := (n 2 Z).trans h2
 replace h3 := (n 3 Z).trans h3
 replace h4 := (n 4 Z).trans h4
 replace h5 := (n 5 Z).trans h5
 replace h6 := (n 6 Z).trans h6
 replace h28 := (n 28 Z).trans h28
 replace h31 := (n 31 Z).trans h31
 replace h34 := (n 34 Z).trans h34
 have h35 : R 35 = undef := hd
 clear n hd hst
 refine SG.skipU 36 10 34 true Z Z Z Z h34 Z Z ?_
 rintro R n hd
 have hst : Stp A A w w := (Fr.refl w).stp A
 replace h0 := (n 0 Z).trans h0
 replace h2 := (n 2 Z).trans h2
 replace h3 := (n 3 Z).trans h3
 replace h4 := (n 4 Z).trans h4
 replace h5 := (n 5 Z).trans h5
 replace h6 := (n 6 Z).trans h6
 replace h28 := (n 28 Z).trans h28
 replace h31 := (n 31 Z).trans h31
 replace h34 := (n 34 Z).trans h34
 replace h35 := (n 35 Z).trans h35
 have h36 : R 36 = undef := hd
 clear n hd hst
 refine SG.skipU 37 10 34 true Z Z Z Z h34 Z Z ?_
 rintro R n hd
 have hst : Stp A A w w := (Fr.refl w).stp A
 replace h0 := (n 0 Z).trans h0
 replace h2 := (n 2 Z).trans h2
 replace h3 := (n 3 Z).trans h3
 replace h4 := (n 4 Z).trans h4
 replace h5 := (n 5 Z).trans h5
 replace h6 := (n 6 Z).trans h6
 replace h28 := (n 28 Z).trans h28
 replace h31 := (n 31 Z).trans h31
 replace h34 := (n 34 Z).trans h34
 replace h36 := (n 36 Z).trans h36
 have h37 : R 37 = undef := hd
 clear n hd hst
 refine SG.skipU 38 10 34 true Z Z Z Z h34 Z Z ?_
 rintro R n hd
 have hst : Stp A A w w := (Fr.refl w).stp A
 replace h0 := (n 0 Z).trans h0
 replace h2 := (n 2 Z).trans h2
 replace h3 := (n 3 Z).trans h3
 replace h4 := (n 4 Z).trans h4
 replace h5 := (n 5 Z).trans h5
 replace h6 := (n 6 Z).trans h6
 replace h28 := (n 28 Z).trans h28
 replace h31 := (n 31 Z).trans h31
 replace h34 := (n 34 Z).trans h34
 replace h37 := (n 37 Z).trans h37
 have h38 : R 38 = undef := hd
 clear n hd hst
 refine SG.skipU 39 7 31 false Z Z Z Z h31 Z Z ?_
 rintro R n hd
 have hst : Stp A A w w := (Fr.refl w).stp A
 replace h0 := (n 0 Z).trans h0
 replace h2 := (n 2 Z).trans h2
 replace h3 := (n 3 Z).trans h3
 replace h4 := (n 4 Z).trans h4
 replace h5 := (n 5 Z).trans h5
 replace h6 := (n 6 Z).trans h6
 replace h28 := (n 28 Z).trans h28
 replace h31 := (n 31 Z).trans h31
 replace h34 := (n 34 Z).trans h34
 replace h38 := (n 38 Z).trans h38
 have h39 : R 39 = undef := hd
 clear n hd hst
 refine SG.skip 40 4 28 true Z Z Z Z (h28.trans (congrArg Value.bool c59)) Z Z ?_
 rintro R n hd
 have hst : Stp A A w w := (Fr.refl w).stp A
 replace h0 := (n 0 Z).trans h0
 replace h2 := (n 2 Z).trans h2
 replace h3 := (n 3 Z).trans h3
 replace h4 := (n 4 Z).trans h4
 replace h5 := (n 5 Z).trans h5
 replace h6 := (n 6 Z).trans h6
 replace h28 := (n 28 Z).trans h28
 replace h31 := (n 31 Z).trans h31
 replace h39 := (n 39 Z).trans h39
 have h40 : R 40 = undef := hd
 clear n hd hst
 refine SG.textR [ob (.pointer (some ⟨b0, 0, none⟩)) (.box B0 110 E_spec_l1Cur y50), ⟨u2, S3, trR (geB w0.heap.size) (oPt 29 (oBx (oSl 79 (oBx (oSl 82 (oRd E_impl_Test)))))) ([] : List T_impl_Rule) []⟩, ⟨u21, Sl_u21, trR (geB w0.heap.size) (oPt 29 (oBx (oSl 79 (oBx (oSl 82 (oRd E_impl_Test)))))) y38 []⟩, ⟨u43, Sl_u43, trR (geB w0.heap.size) (oPt 79 (oBx (oSl 82 (oRd E_impl_Test)))) y51 []⟩] (rA :: rA :: rA :: rA :: rB (decide ((y51.length : Int) < 3)) :: rA :: rA :: rR undef :: rA :: rA :: rA :: rA :: rA :: rA :: rA :: rR undef :: rR undef :: rB false :: []) 18 Z Z Z (by kernel_rfl) (by kernel_rfl) (Wf.mk' (by kernel_rfl) (ua (ua (ua (ua (ur (ua (ua (ur (ua (ua (ua (ua (ua (ua (ua (ur (ur (ur (UAll.nil))))))))))))))))))) (by kernel_rfl) (by kernel_rfl)) q d (⟨⟨Z, Z, Z, N⟩, ⟨⟨Z, Z, Z, N⟩, ⟨⟨Z, Z, Z, N⟩, ⟨⟨Z, Z, Z, N⟩, ⟨⟨Z, Z, Z, h28⟩, ⟨⟨Z, Z, Z, N⟩, ⟨⟨Z, Z, Z, N⟩, ⟨⟨Z, Z, Z, h31⟩, ⟨⟨Z, Z, Z, N⟩, ⟨⟨Z, Z, Z, N⟩, ⟨⟨Z, Z, Z, N⟩, ⟨⟨Z, Z, Z, N⟩, ⟨⟨Z, Z, Z, N⟩, ⟨⟨Z, Z, Z, N⟩, ⟨⟨Z, Z, Z, N⟩, ⟨⟨Z, Z, Z, h39⟩, ⟨⟨Z, Z, Z, h40⟩, N⟩⟩⟩⟩⟩⟩⟩⟩⟩⟩⟩⟩⟩⟩⟩⟩⟩) ?_ ?_
 exact rp (fun V Q U O D=> of_pick (decide ((y51.length : Int) < 3)) (D.g 0 Z) (fun hc=> by rw [c59] at hc; cases hc) (fun hc=> Z)) <| rz
 intro done ρ σ A R w y s
 obtain ⟨h0, h2, h3, h4, h5, h6⟩ := k6 s.rg h0 h2 h3 h4 h5 h6
 have z91 := s.inivR 0 Z
 have z92 := s.inivR 1 Z
 have z93 := s.inivR 2 Z
 have z94 := s.inivR 3 Z
 have eS_u2 := s.inisR 1 Z
 have eS_u21 := s.inisR 2 Z
 have eS_u43 := s.inisR 3 Z
 have h41 := s.r y 17 Z
 replace B := s.lowK B C K (q.geK (⟨.inr (fun k h => .inr h), ⟨fun _ h => .inl h, ⟨fun _ h => .inl h, ⟨fun _ h => .inl h, N⟩⟩⟩⟩))
 replace j : Ch (ownsB (.pointer (some ⟨b0, 0, none⟩))) w0 w := j.tr s.ch (q.geK (⟨.inr (fun k h => .inr h), ⟨fun _ h => .inl h, ⟨fun _ h => .inl h, ⟨fun _ h => .inl h, N⟩⟩⟩⟩))
 replace q := s.left y [(0, ob (.pointer (some ⟨b0, 0, none⟩)) (.box B0 110 E_spec_l1Cur y50)), (1, ⟨u2, S3, trR (geB w0.heap.size) (oPt 29 (oBx (oSl 79 (oBx (oSl 82 (oRd E_impl_Test)))))) ([] : List T_impl_Rule) []⟩), (2, ⟨u21, Sl_u21, trR (geB w0.heap.size) (oPt 29 (oBx (oSl 79 (oBx (oSl 82 (oRd E_impl_Test)))))) y38 []⟩), (3, ⟨u43, Sl_u43, trR (geB w0.heap.size) (oPt 79 (oBx (oSl 82 (oRd E_impl_Test)))) y51 []⟩)] ⟨Z, Z, z91, Z, Z, ⟨Z, Z, z92, eS_u2, Z, ⟨Z, Z, z93, eS_u21, Z, ⟨Z, Z, z94, eS_u43, Z, N⟩⟩⟩⟩
 replace d := s.avok
 refine SG.fin Z ?_
 refine HT.cond false h41 (fun k_ => (by cases k_)) (fun _ => ?_)
 refine HT.skip ?_
 obtain ⟨e96, c⟩ := ck_some c
 refine HT.t (eI y49 :: eI (y49 + 1) :: eI (y49 + 1) :: []) ?_ ?_
 exact om h6 <| op (fun Q U W H D=> of_add (D.g 0 Z) Z e96) <| oa <| oz
 intro R w m n p
 obtain ⟨h0, h2, h3, h4, h5⟩ := k5 n h0 h2 h3 h4 h5
 have h6 := p.r 2 Z
 replace q := q.fr m
 replace d := d.fr m.size
 replace j := j.tr (m.ch noB) fun _ h => False.elim h
 exact ei k (And.intro (Nat.lt_succ_self k) ⟨_, _, _, _, Sl_u43, c, d, j, B, q, h0, h2, h3, h4, h5, h6⟩)
 have c := cnd_f c52 c
 refine HT.exit ?_
 obtain rfl := si c
 exact ei _ ⟨_, Sl_u43, Z, d, j, B, q, h0, h2, h3, h4, h5⟩
 rintro R w ⟨A, s48, So_u43, es, d, j, B, q, h0, h2, h3, h4, h5⟩
 obtain rfl := es.symm
 obtain ⟨h97, p_h97⟩ := (((tr_root (q.own 2 _ Z).2).ptr).bx).open1 Z
 replace q : IniOK [ob (.pointer (some ⟨b0, 0, none⟩)) (.box B0 110 E_spec_l1Cur s48.1), ⟨u2, S3, trR (geB w0.heap.size) (oPt 29 (oBx (oSl 79 (oBx (oSl 82 (oRd E_impl_Test)))))) ([] : List T_impl_Rule) []⟩, ⟨u21, Sl_u21, trR (geB w0.heap.size) (oPt 29 (oBx (oSl 79 (oBx (oSl 82 (oRd E_impl_Test)))))) y38 [(u21, [h97])]⟩, ⟨u43, So_u43, trR (geB w0.heap.size) (oPt 79 (oBx (oSl 82 (oRd E_impl_Test)))) s48.2 []⟩] A w := q.repin 2 Z (trP.pin p_h97)
 obtain ⟨e99, c⟩ := ck_some c
 refine HT.x [ob (.pointer (some ⟨b0, 0, none⟩)) (.box B0 110 E_spec_l1Cur s48.1), ⟨u2, S3, trR (geB w0.heap.size) (oPt 29 (oBx (oSl 79 (oBx (oSl 82 (oRd E_impl_Test)))))) ([] : List T_impl_Rule) []⟩, ⟨u21, Sl_u21, trR (geB w0.heap.size) (oPt 29 (oBx (oSl 79 (oBx (oSl 82 (oRd E_impl_Test)))))) y38 [(u21, [h97])]⟩, ⟨u43, So_u43, trR (geB w0.heap.size) (oPt 79 (oBx (oSl 82 (oRd E_impl_Test)))) s48.2 []⟩] (rR u21 :: rR h97 :: ⟨_, true, [3], some (trR (geB w0.heap.size) (oBx (oSl 82 (oRd E_impl_Test))) s48.2 []), true, fun A => .any⟩ :: ⟨_, true, [6], some (trR (geB w0.heap.size) (oSl 79 (oBx (oSl 82 (oRd E_impl_Test)))) ([s48.2] : List T_impl_Rule) []), true, fun A => .any⟩ :: ⟨_, true, [2, 7], some (.gen (geB w0.heap.size) (pdP (oSl 79 (oBx (oSl 82 (oRd E_impl_Test)))) u21 (fun z A w S => (trP (oPt 29 (oBx (oSl 79 (oBx (oSl 82 (oRd E_impl_Test)))))) z []).P A w S u21) (y38 ++ [s48.2]))), true, fun A => .any⟩ :: rR u21 :: ⟨_, true, [8], some (.gen (geB w0.heap.size) (fixP u21 (trP (oPt 29 (oBx (oSl 79 (oBx (oSl 82 (oRd E_impl_Test)))))) (y38 ++ [s48.2]) []))), false, fun A => .any⟩ :: []) (ur (ur (ua (ua (ua (ur (ua (UAll.nil)))))))) q d ?_ ?_
 exact rp (fun V Q U O D=> of_fieldAddr_tr ((tr_root (q.own 2 _ Z).2).ptr).ad ((O.old 3 Z).trans h3) ff_29_0 Try.sizeOf27 (by decide) (padd_zero ((tr_root (q.own 2 _ Z).2).ptr).ad)) <| rp (fun V Q U O D=> of_load_pin ((O.rdo 2 _ Z Z).2.2 _ (.head _)) (D.g 0 Z) Try.isAgg27 Try.sizeOf27) <| rc (OblR.tookS 3 _ _ Z Z Z Z Z fun V Q U O D u S X I Y J L M=> by have a0 : Q 5 = u43 := (O.old 5 Z).trans h5; exact took_loadT I.2 (a0.trans (J _ Z).1.symm) Y I.1 Try.isAgg79 Try.sizeOf79) <| rc (OblR.tookS 6 _ _ Z Z Z Z Z fun V Q U O D u S X I Y J L M=> by exact took_buildT I.2 (L _ _ Z Z Z Z).symm Y I.1 (fun k hk=> Nat.le_trans (Nat.le_trans j.size O.ch.size) hk) Try.underlying27 Try.sizeOf79 Try.zeroValue79 (by decide)) <| rc (OblR.tookM 2 [7] _ Z Z Z Z fun V Q U O D ρ σ X Y J L M hdd=> by have a0 : Q 55 = h97 := D.g 0 Z; have k1 := X 2 (.head _) _ Z; have e0 := (J 2 (.head _) _ Z).1; rw [e0] at k1 ⊢; exact took_appendPT Z ((tr_root k1.2.2).ptr).bx (k1.2.2.2 _ (.head _)) a0 (trP.nopin (X 7 (.tail _ (.head _)) _ Z).2.2) (L 7 (.tail _ (.head _)) _ _ Z Z Z Z).symm Y hdd k1.2.1 (X 7 (.tail _ (.head _)) _ Z).2.1 (fun k hk=> Nat.le_trans (Nat.le_trans j.size O.ch.size) hk) (fun k hk=> SP.lt _ k1.2.2 hk) Try.underlying27 el_79 e99) <| rp (fun V Q U O D=> of_fieldAddr_tr ((tr_root (q.own 2 _ Z).2).ptr).ad ((O.old 3 Z).trans h3) ff_29_0 Try.sizeOf27 (by decide) (padd_zero ((tr_root (q.own 2 _ Z).2).ptr).ad)) <| rc (OblR.tookS 8 _ _ Z Z Z Z Z fun V Q U O D u S X I Y J L M=> by have a0 : Q 59 = u21 := D.g 0 Z; exact took_putP I.2 (L _ _ Z Z Z Z).symm a0 Y I.1 Try.sizeOf27 (fun _ _ _ h=> h)) <| rz
 intro done ρ σ A R w y s
 obtain ⟨h0, h2, h3, h4⟩ := k4 s.rg h0 h2 h3 h4
 have z100 := s.inivR 0 Z
 have z101 := s.inivR 1 Z
 obtain ⟨u102, e_u102⟩ : ∃ u, ρ 10 = u := ⟨_, Z⟩
 have eS_u2 := s.inisR 1 Z
 obtain ⟨S103, eS_u21⟩ : ∃ S, σ 10 = S := ⟨_, Z⟩
 replace B := s.lowK B C K (q.geK (⟨.inr (fun k h => .inr h), ⟨fun _ h => .inl h, ⟨fun _ h => .inl h, ⟨fun _ h => .inl h, N⟩⟩⟩⟩))
 replace j : Ch (ownsB (.pointer (some ⟨b0, 0, none⟩))) w0 w := j.tr s.ch (q.geK (⟨.inr (fun k h => .inr h), ⟨fun _ h => .inl h, ⟨fun _ h => .inl h, ⟨fun _ h => .inl h, N⟩⟩⟩⟩))
 replace q := s.left y [(0, ob (.pointer (some ⟨b0, 0, none⟩)) (.box B0 110 E_spec_l1Cur s48.1)), (1, ⟨u2, S3, trR (geB w0.heap.size) (oPt 29 (oBx (oSl 79 (oBx (oSl 82 (oRd E_impl_Test)))))) ([] : List T_impl_Rule) []⟩), (10, ⟨u102, S103, .gen (geB w0.heap.size) (fixP u21 (trP (oPt 29 (oBx (oSl 79 (oBx (oSl 82 (oRd E_impl_Test)))))) (y38 ++ [s48.2]) []))⟩)] ⟨Z, Z, z100, Z, Z, ⟨Z, Z, z101, eS_u2, Z, ⟨Z, Z, e_u102, eS_u21, Z, N⟩⟩⟩
 replace d := s.avok
 replace q : IniOK [ob (.pointer (some ⟨b0, 0, none⟩)) (.box B0 110 E_spec_l1Cur s48.1), ⟨u2, S3, trR (geB w0.heap.size) (oPt 29 (oBx (oSl 79 (oBx (oSl 82 (oRd E_impl_Test)))))) ([] : List T_impl_Rule) []⟩, ⟨u21, S103, trR (geB w0.heap.size) (oPt 29 (oBx (oSl 79 (oBx (oSl 82 (oRd E_impl_Test)))))) (y38 ++ [s48.2]) []⟩] A w := q.refix 2 Z
 obtain ⟨e104, c⟩ := ck_some c
 refine HT.t (eI y36 :: eI (y36 - 1) :: eI (y36 - 1) :: []) ?_ ?_
 exact om h4 <| op (fun Q U W H D=> of_sub (D.g 0 Z) Z e104) <| oa <| oz
 intro R w m n p
 obtain ⟨h0, h2, h3⟩ := k3 n h0 h2 h3
 have h4 := p.r 2 Z
 replace q := q.fr m
 replace d := d.fr m.size
 replace j := j.tr (m.ch noB) fun _ h => False.elim h
 exact ei k (And.intro (Nat.lt_succ_self k) ⟨_, _, _, _, S103, c, d, j, B, q, h0, h2, h3, h4⟩)
 have c := cnd_f c39 c
 refine HT.exit ?_
 obtain rfl := si c
 exact ei _ ⟨_, Sl_u21, Z, d, j, B, q, h2, h3⟩
 rintro R w ⟨A, s35, So_u21, es, d, j, B, q, h2, h3⟩
 obtain rfl := es.symm
 refine HT.sx [ob (.pointer (some ⟨b0, 0, none⟩)) (.box B0 110 E_spec_l1Cur s35.1), ⟨u2, S3, trR (geB w0.heap.size) (oPt 29 (oBx (oSl 79 (oBx (oSl 82 (oRd E_impl_Test)))))) ([] : List T_impl_Rule) []⟩, ⟨u21, So_u21, trR (geB w0.heap.size) (oPt 29 (oBx (oSl 79 (oBx (oSl 82 (oRd E_impl_Test)))))) s35.2 []⟩] (⟨_, true, [2], some (trR (geB w0.heap.size) (oBx (oSl 79 (oBx (oSl 82 (oRd E_impl_Test))))) s35.2 []), true, fun A => .any⟩ :: ⟨_, true, [1, 3], some (trR (geB w0.heap.size) (oPt 29 (oBx (oSl 79 (oBx (oSl 82 (oRd E_impl_Test)))))) s35.2 []), false, fun A => .any⟩ :: []) (ua (ua (UAll.nil))) q d ?_ ?_
 exact rc (OblR.tookS 2 _ _ Z Z Z Z Z fun V Q U O D u S X I Y J L M=> by have a0 : Q 3 = u21 := (O.old 3 Z).trans h3; exact took_loadT I.2 (a0.trans (J _ Z).1.symm) Y I.1 Try.isAgg29 Try.sizeOf29) <| rc (OblR.tookM 1 [3] _ Z Z Z Z fun V Q U O D ρ σ X Y J L M hdd=> by have a0 : Q 2 = u2 := (O.old 2 Z).trans h2; have k1 := X 1 (.head _) _ Z; have e0 := (J 1 (.head _) _ Z).1; rw [e0] at k1 ⊢; exact took_put2 Z (tr_root k1.2.2).ptr (X 3 (.tail _ (.head _)) _ Z).2.2.1 (L 3 (.tail _ (.head _)) _ _ Z Z Z Z).symm a0 Y hdd k1.2.1 (X 3 (.tail _ (.head _)) _ Z).2.1 Try.sizeOf29 (fun _ _ _ h=> h)) <| rz
 intro done ρ σ A R w y s
 replace h2 := k1 s.rg h2
 have z105 := s.inivR 0 Z
 have z106 := s.inivR 1 Z
 have z107 := s.on y 4 1 Z Z Z Z Z z106
 obtain ⟨S108, eS_u2⟩ : ∃ S, σ 4 = S := ⟨_, Z⟩
 replace B := s.lowK B C K (q.geK (⟨.inr (fun k h => .inr h), ⟨fun _ h => .inl h, ⟨fun _ h => .inl h, N⟩⟩⟩))
 replace j : Ch (ownsB (.pointer (some ⟨b0, 0, none⟩))) w0 w := j.tr s.ch (q.geK (⟨.inr (fun k h => .inr h), ⟨fun _ h => .inl h, ⟨fun _ h => .inl h, N⟩⟩⟩))
 replace q := s.left y [(0, ob (.pointer (some ⟨b0, 0, none⟩)) (.box B0 110 E_spec_l1Cur s35.1)), (4, ⟨u2, S108, trR (geB w0.heap.size) (oPt 29 (oBx (oSl 79 (oBx (oSl 82 (oRd E_impl_Test)))))) s35.2 []⟩)] ⟨Z, Z, z105, Z, Z, ⟨Z, Z, z107, eS_u2, Z, N⟩⟩
 replace d := s.avok
 refine HT.ret ?_
 obtain rfl := si c
 obtain ⟨v_2, S_2, e_2, q⟩ := q.unbox 1 Z h2 Try.isAgg29 Try.sizeOf29
 obtain ⟨A1, hA1, hG1⟩ := GPost.of q d B (q.geK (⟨.inr (fun k h => .inr h), ⟨fun _ h => .inl h, N⟩⟩)) j
 exact ⟨.inr Z, [v_2], ⟨e_2, N⟩, v_2, S_2, A1, hG1, Z⟩
def M_spec_l14Any (fu : Nat) (p0 : T_spec_l1Cur) : Option (T_impl_RuleSet × T_spec_l1Cur) :=
 cl true (M_spec_l14Rules fu p0) fun x5 =>
 cl true (M_spec_l1Below fu x5.2 14) fun x17 =>
 bif (x17.1 == 0) then (
 ck (inR 0 x5.1.length) <|
 cl true (M_spec_l1PickInt fu x17.2 ([(-1), 5, 6] : List Int)) fun x25 =>
 ck (inR 0 (gtD x5.1 0).length) <|
 some ((x5.1.set (0 : Int).toNat ((gtD x5.1 0).set (0 : Int).toNat (x25.1, (gtD (gtD x5.1 0) 0).2.1, (gtD (gtD x5.1 0) 0).2.2))), x25.2)
 ) else (
 bif (x17.1 == 1) then (
 ck (inR 0 x5.1.length) <|
 cl true (M_spec_l1PickInt fu x17.2 ([0, 1, 1001] : List Int)) fun x44 =>
 ck (inR 0 (gtD x5.1 0).length) <|
 some ((x5.1.set (0 : Int).toNat ((gtD x5.1 0).set (0 : Int).toNat ((gtD (gtD x5.1 0) 0).1, x44.1, (gtD (gtD x5.1 0) 0).2.2))), x44.2)
 ) else (
 bif (x17.1 == 2) then (
 ck (lenOK (x5.1.length + 1)) <|
 some ((x5.1 ++ [([] : List T_impl_Test)]), x17.2)
 ) else (
 some (x5.1, x17.2)
 )
 )
 )
set_option linter.unusedSimpArgs false in
theorem M_spec_l14Any_ok {fu : Nat} {Aq : Av} {p0 : T_spec_l1Cur} {r : T_impl_RuleSet × T_spec_l1Cur} (c : M_spec_l14Any fu p0 = some r) {w : World} {v0 : Value} {b0 B0 : Nat} (d : AvOK Aq w) (h0 : v0 = .pointer (some ⟨b0, 0, none⟩)) (hO0 : IniOK [ob (.pointer (some ⟨b0, 0, none⟩)) (.box B0 110 E_spec_l1Cur p0)] Aq w) :
 Calls Try.prog 49 #[v0] w fun e w' => ∃ v, e = .returned v ∧ (∃ (A1 : Av), GPost (subS Aq (ownsB (.pointer (some ⟨b0, 0, none⟩)))) (ownsB (.pointer (some ⟨b0, 0, none⟩))) w [ob (.pointer (some ⟨b0, 0, none⟩)) (.box B0 110 E_spec_l1Cur r.2)] A1 w' ∧ (Fact.rep E_impl_RuleSet A1 r.1).ok v w') := by
 unfold M_spec_l14Any at c
 obtain ⟨w0, hw0⟩ : ∃ w0, w0 = w := ⟨_, Z⟩
 have j : Ch (ownsB (.pointer (some ⟨b0, 0, none⟩))) w0 w := hw0 ▸ Ch.refl _ _
 obtain ⟨A0, hA0e⟩ : ∃ A0, A0 = subS Aq (ownsB (.pointer (some ⟨b0, 0, none⟩))) := ⟨_, Z⟩
 have C : ∀ b o, A0 b o → b < w0.heap.size := fun b o h => hw0 ▸ d b o (hA0e ▸ h : subS Aq _ b o).1
 have K : ∀ b o, A0 b o → ¬ (ownsB (.pointer (some ⟨b0, 0, none⟩))) b := fun b o h => (hA0e ▸ h : subS Aq _ b o).2
 have hA00 : AvOK A0 w0 := C
 rw [show GPost (subS Aq (ownsB (.pointer (some ⟨b0, 0, none⟩)))) (ownsB (.pointer (some ⟨b0, 0, none⟩))) w = GPost A0 (ownsB (.pointer (some ⟨b0, 0, none⟩))) w0 from by rw [hA0e, hw0]]
 obtain ⟨A, hAe⟩ : ∃ A, A = Aq := ⟨_, Z⟩
 have B : ∀ b o, A0 b o → A b o := fun b o h => hAe ▸ (hA0e ▸ h : subS Aq _ b o).1
 replace d : AvOK A w := hAe ▸ d
 have q : IniOK [ob (.pointer (some ⟨b0, 0, none⟩)) (.box B0 110 E_spec_l1Cur p0)] A w := hAe ▸ hO0
 clear hA0e hO0
 refine calls_of_HT2 [.cell 2 29] Try.func49 Try.ntmps49 (by decide) Z Z (nb Z) ?_
 intro R hR
 replace h0 : R 0 = .pointer (some ⟨b0, 0, none⟩) := (hR 0 _ Z).trans h0
 refine HT.sx [ob (.pointer (some ⟨b0, 0, none⟩)) (.box B0 110 E_spec_l1Cur p0)] (⟨_, true, [], some (.box w0.heap.size 29 E_impl_RuleSet ([] : List T_impl_Rule)), true, fun A => .any⟩ :: []) (ua (UAll.nil)) q d ?_ ?_
 exact rc (OblR.made _ Z Z Z Z fun V Q U O D=> by exact made_alloc Try.zeroValue29 (fun A w=> rep1_nil) (Nat.le_trans j.size O.ch.size)) <| rz
 intro done ρ σ A R w y s
 replace h0 := k1 s.rg h0
 have z1 := s.inivR 0 Z
 obtain ⟨b2_1, e_b2_1⟩ := s.boxv y 1 Z Z
 have h2 := s.ov y 1 0 e_b2_1
 replace B := s.lowK B C K (q.geK (⟨.inr (fun k h => .inr h), N⟩))
 replace j : Ch (ownsB (.pointer (some ⟨b0, 0, none⟩))) w0 w := j.tr s.ch (q.geK (⟨.inr (fun k h => .inr h), N⟩))
 replace q := s.left y [(0, ob (.pointer (some ⟨b0, 0, none⟩)) (.box B0 110 E_spec_l1Cur p0)), (1, ob (.pointer (some ⟨b2_1, 0, none⟩)) (.box w0.heap.size 29 E_impl_RuleSet ([] : List T_impl_Rule)))] ⟨Z, Z, z1, Z, Z, ⟨Z, Z, e_b2_1, Z, Z, N⟩⟩
 replace d := s.avok
 refine HT.seq ?_
 refine SG.of ?_
 refine SG.textR [ob (.pointer (some ⟨b0, 0, none⟩)) (.box B0 110 E_spec_l1Cur p0), ob (.pointer (some ⟨b2_1, 0, none⟩)) (.box w0.heap.size 29 E_impl_RuleSet ([] : List T_impl_Rule))] (rR (.pointer (some ⟨b0, 0, none⟩)) :: []) 1 Z Z Z (by kernel_rfl) (by kernel_rfl) (Wf.mk' (by kernel_rfl) (ur (UAll.nil)) (by kernel_rfl) (by kernel_rfl)) q d (N) ?_ ?_
 exact rm h0 <| rz
 intro done ρ σ A R w y s
 obtain ⟨h0, h2⟩ := k2 s.rg h0 h2
 have z3 := s.inivR 0 Z
 have z4 := s.inivR 1 Z
 have h4 := s.r y 0 Z
 replace B := s.lowK B C K (q.geK (⟨.inr (fun k h => .inr h), ⟨.inl Z, N⟩⟩))
 replace j : Ch (ownsB (.pointer (some ⟨b0, 0, none⟩))) w0 w := j.tr s.ch (q.geK (⟨.inr (fun k h => .inr h), ⟨.inl Z, N⟩⟩))
 replace q := s.left y [(0, ob (.pointer (some ⟨b0, 0, none⟩)) (.box B0 110 E_spec_l1Cur p0)), (1, ob (.pointer (some ⟨b2_1, 0, none⟩)) (.box w0.heap.size 29 E_impl_RuleSet ([] : List T_impl_Rule)))] ⟨Z, Z, z3, Z, Z, ⟨Z, Z, z4, Z, Z, N⟩⟩
 replace d := s.avok
 obtain ⟨x5, q6, c⟩ := cl_some c
 have hFz : w0.heap.size ≤ w.heap.size := j.size
 refine SG.op 5 Z Z Z Z (call_run Try.call80 (M_spec_l14Rules_ok (q6 Z) d h4 (q.sub [(0, ob (.pointer (some ⟨b0, 0, none⟩)) (.box B0 110 E_spec_l1Cur p0))] ⟨Z, Z, N⟩))) ?_
 rintro v_ w ⟨u7, S8, A, hG1, hv⟩ R n hd
 have hst := stp_call d hG1 (q.ok 0 _ Z).2
 replace B : ∀ b o, A0 b o → A b o := low_callK B C K (q.geK (⟨.inr (fun k h => .inr h), ⟨.inl Z, N⟩⟩)) 0 Z hG1
 replace j : Ch (ownsB (.pointer (some ⟨b0, 0, none⟩))) w0 w := j.tr hG1.ch (fun k hk => (q.geK (⟨.inr (fun k h => .inr h), ⟨.inl Z, N⟩⟩)) k ⟨0, _, Z, hk⟩)
 replace q := GPost.next q d 0 Z hG1
 replace d := hG1.avok
 replace q := q.reK (K' := geB w0.heap.size) 1 Z (fun k hk => Nat.le_trans hFz hk)
 replace q : IniOK [ob (.pointer (some ⟨b0, 0, none⟩)) (.box B0 110 E_spec_l1Cur x5.2), ⟨u7, S8, trR (geB w0.heap.size) (oBx (oSl 79 (oBx (oSl 82 (oRd E_impl_Test))))) x5.1 []⟩, ob (.pointer (some ⟨b2_1, 0, none⟩)) (.box w0.heap.size 29 E_impl_RuleSet ([] : List T_impl_Rule))] A w := q
 replace h0 := (n 0 Z).trans h0
 replace h2 := (n 2 Z).trans h2
 replace h4 := (n 4 Z).trans h4
 have h5 : R 5 = u7 := hd.trans hv
 clear hFz hG1 hv n hd
 refine SG.textR [ob (.pointer (some ⟨b0, 0, none⟩)) (.box B0 110 E_spec_l1Cur x5.2), ⟨u7, S8, trR (geB w0.heap.size) (oBx (oSl 79 (oBx (oSl 82 (oRd E_impl_Test))))) x5.1 []⟩, ob (.pointer (some ⟨b2_1, 0, none⟩)) (.box w0.heap.size 29 E_impl_RuleSet ([] : List T_impl_Rule))] (rR (.pointer (some ⟨b0, 0, none⟩)) :: rR u7 :: ⟨_, true, [], some (trR (geB w0.heap.size) (oPt 29 (oBx (oSl 79 (oBx (oSl 82 (oRd E_impl_Test)))))) ([] : List T_impl_Rule) []), true, fun A => .any⟩ :: ⟨_, true, [5, 1], some (trR (geB w0.heap.size) (oPt 29 (oBx (oSl 79 (oBx (oSl 82 (oRd E_impl_Test)))))) x5.1 []), false, fun A => .any⟩ :: []) 4 Z Z Z (by kernel_rfl) (by kernel_rfl) (Wf.mk' (by kernel_rfl) (ur (ur (ua (ua (UAll.nil))))) (by kernel_rfl) (by kernel_rfl)) q d (⟨⟨Z, Z, Z, h4⟩, ⟨⟨Z, Z, Z, h5⟩, N⟩⟩) ?_ ?_
 exact rc (OblR.madeS _ Z Z Z Z fun V Q U O D=> by exact made_allocT Try.zeroValue29 (fun A w=> own_nil) (fun k hk=> Nat.le_trans (Nat.le_trans j.size O.ch.size) hk)) <| rc (OblR.tookM 5 [1] _ Z Z Z Z fun V Q U O D ρ σ X Y J L M hdd=> by have a1 : Q 5 = u7 := D.g 1 Z; have k1 := X 5 (.head _) _ Z; exact took_put2 Z (tr_root k1.2.2).ptr (X 1 (.tail _ (.head _)) _ Z).2.2.1 (a1.trans (J 1 (.tail _ (.head _)) _ Z).1.symm) (L 5 (.head _) _ _ Z Z Z Z).symm Y hdd k1.2.1 (X 1 (.tail _ (.head _)) _ Z).2.1 Try.sizeOf29 (fun _ _ _ h=> h)) <| rz
 intro done ρ σ A R w y s
 obtain ⟨h0, h2⟩ := k2 s.rg h0 h2
 have z9 := s.inivR 0 Z
 have z10 := s.inivR 2 Z
 obtain ⟨u11, e_u11⟩ : ∃ u, ρ 6 = u := ⟨_, Z⟩
 have z12 := (s.opnR y 6 3 Z Z Z Z Z).symm.trans e_u11
 have h3 := s.ov y 5 2 z12
 obtain ⟨S13, eS_u11⟩ : ∃ S, σ 6 = S := ⟨_, Z⟩
 replace B := s.lowK B C K (q.geK (⟨.inr (fun k h => .inr h), ⟨fun _ h => .inl h, ⟨.inl Z, N⟩⟩⟩))
 replace j : Ch (ownsB (.pointer (some ⟨b0, 0, none⟩))) w0 w := j.tr s.ch (q.geK (⟨.inr (fun k h => .inr h), ⟨fun _ h => .inl h, ⟨.inl Z, N⟩⟩⟩))
 replace q := s.left y [(0, ob (.pointer (some ⟨b0, 0, none⟩)) (.box B0 110 E_spec_l1Cur x5.2)), (2, ob (.pointer (some ⟨b2_1, 0, none⟩)) (.box w0.heap.size 29 E_impl_RuleSet ([] : List T_impl_Rule))), (6, ⟨u11, S13, trR (geB w0.heap.size) (oPt 29 (oBx (oSl 79 (oBx (oSl 82 (oRd E_impl_Test)))))) x5.1 []⟩)] ⟨Z, Z, z9, Z, Z, ⟨Z, Z, z10, Z, Z, ⟨Z, Z, e_u11, eS_u11, Z, N⟩⟩⟩
 replace d := s.avok
 refine SG.fin Z ?_
 refine HT.seq ?_
 refine HT.seq ?_
 refine SG.of ?_
 refine SG.textR [ob (.pointer (some ⟨b0, 0, none⟩)) (.box B0 110 E_spec_l1Cur x5.2), ob (.pointer (some ⟨b2_1, 0, none⟩)) (.box w0.heap.size 29 E_impl_RuleSet ([] : List T_impl_Rule)), ⟨u11, S13, trR (geB w0.heap.size) (oPt 29 (oBx (oSl 79 (oBx (oSl 82 (oRd E_impl_Test)))))) x5.1 []⟩] (rR (.pointer (some ⟨b0, 0, none⟩)) :: []) 1 Z Z Z (by kernel_rfl) (by kernel_rfl) (Wf.mk' (by kernel_rfl) (ur (UAll.nil)) (by kernel_rfl) (by kernel_rfl)) q d (N) ?_ ?_
 exact rm h0 <| rz
 intro done ρ σ A R w y s
 obtain ⟨h0, h2, h3⟩ := k3 s.rg h0 h2 h3
 have z14 := s.inivR 0 Z
 have z15 := s.inivR 1 Z
 have z16 := s.inivR 2 Z
 have eS_u11 := s.inisR 2 Z
 have h6 := s.r y 0 Z
 replace B := s.lowK B C K (q.geK (⟨.inr (fun k h => .inr h), ⟨.inl Z, ⟨fun _ h => .inl h, N⟩⟩⟩))
 replace j : Ch (ownsB (.pointer (some ⟨b0, 0, none⟩))) w0 w := j.tr s.ch (q.geK (⟨.inr (fun k h => .inr h), ⟨.inl Z, ⟨fun _ h => .inl h, N⟩⟩⟩))
 replace q := s.left y [(0, ob (.pointer (some ⟨b0, 0, none⟩)) (.box B0 110 E_spec_l1Cur x5.2)), (1, ob (.pointer (some ⟨b2_1, 0, none⟩)) (.box w0.heap.size 29 E_impl_RuleSet ([] : List T_impl_Rule))), (2, ⟨u11, S13, trR (geB w0.heap.size) (oPt 29 (oBx (oSl 79 (oBx (oSl 82 (oRd E_impl_Test)))))) x5.1 []⟩)] ⟨Z, Z, z14, Z, Z, ⟨Z, Z, z15, Z, Z, ⟨Z, Z, z16, eS_u11, Z, N⟩⟩⟩
 replace d := s.avok
 obtain ⟨x17, q18, c⟩ := cl_some c
 have hFz : w0.heap.size ≤ w.heap.size := j.size
 refine SG.op 7 Z Z Z Z (call_run Try.call55 (M_spec_l1Below_ok (q18 Z) d h6 (q.sub [(0, ob (.pointer (some ⟨b0, 0, none⟩)) (.box B0 110 E_spec_l1Cur x5.2))] ⟨Z, Z, N⟩) Z)) ?_
 rintro v_ w ⟨A, hG1, hv⟩ R n hd
 have hst := stp_call d hG1 (q.ok 0 _ Z).2
 replace B : ∀ b o, A0 b o → A b o := low_callK B C K (q.geK (⟨.inr (fun k h => .inr h), ⟨.inl Z, ⟨fun _ h => .inl h, N⟩⟩⟩)) 0 Z hG1
 replace j : Ch (ownsB (.pointer (some ⟨b0, 0, none⟩))) w0 w := j.tr hG1.ch (fun k hk => (q.geK (⟨.inr (fun k h => .inr h), ⟨.inl Z, ⟨fun _ h => .inl h, N⟩⟩⟩)) k ⟨0, _, Z, hk⟩)
 replace q := GPost.next q d 0 Z hG1
 replace d := hG1.avok
 replace q : IniOK [ob (.pointer (some ⟨b0, 0, none⟩)) (.box B0 110 E_spec_l1Cur x17.2), ob (.pointer (some ⟨b2_1, 0, none⟩)) (.box w0.heap.size 29 E_impl_RuleSet ([] : List T_impl_Rule)), ⟨u11, S13, trR (geB w0.heap.size) (oPt 29 (oBx (oSl 79 (oBx (oSl 82 (oRd E_impl_Test)))))) x5.1 []⟩] A w := q
 replace h0 := (n 0 Z).trans h0
 replace h2 := (n 2 Z).trans h2
 replace h3 := (n 3 Z).trans h3
 replace h6 := (n 6 Z).trans h6
 have h7 : R 7 = .int .i64 x17.1 := hd.trans hv
 clear hFz hG1 hv n hd
 refine SG.fin Z ?_
 refine HT.block ?_
 refine HT.seq ?_
 refine HT.t (eB (x17.1 == 0) :: eB (x17.1 == 0) :: []) ?_ ?_
 exact op (fun Q U W H D=> of_eql ((H 7 Z).trans h7) Z) <| oa <| oz
 intro R w m n p
 obtain ⟨h0, h2, h3, h7⟩ := k4 n h0 h2 h3 h7
 have h8 := p.r 1 Z
 replace q := q.fr m
 replace d := d.fr m.size
 replace j := j.tr (m.ch noB) fun _ h => False.elim h
 refine HT.cond (x17.1 == 0) h8 (fun c19 => ?_) (fun c19 => ?_)
 have c := cnd_t c19 c
 obtain ⟨h20, p_h20⟩ := (((tr_root (q.own 2 _ Z).2).ptr).bx).open1 Z
 replace q : IniOK [ob (.pointer (some ⟨b0, 0, none⟩)) (.box B0 110 E_spec_l1Cur x17.2), ob (.pointer (some ⟨b2_1, 0, none⟩)) (.box w0.heap.size 29 E_impl_RuleSet ([] : List T_impl_Rule)), ⟨u11, S13, trR (geB w0.heap.size) (oPt 29 (oBx (oSl 79 (oBx (oSl 82 (oRd E_impl_Test)))))) x5.1 [(u11, [h20])]⟩] A w := q.repin 2 Z (trP.pin p_h20)
 obtain ⟨e22, c⟩ := ck_some c
 obtain ⟨h23, p_h23⟩ := (((((((tr_root (q.own 2 _ Z).2).ptr).bx).pin ((q.own 2 _ Z).2.2 _ (.head _)) Z).elem e22 Z)).bx).open1 Z
 replace q : IniOK [ob (.pointer (some ⟨b0, 0, none⟩)) (.box B0 110 E_spec_l1Cur x17.2), ob (.pointer (some ⟨b2_1, 0, none⟩)) (.box w0.heap.size 29 E_impl_RuleSet ([] : List T_impl_Rule)), ⟨u11, S13, trR (geB w0.heap.size) (oPt 29 (oBx (oSl 79 (oBx (oSl 82 (oRd E_impl_Test)))))) x5.1 [((vptr h20 ((0 : Int).toNat * 1)), [h23]), (u11, [h20])]⟩] A w := q.repin 2 Z (trP.pin p_h23)
 obtain ⟨x25, q26, c⟩ := cl_some c
 obtain ⟨e27, c⟩ := ck_some c
 refine HT.drawR [ob (.pointer (some ⟨b0, 0, none⟩)) (.box B0 110 E_spec_l1Cur x17.2), ob (.pointer (some ⟨b2_1, 0, none⟩)) (.box w0.heap.size 29 E_impl_RuleSet ([] : List T_impl_Rule)), ⟨u11, S13, trR (geB w0.heap.size) (oPt 29 (oBx (oSl 79 (oBx (oSl 82 (oRd E_impl_Test)))))) x5.1 [((vptr h20 ((0 : Int).toNat * 1)), [h23]), (u11, [h20])]⟩] (rR u11 :: rR h20 :: rR (vptr h20 ((0 : Int).toNat * 1)) :: rR (vptr h20 ((0 : Int).toNat * 1)) :: rR h23 :: rR (.pointer (some ⟨b0, 0, none⟩)) :: (rF fun A => .rep (eSl (eInt .i64)) A ([(-1), 5, 6] : List Int)) :: ⟨_, true, [0], some (.box B0 110 E_spec_l1Cur x25.2), false, fun A => .raw (.int .i64 x25.1)⟩ :: rR (vptr h23 ((0 : Int).toNat * 3)) :: rR (vptr h23 ((0 : Int).toNat * 3)) :: ⟨_, true, [2], some (trR (geB w0.heap.size) (oPt 29 (oBx (oSl 79 (oBx (oSl 82 (oRd E_impl_Test)))))) (x5.1.set (0 : Int).toNat ((gtD x5.1 0).set (0 : Int).toNat (x25.1, (gtD (gtD x5.1 0) 0).2.1, (gtD (gtD x5.1 0) 0).2.2))) []), false, fun A => .any⟩ :: []) (by kernel_rfl) (by kernel_rfl) (by kernel_rfl) (Wf.mk' (by kernel_rfl) (ur (ur (ur (ur (ur (ur (up (ur (ur (ur (ua (UAll.nil)))))))))))) (by kernel_rfl) (by kernel_rfl)) q d ?_ ?_
 exact rp (fun V Q U O D=> of_fieldAddr_tr ((tr_root (q.own 2 _ Z).2).ptr).ad ((O.old 3 Z).trans h3) ff_29_0 Try.sizeOf27 (by decide) (padd_zero ((tr_root (q.own 2 _ Z).2).ptr).ad)) <| rp (fun V Q U O D=> of_load_pin ((O.rdo 2 _ Z Z).2.2 _ (.tail _ (.head _))) (D.g 0 Z) Try.isAgg27 Try.sizeOf27) <| rp (fun V Q U O D=> of_indexAddr_tr ((((tr_root (q.own 2 _ Z).2).ptr).bx).pin ((q.own 2 _ Z).2.2 _ (.tail _ (.head _))) Z) (D.g 0 Z) Z Try.underlying27 Try.sizeOf79 e22 Z) <| rp (fun V Q U O D=> of_fieldAddr_tr ((((((tr_root (q.own 2 _ Z).2).ptr).bx).pin ((q.own 2 _ Z).2.2 _ (.tail _ (.head _))) Z).elem e22 Z)).ad (D.g 0 Z) ff_79_0 Try.sizeOf65 (by decide) (padd_zero ((((((tr_root (q.own 2 _ Z).2).ptr).bx).pin ((q.own 2 _ Z).2.2 _ (.tail _ (.head _))) Z).elem e22 Z)).ad)) <| rp (fun V Q U O D=> of_load_pin ((O.rdo 2 _ Z Z).2.2 _ (.head _)) (D.g 0 Z) Try.isAgg65 Try.sizeOf65) <| rm h0 <| rp (fun V Q U O D=> of_build [_, _, _] (E := eInt .i64) ⟨(rep_int.eq Z), ⟨(rep_int.eq Z), ⟨(rep_int.eq Z), N⟩⟩⟩ Try.underlying33 Try.sizeOf3 Try.zeroValue3 Z Z Z O.av) <| rc (OblR.took 0 _ _ Z Z Z Z Z fun V Q U O D u X Y J L M=> by have a0 : Q 15 = (.pointer (some ⟨b0, 0, none⟩)) := D.g 0 Z; have a1 : Rep (eSl (eInt .i64)) V U (Q 16) ([(-1), 5, 6] : List Int) := D.g 1 Z; have e0 := J _ Z; rw [e0] at X Y ⊢; exact took_G Try.call81 X Y O.av (fun s=> M_spec_l1PickInt_ok (q26 Z) O.av a0 s a1)) <| rp (fun V Q U O D=> of_indexAddr_tr ((((((((tr_root (q.own 2 _ Z).2).ptr).bx).pin ((q.own 2 _ Z).2.2 _ (.tail _ (.head _))) Z).elem e22 Z)).bx).pin ((q.own 2 _ Z).2.2 _ (.head _)) Z) (D.g 0 Z) Z Try.underlying65 Try.sizeOf82 e27 Z) <| rp (fun V Q U O D=> of_fieldAddr_tr ((((((((((tr_root (q.own 2 _ Z).2).ptr).bx).pin ((q.own 2 _ Z).2.2 _ (.tail _ (.head _))) Z).elem e22 Z)).bx).pin ((q.own 2 _ Z).2.2 _ (.head _)) Z).elem e27 Z)).ad (D.g 0 Z) ff_82_0 Try.sizeOf3 (by decide) (padd_zero ((((((((((tr_root (q.own 2 _ Z).2).ptr).bx).pin ((q.own 2 _ Z).2.2 _ (.tail _ (.head _))) Z).elem e22 Z)).bx).pin ((q.own 2 _ Z).2.2 _ (.head _)) Z).elem e27 Z)).ad)) <| rc (OblR.tookS 2 _ _ Z Z Z Z Z fun V Q U O D u S X I Y J L M=> by have a0 : Q 19 = (vptr h23 ((0 : Int).toNat * 3)) := D.g 0 Z; have a1 : Q 17 = .int .i64 x25.1 := D.g 1 Z; have e0 := (J _ Z).1; rw [e0] at I ⊢; exact took_hstore ((((((((((tr_root I.2).ptr).bx).pin (I.2.2 _ (.tail _ (.head _))) Z).elem e22 Z)).bx).pin (I.2.2 _ (.head _)) Z).elem e27 Z)).rdp.fst (rep_int.eq a1) a0 Y I.1 Try.sizeOf3 (fun _ _ _ h=> h)) <| rz
 intro done ρ σ A R w y s
 obtain ⟨h2, h3⟩ := k2 s.rg h2 h3
 have z28 := s.inivR 0 Z
 have z29 := s.on y 10 7 Z Z Z Z Z z28
 have z30 := s.inivR 1 Z
 have z31 := s.inivR 2 Z
 have z32 := s.on y 13 10 Z Z Z Z Z z31
 obtain ⟨S33, eS_u11⟩ : ∃ S, σ 13 = S := ⟨_, Z⟩
 replace B := s.lowK B C K (q.geK (⟨.inr (fun k h => .inr h), ⟨.inl Z, ⟨fun _ h => .inl h, N⟩⟩⟩))
 replace j : Ch (ownsB (.pointer (some ⟨b0, 0, none⟩))) w0 w := j.tr s.ch (q.geK (⟨.inr (fun k h => .inr h), ⟨.inl Z, ⟨fun _ h => .inl h, N⟩⟩⟩))
 replace q := s.left y [(10, ob (.pointer (some ⟨b0, 0, none⟩)) (.box B0 110 E_spec_l1Cur x25.2)), (1, ob (.pointer (some ⟨b2_1, 0, none⟩)) (.box w0.heap.size 29 E_impl_RuleSet ([] : List T_impl_Rule))), (13, ⟨u11, S33, trR (geB w0.heap.size) (oPt 29 (oBx (oSl 79 (oBx (oSl 82 (oRd E_impl_Test)))))) (x5.1.set (0 : Int).toNat ((gtD x5.1 0).set (0 : Int).toNat (x25.1, (gtD (gtD x5.1 0) 0).2.1, (gtD (gtD x5.1 0) 0).2.2))) []⟩)] ⟨Z, Z, z29, Z, Z, ⟨Z, Z, z30, Z, Z, ⟨Z, Z, z32, eS_u11, Z, N⟩⟩⟩
 replace d := s.avok
 obtain ⟨Yg33, g_Yg33⟩ : ∃ z : T_impl_RuleSet, z = (x5.1.set (0 : Int).toNat ((gtD x5.1 0).set (0 : Int).toNat (x25.1, (gtD (gtD x5.1 0) 0).2.1, (gtD (gtD x5.1 0) 0).2.2))) := ⟨_, Z⟩
 rw [← g_Yg33] at q
 try rw [← g_Yg33] at c
 refine HT.sx [ob (.pointer (some ⟨b0, 0, none⟩)) (.box B0 110 E_spec_l1Cur x25.2), ob (.pointer (some ⟨b2_1, 0, none⟩)) (.box w0.heap.size 29 E_impl_RuleSet ([] : List T_impl_Rule)), ⟨u11, S33, trR (geB w0.heap.size) (oPt 29 (oBx (oSl 79 (oBx (oSl 82 (oRd E_impl_Test)))))) Yg33 []⟩] (⟨_, true, [2], some (.nul), false, fun A => .rep E_impl_RuleSet A Yg33⟩ :: ⟨_, true, [1], some (.box w0.heap.size 29 E_impl_RuleSet Yg33), false, fun A => .any⟩ :: []) (up (ua (UAll.nil))) q d ?_ ?_
 exact rc (OblR.tookS 2 .nul _ Z Z Z Z Z fun V Q U O D u S X I Y J L M=> by have a0 : Q 3 = u11 := (O.old 3 Z).trans h3; exact frz_loadT I.2 (a0.trans (J _ Z).1.symm) Y Try.isAgg29 Try.sizeOf29) <| rc (OblR.took 1 _ _ Z Z Z Z Z fun V Q U O D u X Y J L M=> by have a0 : Q 2 = (.pointer (some ⟨b2_1, 0, none⟩)) := (O.old 2 Z).trans h2; have a1 : Rep E_impl_RuleSet V U (Q 40) Yg33 := D.g 0 Z; exact took_store a1 a0 (J _ Z) X Y (FldS.id _) Try.sizeOf29 Z) <| rz
 intro done ρ σ A R w y s
 replace h2 := k1 s.rg h2
 have z35 := s.inivR 0 Z
 have z36 := s.inivR 1 Z
 have z37 := s.on y 4 1 Z Z Z Z Z z36
 replace B := s.lowK B C K (q.geK (⟨.inr (fun k h => .inr h), ⟨.inl Z, ⟨fun _ h => .inl h, N⟩⟩⟩))
 replace j : Ch (ownsB (.pointer (some ⟨b0, 0, none⟩))) w0 w := j.tr s.ch (q.geK (⟨.inr (fun k h => .inr h), ⟨.inl Z, ⟨fun _ h => .inl h, N⟩⟩⟩))
 replace q := s.left y [(0, ob (.pointer (some ⟨b0, 0, none⟩)) (.box B0 110 E_spec_l1Cur x25.2)), (4, ob (.pointer (some ⟨b2_1, 0, none⟩)) (.box w0.heap.size 29 E_impl_RuleSet Yg33))] ⟨Z, Z, z35, Z, Z, ⟨Z, Z, z37, Z, Z, N⟩⟩
 replace d := s.avok
 refine HT.ret ?_
 obtain rfl := si c
 obtain ⟨v_2, e_2, p_2⟩ := res_cell (q.ok 1 _ Z).1 h2 Try.isAgg29 Try.sizeOf29 (fun _ _ h => h)
 replace q : IniOK [ob (.pointer (some ⟨b0, 0, none⟩)) (.box B0 110 E_spec_l1Cur x25.2)] A w := q.sub [(0, ob (.pointer (some ⟨b0, 0, none⟩)) (.box B0 110 E_spec_l1Cur x25.2))] ⟨Z, Z, N⟩
 obtain ⟨A1, hA1, hG1⟩ := GPost.of q d B (q.geK (⟨.inr (fun k h => .inr h), N⟩)) j
 exact ⟨.inr Z, [v_2], ⟨e_2, N⟩, A1, hG1, p_2.down hA1⟩
 have c := cnd_f c19 c
 refine HT.seq ?_
 refine HT.t (eB (x17.1 == 1) :: eB (x17.1 == 1) :: []) ?_ ?_
 exact op (fun Q U W H D=> of_eql ((H 7 Z).trans h7) Z) <| oa <| oz
 intro R w m n p
 obtain ⟨h0, h2, h3, h7⟩ := k4 n h0 h2 h3 h7
 have h20 := p.r 1 Z
 replace q := q.fr m
 replace d := d.fr m.size
 replace j := j.tr (m.ch noB) fun _ h => False.elim h
 refine HT.cond (x17.1 == 1) h20 (fun c38 => ?_) (fun c38 => ?_)
 have c := cnd_t c38 c
 obtain ⟨h39, p_h39⟩ := (((tr_root (q.own 2 _ Z).2).ptr).bx).open1 Z
 replace q : IniOK [ob (.pointer (some ⟨b0, 0, none⟩)) (.box B0 110 E_spec_l1Cur x17.2), ob (.pointer (some ⟨b2_1, 0, none⟩)) (.box w0.heap.size 29 E_impl_RuleSet ([] : List T_impl_Rule)), ⟨u11, S13, trR (geB w0.heap.size) (oPt 29 (oBx (oSl 79 (oBx (oSl 82 (oRd E_impl_Test)))))) x5.1 [(u11, [h39])]⟩] A w := q.repin 2 Z (trP.pin p_h39)
 obtain ⟨e41, c⟩ := ck_some c
 obtain ⟨h42, p_h42⟩ := (((((((tr_root (q.own 2 _ Z).2).ptr).bx).pin ((q.own 2 _ Z).2.2 _ (.head _)) Z).elem e41 Z)).bx).open1 Z
 replace q : IniOK [ob (.pointer (some ⟨b0, 0, none⟩)) (.box B0 110 E_spec_l1Cur x17.2), ob (.pointer (some ⟨b2_1, 0, none⟩)) (.box w0.heap.size 29 E_impl_RuleSet ([] : List T_impl_Rule)), ⟨u11, S13, trR (geB w0.heap.size) (oPt 29 (oBx (oSl 79 (oBx (oSl 82 (oRd E_impl_Test)))))) x5.1 [((vptr h39 ((0 : Int).toNat * 1)), [h42]), (u11, [h39])]⟩] A w := q.repin 2 Z (trP.pin p_h42)
 obtain ⟨x44, q45, c⟩ := cl_some c
 obtain ⟨e46, c⟩ := ck_some c
 refine HT.drawR [ob (.pointer (some ⟨b0, 0, none⟩)) (.box B0 110 E_spec_l1Cur x17.2), ob (.pointer (some ⟨b2_1, 0, none⟩)) (.box w0.heap.size 29 E_impl_RuleSet ([] : List T_impl_Rule)), ⟨u11, S13, trR (geB w0.heap.size) (oPt 29 (oBx (oSl 79 (oBx (oSl 82 (oRd E_impl_Test)))))) x5.1 [((vptr h39 ((0 : Int).toNat * 1)), [h42]), (u11, [h39])]⟩] (rR u11 :: rR h39 :: rR (vptr h39 ((0 : Int).toNat * 1)) :: rR (vptr h39 ((0 : Int).toNat * 1)) :: rR h42 :: rR (.pointer (some ⟨b0, 0, none⟩)) :: (rF fun A => .rep (eSl (eInt .i64)) A ([0, 1, 1001] : List Int)) :: ⟨_, true, [0], some (.box B0 110 E_spec_l1Cur x44.2), false, fun A => .raw (.int .i64 x44.1)⟩ :: rR (vptr h42 ((0 : Int).toNat * 3)) :: rR (vptr h42 ((0 : Int).toNat * 3 + 1)) :: ⟨_, true, [2], some (trR (geB w0.heap.size) (oPt 29 (oBx (oSl 79 (oBx (oSl 82 (oRd E_impl_Test)))))) (x5.1.set (0 : Int).toNat ((gtD x5.1 0).set (0 : Int).toNat ((gtD (gtD x5.1 0) 0).1, x44.1, (gtD (gtD x5.1 0) 0).2.2))) []), false, fun A => .any⟩ :: []) (by kernel_rfl) (by kernel_rfl) (by kernel_rfl) (Wf.mk' (by kernel_rfl) (ur (ur (ur (ur (ur (ur (up (ur (ur (ur (ua (UAll.nil)))))))))))) (by kernel_rfl) (by kernel_rfl)) q d ?_ ?_
 exact rp (fun V Q U O D=> of_fieldAddr_tr ((tr_root (q.own 2 _ Z).2).ptr).ad ((O.old 3 Z).trans h3) ff_29_0 Try.sizeOf27 (by decide) (padd_zero ((tr_root (q.own 2 _ Z).2).ptr).ad)) <| rp (fun V Q U O D=> of_load_pin ((O.rdo 2 _ Z Z).2.2 _ (.tail _ (.head _))) (D.g 0 Z) Try.isAgg27 Try.sizeOf27) <| rp (fun V Q U O D=> of_indexAddr_tr ((((tr_root (q.own 2 _ Z).2).ptr).bx).pin ((q.own 2 _ Z).2.2 _ (.tail _ (.head _))) Z) (D.g 0 Z) Z Try.underlying27 Try.sizeOf79 e41 Z) <| rp (fun V Q U O D=> of_fieldAddr_tr ((((((tr_root (q.own 2 _ Z).2).ptr).bx).pin ((q.own 2 _ Z).2.2 _ (.tail _ (.head _))) Z).elem e41 Z)).ad (D.g 0 Z) ff_79_0 Try.sizeOf65 (by decide) (padd_zero ((((((tr_root (q.own 2 _ Z).2).ptr).bx).pin ((q.own 2 _ Z).2.2 _ (.tail _ (.head _))) Z).elem e41 Z)).ad)) <| rp (fun V Q U O D=> of_load_pin ((O.rdo 2 _ Z Z).2.2 _ (.head _)) (D.g 0 Z) Try.isAgg65 Try.sizeOf65) <| rm h0 <| rp (fun V Q U O D=> of_build [_, _, _] (E := eInt .i64) ⟨(rep_int.eq Z), ⟨(rep_int.eq Z), ⟨(rep_int.eq Z), N⟩⟩⟩ Try.underlying33 Try.sizeOf3 Try.zeroValue3 Z Z Z O.av) <| rc (OblR.took 0 _ _ Z Z Z Z Z fun V Q U O D u X Y J L M=> by have a0 : Q 27 = (.pointer (some ⟨b0, 0, none⟩)) := D.g 0 Z; have a1 : Rep (eSl (eInt .i64)) V U (Q 28) ([0, 1, 1001] : List Int) := D.g 1 Z; have e0 := J _ Z; rw [e0] at X Y ⊢; exact took_G Try.call81 X Y O.av (fun s=> M_spec_l1PickInt_ok (q45 Z) O.av a0 s a1)) <| rp (fun V Q U O D=> of_indexAddr_tr ((((((((tr_root (q.own 2 _ Z).2).ptr).bx).pin ((q.own 2 _ Z).2.2 _ (.tail _ (.head _))) Z).elem e41 Z)).bx).pin ((q.own 2 _ Z).2.2 _ (.head _)) Z) (D.g 0 Z) Z Try.underlying65 Try.sizeOf82 e46 Z) <| rp (fun V Q U O D=> of_fieldAddr_tr ((((((((((tr_root (q.own 2 _ Z).2).ptr).bx).pin ((q.own 2 _ Z).2.2 _ (.tail _ (.head _))) Z).elem e41 Z)).bx).pin ((q.own 2 _ Z).2.2 _ (.head _)) Z).elem e46 Z)).ad (D.g 0 Z) ff_82_1 Try.sizeOf3 (by decide) (padd_vptr _ _ _)) <| rc (OblR.tookS 2 _ _ Z Z Z Z Z fun V Q U O D u S X I Y J L M=> by have a0 : Q 31 = (vptr h42 ((0 : Int).toNat * 3 + 1)) := D.g 0 Z; have a1 : Q 29 = .int .i64 x44.1 := D.g 1 Z; have e0 := (J _ Z).1; rw [e0] at I ⊢; exact took_hstore (((((((((((tr_root I.2).ptr).bx).pin (I.2.2 _ (.tail _ (.head _))) Z).elem e41 Z)).bx).pin (I.2.2 _ (.head _)) Z).elem e46 Z)).rdp.snd (padd_vptr _ _ _)).rdp.fst (rep_int.eq a1) a0 Y I.1 Try.sizeOf3 (fun _ _ _ h=> h)) <| rz
 intro done ρ σ A R w y s
 obtain ⟨h2, h3⟩ := k2 s.rg h2 h3
 have z47 := s.inivR 0 Z
 have z48 := s.on y 10 7 Z Z Z Z Z z47
 have z49 := s.inivR 1 Z
 have z50 := s.inivR 2 Z
 have z51 := s.on y 13 10 Z Z Z Z Z z50
 obtain ⟨S52, eS_u11⟩ : ∃ S, σ 13 = S := ⟨_, Z⟩
 replace B := s.lowK B C K (q.geK (⟨.inr (fun k h => .inr h), ⟨.inl Z, ⟨fun _ h => .inl h, N⟩⟩⟩))
 replace j : Ch (ownsB (.pointer (some ⟨b0, 0, none⟩))) w0 w := j.tr s.ch (q.geK (⟨.inr (fun k h => .inr h), ⟨.inl Z, ⟨fun _ h => .inl h, N⟩⟩⟩))
 replace q := s.left y [(10, ob (.pointer (some ⟨b0, 0, none⟩)) (.box B0 110 E_spec_l1Cur x44.2)), (1, ob (.pointer (some ⟨b2_1, 0, none⟩)) (.box w0.heap.size 29 E_impl_RuleSet ([] : List T_impl_Rule))), (13, ⟨u11, S52, trR (geB w0.heap.size) (oPt 29 (oBx (oSl 79 (oBx (oSl 82 (oRd E_impl_Test)))))) (x5.1.set (0 : Int).toNat ((gtD x5.1 0).set (0 : Int).toNat ((gtD (gtD x5.1 0) 0).1, x44.1, (gtD (gtD x5.1 0) 0).2.2))) []⟩)] ⟨Z, Z, z48, Z, Z, ⟨Z, Z, z49, Z, Z, ⟨Z, Z, z51, eS_u11, Z, N⟩⟩⟩
 replace d := s.avok
 obtain ⟨Yg52, g_Yg52⟩ : ∃ z : T_impl_RuleSet, z = (x5.1.set (0 : Int).toNat ((gtD x5.1 0).set (0 : Int).toNat ((gtD (gtD x5.1 0) 0).1, x44.1, (gtD (gtD x5.1 0) 0).2.2))) := ⟨_, Z⟩
 rw [← g_Yg52] at q
 try rw [← g_Yg52] at c
 refine HT.sx [ob (.pointer (some ⟨b0, 0, none⟩)) (.box B0 110 E_spec_l1Cur x44.2), ob (.pointer (some ⟨b2_1, 0, none⟩)) (.box w0.heap.size 29 E_impl_RuleSet ([] : List T_impl_Rule)), ⟨u11, S52, trR (geB w0.heap.size) (oPt 29 (oBx (oSl 79 (oBx (oSl 82 (oRd E_impl_Test)))))) Yg52 []⟩] (⟨_, true, [2], some (.nul), false, fun A => .rep E_impl_RuleSet A Yg52⟩ :: ⟨_, true, [1], some (.box w0.heap.size 29 E_impl_RuleSet Yg52), false, fun A => .any⟩ :: []) (up (ua (UAll.nil))) q d ?_ ?_
 exact rc (OblR.tookS 2 .nul _ Z Z Z Z Z fun V Q U O D u S X I Y J L M=> by have a0 : Q 3 = u11 := (O.old 3 Z).trans h3; exact frz_loadT I.2 (a0.trans (J _ Z).1.symm) Y Try.isAgg29 Try.sizeOf29) <| rc (OblR.took 1 _ _ Z Z Z Z Z fun V Q U O D u X Y J L M=> by have a0 : Q 2 = (.pointer (some ⟨b2_1, 0, none⟩)) := (O.old 2 Z).trans h2; have a1 : Rep E_impl_RuleSet V U (Q 40) Yg52 := D.g 0 Z; exact took_store a1 a0 (J _ Z) X Y (FldS.id _) Try.sizeOf29 Z) <| rz
 intro done ρ σ A R w y s
 replace h2 := k1 s.rg h2
 have z54 := s.inivR 0 Z
 have z55 := s.inivR 1 Z
 have z56 := s.on y 4 1 Z Z Z Z Z z55
 replace B := s.lowK B C K (q.geK (⟨.inr (fun k h => .inr h), ⟨.inl Z, ⟨fun _ h => .inl h, N⟩⟩⟩))
 replace j : Ch (ownsB (.pointer (some ⟨b0, 0, none⟩))) w0 w := j.tr s.ch (q.geK (⟨.inr (fun k h => .inr h), ⟨.inl Z, ⟨fun _ h => .inl h, N⟩⟩⟩))
 replace q := s.left y [(0, ob (.pointer (some ⟨b0, 0, none⟩)) (.box B0 110 E_spec_l1Cur x44.2)), (4, ob (.pointer (some ⟨b2_1, 0, none⟩)) (.box w0.heap.size 29 E_impl_RuleSet Yg52))] ⟨Z, Z, z54, Z, Z, ⟨Z, Z, z56, Z, Z, N⟩⟩
 replace d := s.avok
 refine HT.ret ?_
 obtain rfl := si c
 obtain ⟨v_2, e_2, p_2⟩ := res_cell (q.ok 1 _ Z).1 h2 Try.isAgg29 Try.sizeOf29 (fun _ _ h => h)
 replace q : IniOK [ob (.pointer (some ⟨b0, 0, none⟩)) (.box B0 110 E_spec_l1Cur x44.2)] A w := q.sub [(0, ob (.pointer (some ⟨b0, 0, none⟩)) (.box B0 110 E_spec_l1Cur x44.2))] ⟨Z, Z, N⟩
 obtain ⟨A1, hA1, hG1⟩ := GPost.of q d B (q.geK (⟨.inr (fun k h => .inr h), N⟩)) j
 exact ⟨.inr Z, [v_2], ⟨e_2, N⟩, A1, hG1, p_2.down hA1⟩
 have c := cnd_f c38 c
 refine HT.seq ?_
 refine HT.t (eB (x17.1 == 2) :: eB (x17.1 == 2) :: []) ?_ ?_
 exact op (fun Q U W H D=> of_eql ((H 7 Z).trans h7) Z) <| oa <| oz
 intro R w m n p
 obtain ⟨h2, h3⟩ := k2 n h2 h3
 have h32 := p.r 1 Z
 replace q := q.fr m
 replace d := d.fr m.size
 replace j := j.tr (m.ch noB) fun _ h => False.elim h
 refine HT.cond (x17.1 == 2) h32 (fun c57 => ?_) (fun c57 => ?_)
 have c := cnd_t c57 c
 obtain ⟨h58, p_h58⟩ := (((tr_root (q.own 2 _ Z).2).ptr).bx).open1 Z
 replace q : IniOK [ob (.pointer (some ⟨b0, 0, none⟩)) (.box B0 110 E_spec_l1Cur x17.2), ob (.pointer (some ⟨b2_1, 0, none⟩)) (.box w0.heap.size 29 E_impl_RuleSet ([] : List T_impl_Rule)), ⟨u11, S13, trR (geB w0.heap.size) (oPt 29 (oBx (oSl 79 (oBx (oSl 82 (oRd E_impl_Test)))))) x5.1 [(u11, [h58])]⟩] A w := q.repin 2 Z (trP.pin p_h58)
 obtain ⟨e60, c⟩ := ck_some c
 refine HT.x [ob (.pointer (some ⟨b0, 0, none⟩)) (.box B0 110 E_spec_l1Cur x17.2), ob (.pointer (some ⟨b2_1, 0, none⟩)) (.box w0.heap.size 29 E_impl_RuleSet ([] : List T_impl_Rule)), ⟨u11, S13, trR (geB w0.heap.size) (oPt 29 (oBx (oSl 79 (oBx (oSl 82 (oRd E_impl_Test)))))) x5.1 [(u11, [h58])]⟩] (rR u11 :: rR h58 :: ⟨_, true, [], some (trR (geB w0.heap.size) (oBx (oSl 82 (oRd E_impl_Test))) ([] : List T_impl_Test) []), true, fun A => .any⟩ :: ⟨_, true, [5], some (trR (geB w0.heap.size) (oSl 79 (oBx (oSl 82 (oRd E_impl_Test)))) ([([] : List T_impl_Test)] : List T_impl_Rule) []), true, fun A => .any⟩ :: ⟨_, true, [2, 6], some (.gen (geB w0.heap.size) (pdP (oSl 79 (oBx (oSl 82 (oRd E_impl_Test)))) u11 (fun z A w S => (trP (oPt 29 (oBx (oSl 79 (oBx (oSl 82 (oRd E_impl_Test)))))) z []).P A w S u11) (x5.1 ++ [([] : List T_impl_Test)]))), true, fun A => .any⟩ :: rR u11 :: ⟨_, true, [7], some (.gen (geB w0.heap.size) (fixP u11 (trP (oPt 29 (oBx (oSl 79 (oBx (oSl 82 (oRd E_impl_Test)))))) (x5.1 ++ [([] : List T_impl_Test)]) []))), false, fun A => .any⟩ :: []) (ur (ur (ua (ua (ua (ur (ua (UAll.nil)))))))) q d ?_ ?_
 exact rp (fun V Q U O D=> of_fieldAddr_tr ((tr_root (q.own 2 _ Z).2).ptr).ad ((O.old 3 Z).trans h3) ff_29_0 Try.sizeOf27 (by decide) (padd_zero ((tr_root (q.own 2 _ Z).2).ptr).ad)) <| rp (fun V Q U O D=> of_load_pin ((O.rdo 2 _ Z Z).2.2 _ (.head _)) (D.g 0 Z) Try.isAgg27 Try.sizeOf27) <| rc (OblR.madeS _ Z Z Z Z fun V Q U O D=> by exact made_valT (v := .agg #[.slice none 0 0]) (by simp [execOp, Instr.build, evalR, underlying, Try.underlying79, Try.zeroValue79, Try.sizeOf65, go_sem, Instr.fill]) ⟨⟨_, Z, own_nil⟩, fun q hq=> by cases hq⟩ (fun k hk=> Nat.le_trans (Nat.le_trans j.size O.ch.size) hk)) <| rc (OblR.tookS 5 _ _ Z Z Z Z Z fun V Q U O D u S X I Y J L M=> by exact took_buildT I.2 (L _ _ Z Z Z Z).symm Y I.1 (fun k hk=> Nat.le_trans (Nat.le_trans j.size O.ch.size) hk) Try.underlying27 Try.sizeOf79 Try.zeroValue79 (by decide)) <| rc (OblR.tookM 2 [6] _ Z Z Z Z fun V Q U O D ρ σ X Y J L M hdd=> by have a0 : Q 35 = h58 := D.g 0 Z; have k1 := X 2 (.head _) _ Z; have e0 := (J 2 (.head _) _ Z).1; rw [e0] at k1 ⊢; exact took_appendPT Z ((tr_root k1.2.2).ptr).bx (k1.2.2.2 _ (.head _)) a0 (trP.nopin (X 6 (.tail _ (.head _)) _ Z).2.2) (L 6 (.tail _ (.head _)) _ _ Z Z Z Z).symm Y hdd k1.2.1 (X 6 (.tail _ (.head _)) _ Z).2.1 (fun k hk=> Nat.le_trans (Nat.le_trans j.size O.ch.size) hk) (fun k hk=> SP.lt _ k1.2.2 hk) Try.underlying27 el_79 e60) <| rp (fun V Q U O D=> of_fieldAddr_tr ((tr_root (q.own 2 _ Z).2).ptr).ad ((O.old 3 Z).trans h3) ff_29_0 Try.sizeOf27 (by decide) (padd_zero ((tr_root (q.own 2 _ Z).2).ptr).ad)) <| rc (OblR.tookS 7 _ _ Z Z Z Z Z fun V Q U O D u S X I Y J L M=> by have a0 : Q 39 = u11 := D.g 0 Z; exact took_putP I.2 (L _ _ Z Z Z Z).symm a0 Y I.1 Try.sizeOf27 (fun _ _ _ h=> h)) <| rz
 intro done ρ σ A R w y s
 obtain ⟨h2, h3⟩ := k2 s.rg h2 h3
 have z61 := s.inivR 0 Z
 have z62 := s.inivR 1 Z
 obtain ⟨u63, e_u63⟩ : ∃ u, ρ 9 = u := ⟨_, Z⟩
 obtain ⟨S64, eS_u11⟩ : ∃ S, σ 9 = S := ⟨_, Z⟩
 replace B := s.lowK B C K (q.geK (⟨.inr (fun k h => .inr h), ⟨.inl Z, ⟨fun _ h => .inl h, N⟩⟩⟩))
 replace j : Ch (ownsB (.pointer (some ⟨b0, 0, none⟩))) w0 w := j.tr s.ch (q.geK (⟨.inr (fun k h => .inr h), ⟨.inl Z, ⟨fun _ h => .inl h, N⟩⟩⟩))
 replace q := s.left y [(0, ob (.pointer (some ⟨b0, 0, none⟩)) (.box B0 110 E_spec_l1Cur x17.2)), (1, ob (.pointer (some ⟨b2_1, 0, none⟩)) (.box w0.heap.size 29 E_impl_RuleSet ([] : List T_impl_Rule))), (9, ⟨u63, S64, .gen (geB w0.heap.size) (fixP u11 (trP (oPt 29 (oBx (oSl 79 (oBx (oSl 82 (oRd E_impl_Test)))))) (x5.1 ++ [([] : List T_impl_Test)]) []))⟩)] ⟨Z, Z, z61, Z, Z, ⟨Z, Z, z62, Z, Z, ⟨Z, Z, e_u63, eS_u11, Z, N⟩⟩⟩
 replace d := s.avok
 replace q : IniOK [ob (.pointer (some ⟨b0, 0, none⟩)) (.box B0 110 E_spec_l1Cur x17.2), ob (.pointer (some ⟨b2_1, 0, none⟩)) (.box w0.heap.size 29 E_impl_RuleSet ([] : List T_impl_Rule)), ⟨u11, S64, trR (geB w0.heap.size) (oPt 29 (oBx (oSl 79 (oBx (oSl 82 (oRd E_impl_Test)))))) (x5.1 ++ [([] : List T_impl_Test)]) []⟩] A w := q.refix 2 Z
 refine HT.sx [ob (.pointer (some ⟨b0, 0, none⟩)) (.box B0 110 E_spec_l1Cur x17.2), ob (.pointer (some ⟨b2_1, 0, none⟩)) (.box w0.heap.size 29 E_impl_RuleSet ([] : List T_impl_Rule)), ⟨u11, S64, trR (geB w0.heap.size) (oPt 29 (oBx (oSl 79 (oBx (oSl 82 (oRd E_impl_Test)))))) (x5.1 ++ [([] : List T_impl_Test)]) []⟩] (⟨_, true, [2], some (.nul), false, fun A => .rep E_impl_RuleSet A (x5.1 ++ [([] : List T_impl_Test)])⟩ :: ⟨_, true, [1], some (.box w0.heap.size 29 E_impl_RuleSet (x5.1 ++ [([] : List T_impl_Test)])), false, fun A => .any⟩ :: []) (up (ua (UAll.nil))) q d ?_ ?_
 exact rc (OblR.tookS 2 .nul _ Z Z Z Z Z fun V Q U O D u S X I Y J L M=> by have a0 : Q 3 = u11 := (O.old 3 Z).trans h3; exact frz_loadT I.2 (a0.trans (J _ Z).1.symm) Y Try.isAgg29 Try.sizeOf29) <| rc (OblR.took 1 _ _ Z Z Z Z Z fun V Q U O D u X Y J L M=> by have a0 : Q 2 = (.pointer (some ⟨b2_1, 0, none⟩)) := (O.old 2 Z).trans h2; have a1 : Rep E_impl_RuleSet V U (Q 40) (x5.1 ++ [([] : List T_impl_Test)]) := D.g 0 Z; exact took_store a1 a0 (J _ Z) X Y (FldS.id _) Try.sizeOf29 Z) <| rz
 intro done ρ σ A R w y s
 replace h2 := k1 s.rg h2
 have z65 := s.inivR 0 Z
 have z66 := s.inivR 1 Z
 have z67 := s.on y 4 1 Z Z Z Z Z z66
 replace B := s.lowK B C K (q.geK (⟨.inr (fun k h => .inr h), ⟨.inl Z, ⟨fun _ h => .inl h, N⟩⟩⟩))
 replace j : Ch (ownsB (.pointer (some ⟨b0, 0, none⟩))) w0 w := j.tr s.ch (q.geK (⟨.inr (fun k h => .inr h), ⟨.inl Z, ⟨fun _ h => .inl h, N⟩⟩⟩))
 replace q := s.left y [(0, ob (.pointer (some ⟨b0, 0, none⟩)) (.box B0 110 E_spec_l1Cur x17.2)), (4, ob (.pointer (some ⟨b2_1, 0, none⟩)) (.box w0.heap.size 29 E_impl_RuleSet (x5.1 ++ [([] : List T_impl_Test)])))] ⟨Z, Z, z65, Z, Z, ⟨Z, Z, z67, Z, Z, N⟩⟩
 replace d := s.avok
 refine HT.ret ?_
 obtain rfl := si c
 obtain ⟨v_2, e_2, p_2⟩ := res_cell (q.ok 1 _ Z).1 h2 Try.isAgg29 Try.sizeOf29 (fun _ _ h => h)
 replace q : IniOK [ob (.pointer (some ⟨b0, 0, none⟩)) (.box B0 110 E_spec_l1Cur x17.2)] A w := q.sub [(0, ob (.pointer (some ⟨b0, 0, none⟩)) (.box B0 110 E_spec_l1Cur x17.2))] ⟨Z, Z, N⟩
 obtain ⟨A1, hA1, hG1⟩ := GPost.of q d B (q.geK (⟨.inr (fun k h => .inr h), N⟩)) j
 exact ⟨.inr Z, [v_2], ⟨e_2, N⟩, A1, hG1, p_2.down hA1⟩
 have c := cnd_f c57 c
 refine HT.skip ?_
 refine HT.sx [ob (.pointer (some ⟨b0, 0, none⟩)) (.box B0 110 E_spec_l1Cur x17.2), ob (.pointer (some ⟨b2_1, 0, none⟩)) (.box w0.heap.size 29 E_impl_RuleSet ([] : List T_impl_Rule)), ⟨u11, S13, trR (geB w0.heap.size) (oPt 29 (oBx (oSl 79 (oBx (oSl 82 (oRd E_impl_Test)))))) x5.1 []⟩] (⟨_, true, [2], some (.nul), false, fun A => .rep E_impl_RuleSet A x5.1⟩ :: ⟨_, true, [1], some (.box w0.heap.size 29 E_impl_RuleSet x5.1), false, fun A => .any⟩ :: []) (up (ua (UAll.nil))) q d ?_ ?_
 exact rc (OblR.tookS 2 .nul _ Z Z Z Z Z fun V Q U O D u S X I Y J L M=> by have a0 : Q 3 = u11 := (O.old 3 Z).trans h3; exact frz_loadT I.2 (a0.trans (J _ Z).1.symm) Y Try.isAgg29 Try.sizeOf29) <| rc (OblR.took 1 _ _ Z Z Z Z Z fun V Q U O D u X Y J L M=> by have a0 : Q 2 = (.pointer (some ⟨b2_1, 0, none⟩)) := (O.old 2 Z).trans h2; have a1 : Rep E_impl_RuleSet V U (Q 40) x5.1 := D.g 0 Z; exact took_store a1 a0 (J _ Z) X Y (FldS.id _) Try.sizeOf29 Z) <| rz
 intro done ρ σ A R w y s
 replace h2 := k1 s.rg h2
 have z68 := s.inivR 0 Z
 have z69 := s.inivR 1 Z
 have z70 := s.on y 4 1 Z Z Z Z Z z69
 replace B := s.lowK B C K (q.geK (⟨.inr (fun k h => .inr h), ⟨.inl Z, ⟨fun _ h => .inl h, N⟩⟩⟩))
 replace j : Ch (ownsB (.pointer (some ⟨b0, 0, none⟩))) w0 w := j.tr s.ch (q.geK (⟨.inr (fun k h => .inr h), ⟨.inl Z, ⟨fun _ h => .inl h, N⟩⟩⟩))
 replace q := s.left y [(0, ob (.pointer (some ⟨b0, 0, none⟩)) (.box B0 110 E_spec_l1Cur x17.2)), (4, ob (.pointer (some ⟨b2_1, 0, none⟩)) (.box w0.heap.size 29 E_impl_RuleSet x5.1))] ⟨Z, Z, z68, Z, Z, ⟨Z, Z, z70, Z, Z, N⟩⟩
 replace d := s.avok
 refine HT.ret ?_
 obtain rfl := si c
 obtain ⟨v_2, e_2, p_2⟩ := res_cell (q.ok 1 _ Z).1 h2 Try.isAgg29 Try.sizeOf29 (fun _ _ h => h)
 replace q : IniOK [ob (.pointer (some ⟨b0, 0, none⟩)) (.box B0 110 E_spec_l1Cur x17.2)] A w := q.sub [(0, ob (.pointer (some ⟨b0, 0, none⟩)) (.box B0 110 E_spec_l1Cur x17.2))] ⟨Z, Z, N⟩
 obtain ⟨A1, hA1, hG1⟩ := GPost.of q d B (q.geK (⟨.inr (fun k h => .inr h), N⟩)) j
 exact ⟨.inr Z, [v_2], ⟨e_2, N⟩, A1, hG1, p_2.down hA1⟩
def M_spec_DrawMonotoneViolation (fu : Nat) (p0 : List Int) : Option T_impl_RuleSet :=
 cl true (M_spec_l1New fu p0) fun x3 =>
 cl true (M_spec_l14Any fu x3) fun x6 =>
 some x6.1
theorem M_spec_DrawMonotoneViolation_ok {fu : Nat} {A0 : Av} {p0 : List Int} {r : T_impl_RuleSet} (c : M_spec_DrawMonotoneViolation fu p0 = some r) {w : World} {v0 : Value} (d : AvOK A0 w) (h0 : Rep (eSl (eInt .u8)) A0 w v0 p0) :
 Calls Try.prog 24 #[v0] w fun e w' => ∃ v, e = .returned v ∧ (Rep E_impl_RuleSet A0 w' v r ∧ Fr w w') := by
 unfold M_spec_DrawMonotoneViolation at c
 obtain ⟨w0,hw0,j,C⟩ := pw d
 have hA00 : AvOK A0 w0 := C
 rw [fw hw0]
 obtain ⟨A,hAe,B,d,q⟩ := pa d
 refine calls_of_HT2 [.cell 2 29] Try.func24 Try.ntmps24 (by decide) Z Z (nb Z) ?_
 intro R hR
 have f_v0 : Rep (eSl (eInt .u8)) A w v0 p0 := hAe ▸ h0
 replace h0 : R 0 = v0 := hR 0 _ Z
 refine HT.sx [] (⟨_, true, [], some (.box w0.heap.size 29 E_impl_RuleSet ([] : List T_impl_Rule)), true, fun A => .any⟩ :: []) (ua (UAll.nil)) q d ?_ ?_
 exact rc (OblR.made _ Z Z Z Z fun V Q U O D=> by exact made_alloc Try.zeroValue29 (fun A w=> rep1_nil) (Nat.le_trans j.size O.ch.size)) <| rz
 intro done ρ σ A R w y s
 replace h0 := k1 s.rg h0
 obtain ⟨b2_0, e_b2_0⟩ := s.boxv y 0 Z Z
 have h2 := s.ov y 0 0 e_b2_0
 replace f_v0 := f_v0.stp s.stp
 obtain ⟨B,j,d⟩ := s.s B C j q N
 replace q := s.left y [(0, ob (.pointer (some ⟨b2_0, 0, none⟩)) (.box w0.heap.size 29 E_impl_RuleSet ([] : List T_impl_Rule)))] ⟨Z, Z, e_b2_0, Z, Z, N⟩
 refine HT.seq ?_
 refine SG.of ?_
 refine SG.textR [ob (.pointer (some ⟨b2_0, 0, none⟩)) (.box w0.heap.size 29 E_impl_RuleSet ([] : List T_impl_Rule))] (rR v0 :: []) 1 Z Z Z (by kernel_rfl) (by kernel_rfl) (Wf.mk' (by kernel_rfl) (ur (UAll.nil)) (by kernel_rfl) (by kernel_rfl)) q d (N) ?_ ?_
 exact rm h0 <| rz
 intro done ρ σ A R w y s
 replace h2 := k1 s.rg h2
 have z2 := s.inivR 0 Z
 have h3 := s.r y 0 Z
 replace f_v0 := f_v0.stp s.stp
 obtain ⟨B,j,d⟩ := s.s B C j q ⟨Z, N⟩
 replace q := s.left y [(0, ob (.pointer (some ⟨b2_0, 0, none⟩)) (.box w0.heap.size 29 E_impl_RuleSet ([] : List T_impl_Rule)))] ⟨Z, Z, z2, Z, Z, N⟩
 obtain ⟨x3, q4, c⟩ := cl_some c
 have hFz : w0.heap.size ≤ w.heap.size := j.size
 refine SG.op 4 Z Z Z Z (call_run Try.call50 (M_spec_l1New_ok (q4 Z) d (f_v0.eq h3))) ?_
 rintro v_ w ⟨b5, A, hG1, hv⟩ R n hd
 obtain ⟨hO2, hst⟩ := GPost.next0 q d hG1
 replace q := hO2
 replace d := hG1.avok
 replace B : ∀ b o, A0 b o → A b o := fun b o h => hG1.low b o (B b o h)
 replace j : Fr w0 w := j.trans hG1.ch.no
 replace q := q.reX (B' := w0.heap.size) 0 Z hFz
 replace q : IniOK [ob (.pointer (some ⟨b5, 0, none⟩)) (.box w0.heap.size 110 E_spec_l1Cur x3), ob (.pointer (some ⟨b2_0, 0, none⟩)) (.box w0.heap.size 29 E_impl_RuleSet ([] : List T_impl_Rule))] A w := q
 replace h2 := (n 2 Z).trans h2
 replace h3 := (n 3 Z).trans h3
 replace f_v0 := f_v0.stp hst
 have h4 : R 4 = (.pointer (some ⟨b5, 0, none⟩)) := hd.trans hv
 clear hFz hG1 hv n hd
 obtain ⟨x6, q7, c⟩ := cl_some c
 have hFz : w0.heap.size ≤ w.heap.size := j.size
 refine SG.op 5 Z Z Z Z (call_run Try.call49 (M_spec_l14Any_ok (q7 Z) d h4 (q.sub [(0, ob (.pointer (some ⟨b5, 0, none⟩)) (.box w0.heap.size 110 E_spec_l1Cur x3))] ⟨Z, Z, N⟩))) ?_
 rintro v_ w ⟨A, hG1, hv⟩ R n hd
 have hst := stp_call d hG1 (q.ok 0 _ Z).2
 replace B : ∀ b o, A0 b o → A b o := low_call B C (q.ge (⟨Z, ⟨Z, N⟩⟩)) 0 Z hG1
 replace j : Fr w0 w := j.tr hG1.ch (fun k hk => (q.ge (⟨Z, ⟨Z, N⟩⟩)) k ⟨0, _, Z, hk⟩)
 replace q := GPost.next q d 0 Z hG1
 replace d := hG1.avok
 replace q : IniOK [ob (.pointer (some ⟨b5, 0, none⟩)) (.box w0.heap.size 110 E_spec_l1Cur x6.2), ob (.pointer (some ⟨b2_0, 0, none⟩)) (.box w0.heap.size 29 E_impl_RuleSet ([] : List T_impl_Rule))] A w := q
 replace h2 := (n 2 Z).trans h2
 replace h4 := (n 4 Z).trans h4
 obtain ⟨u8, h5, f_u8⟩ : ∃ u, R 5 = u ∧ Rep E_impl_RuleSet A w u x6.1 := ⟨_, Z, hd ▸ hv⟩
 clear hFz hG1 hv n hd
 refine SG.textR [ob (.pointer (some ⟨b5, 0, none⟩)) (.box w0.heap.size 110 E_spec_l1Cur x6.2), ob (.pointer (some ⟨b2_0, 0, none⟩)) (.box w0.heap.size 29 E_impl_RuleSet ([] : List T_impl_Rule))] (rA :: rR (.pointer (some ⟨b5, 0, none⟩)) :: rR u8 :: ⟨_, true, [1], some (.box w0.heap.size 29 E_impl_RuleSet x6.1), false, fun A => .any⟩ :: []) 4 Z Z Z (by kernel_rfl) (by kernel_rfl) (Wf.mk' (by kernel_rfl) (ua (ur (ur (ua (UAll.nil))))) (by kernel_rfl) (by kernel_rfl)) q d (⟨⟨Z, Z, Z, N⟩, ⟨⟨Z, Z, Z, h4⟩, ⟨⟨Z, Z, Z, h5⟩, N⟩⟩⟩) ?_ ?_
 exact rc (OblR.took 1 _ _ Z Z Z Z Z fun V Q U O D u X Y J L M=> by have a0 : Q 2 = (.pointer (some ⟨b2_0, 0, none⟩)) := (O.old 2 Z).trans h2; have a1 : Q 5 = u8 := D.g 0 Z; have ra1 := (f_u8.stp O.stp).eq a1; exact took_store ra1 a0 (J _ Z) X Y (FldS.id _) Try.sizeOf29 Z) <| rz
 intro done ρ σ A R w y s
 replace h2 := k1 s.rg h2
 have z9 := s.inivR 0 Z
 have z10 := s.inivR 1 Z
 have z11 := s.on y 5 3 Z Z Z Z Z z10
 obtain ⟨B,j,d⟩ := s.s B C j q ⟨Z, ⟨Z, N⟩⟩
 replace q := s.left y [(5, ob (.pointer (some ⟨b2_0, 0, none⟩)) (.box w0.heap.size 29 E_impl_RuleSet x6.1))] ⟨Z, Z, z11, Z, Z, N⟩
 refine SG.fin Z ?_
 refine HT.ret ?_
 obtain rfl := si c
 obtain ⟨v_2, e_2, p_2⟩ := res_cell (q.ok 0 _ Z).1 h2 Try.isAgg29 Try.sizeOf29 B
 exact ⟨.inr Z, [v_2], ⟨e_2, N⟩, p_2, j⟩
def M_impl_within (fu : Nat) (p0 : Int) (p1 : Int) (p2 : Int) : Option Bool :=
 bd ((decide (p1 ≤ p0)) && (decide (p0 ≤ p2))) fun x1 =>
 some x1
theorem M_impl_within_ok {fu : Nat} {A : Av} {p0 : Int} {p1 : Int} {p2 : Int} {r : Bool} (c : M_impl_within fu p0 p1 p2 = some r) {w : World} {v0 : Value} {v1 : Value} {v2 : Value} (d : AvOK A w) (h0 : v0 = .int .i64 p0) (h1 : v1 = .int .i64 p1) (h2 : v2 = .int .i64 p2) :
 Calls Try.prog 60 #[v0, v1, v2] w fun e w' => ∃ v, e = .returned v ∧ (v = .bool r ∧ Fr w w') := by
 unfold M_impl_within at c
 obtain ⟨w0,hw0,j⟩ := pf w
 rw [fw hw0]
 refine calls_of_HT2 [.tmp 6] Try.func60 Try.ntmps60 (by decide) Z Z (nb Z) ?_
 intro R hR
 replace h0 : R 0 = .int .i64 p0 := (hR 0 _ Z).trans h0
 replace h1 : R 1 = .int .i64 p1 := (hR 1 _ Z).trans h1
 replace h2 : R 2 = .int .i64 p2 := (hR 2 _ Z).trans h2
 refine HT.su d j (eB false :: []) ?_ ?_
 exact op (fun Q U W H D=> of_assign Z) <| oz
 intro R w m n p d j
 obtain ⟨h0, h1, h2⟩ := k3 n h0 h1 h2
 refine HT.seq ?_
 obtain ⟨x1, q2, c⟩ := bd_some c
 refine HT.u d j (eI p0 :: eI p1 :: eB (decide (p1 ≤ p0)) :: eB (decide (p1 ≤ p0)) :: gI (true && ((decide (p1 ≤ p0)) == true)) p0 :: gI (true && ((decide (p1 ≤ p0)) == true)) p2 :: gB (true && ((decide (p1 ≤ p0)) == true)) (decide (p0 ≤ p2)) :: eB x1 :: eB x1 :: []) ?_ ?_
 exact om h0 <| om h1 <| op (fun Q U W H D=> of_geq (D.g 0 Z) (D.g 1 Z)) <| ov <| gm 3 true h0 <| gm 3 true h2 <| og 3 true (fun G Q U W H D=> of_leq (D.h 0 G Z) (D.h 1 G Z)) <| op (fun Q U W H D=> of_pick (decide (p1 ≤ p0)) (D.g 0 Z) (fun hc=> by have a1 : Q 13 = .bool (decide (p0 ≤ p2)) := D 1 _ _ _ Z Z Z Z (g_and Z (beq_of hc)); show _ = Value.bool x1; rw [q2, hc]; exact a1) (fun hc=> by show _ = Value.bool x1; rw [q2, hc]; exact Z)) <| oa <| oz
 intro R w m n p d j
 have h6 := p.r 8 Z
 refine HT.ret ?_
 obtain rfl := si c
 exact ⟨.inr Z, [R 6], ⟨Z, N⟩, h6, j⟩
def M_impl_isFeature (fu : Nat) (p0 : Int) : Option Bool :=
 cl true (M_impl_within fu p0 0 5) fun x1 =>
 some x1
theorem M_impl_isFeature_ok {fu : Nat} {A : Av} {p0 : Int} {r : Bool} (c : M_impl_isFeature fu p0 = some r) {w : World} {v0 : Value} (d : AvOK A w) (h0 : v0 = .int .i64 p0) :
 Calls Try.prog 61 #[v0] w fun e w' => ∃ v, e = .returned v ∧ (v = .bool r ∧ Fr w w') := by
 unfold M_impl_isFeature at c
 obtain ⟨w0,hw0,j⟩ := pf w
 rw [fw hw0]
 refine calls_of_HT2 [.tmp 2] Try.func61 Try.ntmps61 (by decide) Z Z (nb Z) ?_
 intro R hR
 replace h0 : R 0 = .int .i64 p0 := (hR 0 _ Z).trans h0
 refine HT.su d j (eB false :: []) ?_ ?_
 exact op (fun Q U W H D=> of_assign Z) <| oz
 intro R w m n p d j
 replace h0 := k1 n h0
 obtain ⟨x1, q2, c⟩ := cl_some c
 refine HT.su d j (eI p0 :: eB x1 :: eB x1 :: []) ?_ ?_
 exact om h0 <| op (fun Q U W H D=> of_call Try.call60 (M_impl_within_ok (q2 Z) (d.fr W.size) (D.g 0 Z) Z Z)) <| oa <| oz
 intro R w m n p d j
 have h2 := p.r 2 Z
 refine HT.ret ?_
 obtain rfl := si c
 exact ⟨.inr Z, [R 2], ⟨Z, N⟩, h2, j⟩
def M_impl_isThreshold (fu : Nat) (p0 : Int) : Option Bool :=
 cl true (M_impl_within fu p0 1 1000) fun x1 =>
 some x1
theorem M_impl_isThreshold_ok {fu : Nat} {A : Av} {p0 : Int} {r : Bool} (c : M_impl_isThreshold fu p0 = some r) {w : World} {v0 : Value} (d : AvOK A w) (h0 : v0 = .int .i64 p0) :
 Calls Try.prog 62 #[v0] w fun e w' => ∃ v, e = .returned v ∧ (v = .bool r ∧ Fr w w') := by
 unfold M_impl_isThreshold at c
 obtain ⟨w0,hw0,j⟩ := pf w
 rw [fw hw0]
 refine calls_of_HT2 [.tmp 2] Try.func62 Try.ntmps62 (by decide) Z Z (nb Z) ?_
 intro R hR
 replace h0 : R 0 = .int .i64 p0 := (hR 0 _ Z).trans h0
 refine HT.su d j (eB false :: []) ?_ ?_
 exact op (fun Q U W H D=> of_assign Z) <| oz
 intro R w m n p d j
 replace h0 := k1 n h0
 obtain ⟨x1, q2, c⟩ := cl_some c
 refine HT.su d j (eI p0 :: eB x1 :: eB x1 :: []) ?_ ?_
 exact om h0 <| op (fun Q U W H D=> of_call Try.call60 (M_impl_within_ok (q2 Z) (d.fr W.size) (D.g 0 Z) Z Z)) <| oa <| oz
 intro R w m n p d j
 have h2 := p.r 2 Z
 refine HT.ret ?_
 obtain rfl := si c
 exact ⟨.inr Z, [R 2], ⟨Z, N⟩, h2, j⟩
def M_impl_IsValidRules_L1 (fu : Nat) (p0 : T_impl_RuleSet) (y6 : Int) : Nat → Int → Option (Ex Bool Unit)
 | 0, _ => none
 | k + 1, y19 =>
 bif (decide (y19 < ((gtD p0 y6).length : Int))) then (
 ck (inR y19 (gtD p0 y6).length) <|
 cl true (M_impl_isFeature fu ((gtD (gtD p0 y6) y19).1)) fun x26 =>
 cl (true && ((!x26) == false)) (M_impl_isThreshold fu ((gtD (gtD p0 y6) y19).2.1)) fun x28 =>
 bd ((!x26) || (!x28)) fun x30 =>
 ck (!((true && (x30 == false)) && ((decide (0 < y19)) == true)) || i64B (y19 - 1)) <|
 ck (!((true && (x30 == false)) && ((decide (0 < y19)) == true)) || inR (y19 - 1) (gtD p0 y6).length) <|
 bd ((decide (0 < y19)) && (decide (((gtD (gtD p0 y6) y19).1) ≤ ((gtD (gtD p0 y6) (y19 - 1)).1)))) fun x34 =>
 bd (x30 || x34) fun x36 =>
 bif x36 then (
 some (Ex.ret false)
 ) else (
 ck (i64B (y19 + 1)) <|
 M_impl_IsValidRules_L1 fu p0 y6 k (y19 + 1)
 )
 ) else (
 some (Ex.go ())
 )
def M_impl_IsValidRules_L0 (fu : Nat) (p0 : T_impl_RuleSet) : Nat → Int → Option (Ex Bool Unit)
 | 0, _ => none
 | k + 1, y6 =>
 bif (decide (y6 < (p0.length : Int))) then (
 ck (inR y6 p0.length) <|
 cl true (M_impl_within fu ((gtD p0 y6).length : Int) 1 3) fun x12 =>
 bif (!x12) then (
 some (Ex.ret false)
 ) else (
 cl true (M_impl_IsValidRules_L1 fu p0 y6 fu 0) fun rl16 =>
 exM rl16 (fun r => some (Ex.ret r)) fun s18 =>
 ck (i64B (y6 + 1)) <|
 M_impl_IsValidRules_L0 fu p0 k (y6 + 1)
 )
 ) else (
 some (Ex.go ())
 )
def M_impl_IsValidRules (fu : Nat) (p0 : T_impl_RuleSet) : Option Bool :=
 cl true (M_impl_IsValidRules_L0 fu p0 fu 0) fun rl3 =>
 exM rl3 (fun r => some r) fun s5 =>
 cl true (M_impl_within fu (p0.length : Int) 1 3) fun x41 =>
 some x41
theorem M_impl_IsValidRules_ok {fu : Nat} {A0 : Av} {p0 : T_impl_RuleSet} {r : Bool} (c : M_impl_IsValidRules fu p0 = some r) {w : World} {v0 : Value} (d : AvOK A0 w) (h0 : Rep E_impl_RuleSet A0 w v0 p0) :
 Calls Try.prog 34 #[v0] w fun e w' => ∃ v, e = .returned v ∧ (v = .bool r ∧ Fr w w') := by
 unfold M_impl_IsValidRules at c
 obtain ⟨w0,hw0,j,C⟩ := pw d
 have hA00 : AvOK A0 w0 := C
 rw [fw hw0]
 obtain ⟨A,hAe,B,d,q⟩ := pa d
 refine calls_of_HT2 [.tmp 2] Try.func34 Try.ntmps34 (by decide) Z Z (nb Z) ?_
 intro R hR
 have f_v0 : Rep E_impl_RuleSet A w v0 p0 := hAe ▸ h0
 replace h0 : R 0 = v0 := hR 0 _ Z
 refine HT.sx [] (⟨_, true, [], some (.box w0.heap.size 29 E_impl_RuleSet p0), true, fun A => .any⟩ :: rB false :: []) (ua (ur (UAll.nil))) q d ?_ ?_
 exact rc (OblR.made _ Z Z Z Z fun V Q U O D=> by have a0 : Q 0 = v0 := (O.old 0 Z).trans h0; have ra0 := (f_v0.stp O.stp).eq a0; exact made_box ra0 (Nat.le_trans j.size O.ch.size)) <| rp (fun V Q U O D=> of_assign Z) <| rz
 intro done ρ σ A R w y s
 obtain ⟨b1_0, e_b1_0⟩ := s.boxv y 0 Z Z
 have h1 := s.ov y 0 0 e_b1_0
 obtain ⟨B,j,d⟩ := s.s B C j q N
 replace q := s.left y [(0, ob (.pointer (some ⟨b1_0, 0, none⟩)) (.box w0.heap.size 29 E_impl_RuleSet p0))] ⟨Z, Z, e_b1_0, Z, Z, N⟩
 refine HT.seq ?_
 refine HT.su d j (eR (.pointer (some ⟨b1_0, 0, none⟩)) :: eF (.rep (eSl E_impl_Rule) A p0) :: eI (p0.length : Int) :: eI 0 :: []) ?_ ?_
 exact op (fun Q U W H D=> of_fieldAddr_raw ((H 1 Z).trans h1) ff_29_0 Try.sizeOf27 (by decide) Z) <| op (fun Q U W H D=> (of_load_box ((q.fr W).ok 0 _ Z).1 (D.g 0 Z) fl_impl_RuleSet_0 Z Try.isAgg27 Try.sizeOf27)) <| op (fun Q U W H D=> of_len_sl (aT := #[]) (D.g 0 Z) Try.underlying27) <| op (fun Q U W H D=> of_move Z) <| oz
 intro R w m n p d j
 replace h1 := k1 n h1
 obtain ⟨u2, h8, f_u2⟩ : ∃ u, R 8 = u ∧ Rep (eSl E_impl_Rule) A w u p0 := ⟨_, Z, p 1 _ _ Z Z Z⟩
 have h9 := p.r 2 Z
 have h10 := p.r 3 Z
 replace q := q.fr m
 obtain ⟨rl3, q4, c⟩ := cl_some c
 replace q4 := q4 Z
 refine HT.cut0 (fun R w => ∃ A : Av, ∃ (s5 : Unit), rl3 = Ex.go s5 ∧ AvOK A w ∧ Fr w0 w ∧ (∀ b o, A0 b o → A b o) ∧ IniOK [ob (.pointer (some ⟨b1_0, 0, none⟩)) (.box w0.heap.size 29 E_impl_RuleSet p0)] A w ∧ R 1 = (.pointer (some ⟨b1_0, 0, none⟩))) ?_ ?_
 refine HT.block ?_
 refine HT.loop (fun k R w => ∃ A : Av, ∃ (y6 : Int), M_impl_IsValidRules_L0 fu p0 k y6 = some rl3 ∧ AvOK A w ∧ Fr w0 w ∧ (∀ b o, A0 b o → A b o) ∧ IniOK [ob (.pointer (some ⟨b1_0, 0, none⟩)) (.box w0.heap.size 29 E_impl_RuleSet p0)] A w ∧ R 1 = (.pointer (some ⟨b1_0, 0, none⟩)) ∧ R 8 = u2 ∧ R 9 = .int .i64 (p0.length : Int) ∧ R 10 = .int .i64 y6 ∧ Rep (eSl E_impl_Rule) A w u2 p0) fu ⟨_, _, q4, d, j, B, q, h1, h8, h9, h10, f_u2⟩ ?_
 have hr0 := c; clear c q4
 rintro k R w ⟨A, y6, c, d, j, B, q, h1, h8, h9, h10, f_u2⟩
 rcases k with _ | k
 cases (show none = some _ from c)
 rw [M_impl_IsValidRules_L0] at c
 refine HT.su d j (eB (decide (y6 < (p0.length : Int))) :: []) ?_ ?_
 exact op (fun Q U W H D=> of_lss ((H 10 Z).trans h10) ((H 9 Z).trans h9)) <| oz
 intro R w m n p d j
 obtain ⟨h1, h8, h9, h10⟩ := k4 n h1 h8 h9 h10
 have h11 := p.r 0 Z
 replace f_u2 := f_u2.fr m
 replace q := q.fr m
 refine HT.seq ?_
 refine HT.cond (decide (y6 < (p0.length : Int))) h11 (fun c7 => ?_) (fun c7 => ?_)
 have c := cnd_t c7 c
 refine HT.skip ?_
 refine HT.seq ?_
 refine HT.block ?_
 obtain ⟨e8, c⟩ := ck_some c
 refine HT.sx [ob (.pointer (some ⟨b1_0, 0, none⟩)) (.box w0.heap.size 29 E_impl_RuleSet p0)] ((rF fun A => .qtr E_impl_Rule A (gtD p0 y6)) :: (rF fun A => .rep E_impl_Rule A (gtD p0 y6)) :: ⟨_, true, [], some (.box w0.heap.size 79 E_impl_Rule ([] : List T_impl_Test)), true, fun A => .any⟩ :: ⟨_, true, [3], some (.box w0.heap.size 79 E_impl_Rule (gtD p0 y6)), false, fun A => .any⟩ :: []) (UAll.cons ust_qtr (up (ua (ua (UAll.nil))))) q d ?_ ?_
 exact rp (fun V Q U O D=> of_indexAddr ((f_u2.stp O.stp).eq ((O.old 8 Z).trans h8)) ((O.old 10 Z).trans h10) Try.underlying27 Try.sizeOf79 e8) <| rp (fun V Q U O D=> (of_load (QRep.ptr (D.g 0 Z)) Try.isAgg79 Try.sizeOf79)) <| rc (OblR.made _ Z Z Z Z fun V Q U O D=> by exact made_alloc Try.zeroValue79 (fun A w=> rep1_nil) (Nat.le_trans j.size O.ch.size)) <| rc (OblR.took 3 _ _ Z Z Z Z Z fun V Q U O D u X Y J L M=> by have a1 : Rep E_impl_Rule V U (Q 13) (gtD p0 y6) := D.g 1 Z; obtain ⟨b, hb, hB', hbx⟩ := X; have hop' := L _ _ Z Z Z Z; exact took_store a1 (hop'.symm.trans hb) hb ⟨b, hb, hB', hbx⟩ Y (FldS.id _) Try.sizeOf79 Z) <| rz
 intro done ρ σ A R w y s
 obtain ⟨h1, h8, h9, h10⟩ := k4 s.rg h1 h8 h9 h10
 have z9 := s.inivR 0 Z
 obtain ⟨b4_9, e_b4_9⟩ := s.boxv y 4 Z Z
 have z11 := (s.opnR y 4 3 Z Z Z Z Z).symm.trans e_b4_9
 have h4 := s.ov y 3 2 z11
 replace f_u2 := f_u2.stp s.stp
 obtain ⟨B,j,d⟩ := s.s B C j q ⟨Z, N⟩
 replace q := s.left y [(0, ob (.pointer (some ⟨b1_0, 0, none⟩)) (.box w0.heap.size 29 E_impl_RuleSet p0)), (4, ob (.pointer (some ⟨b4_9, 0, none⟩)) (.box w0.heap.size 79 E_impl_Rule (gtD p0 y6)))] ⟨Z, Z, z9, Z, Z, ⟨Z, Z, e_b4_9, Z, Z, N⟩⟩
 refine HT.seq ?_
 obtain ⟨x12, q13, c⟩ := cl_some c
 refine HT.su d j (eR (.pointer (some ⟨b4_9, 0, none⟩)) :: eF (.rep (eSl E_impl_Test) A (gtD p0 y6)) :: eI ((gtD p0 y6).length : Int) :: eB x12 :: eB (!x12) :: []) ?_ ?_
 exact op (fun Q U W H D=> of_fieldAddr_raw ((H 4 Z).trans h4) ff_79_0 Try.sizeOf65 (by decide) Z) <| op (fun Q U W H D=> (of_load_box ((q.fr W).ok 1 _ Z).1 (D.g 0 Z) fl_impl_Rule_0 Z Try.isAgg65 Try.sizeOf65)) <| op (fun Q U W H D=> of_len_sl (aT := #[]) (D.g 0 Z) Try.underlying65) <| op (fun Q U W H D=> of_call Try.call60 (M_impl_within_ok (q13 Z) (d.fr W.size) (D.g 0 Z) Z Z)) <| op (fun Q U W H D=> of_not (D.g 0 Z)) <| oz
 intro R w m n p d j
 obtain ⟨h1, h4, h8, h9, h10⟩ := k5 n h1 h4 h8 h9 h10
 have h18 := p.r 4 Z
 replace f_u2 := f_u2.fr m
 replace q := q.fr m
 refine HT.cond (!x12) h18 (fun c14 => ?_) (fun c14 => ?_)
 have c := cnd_t c14 c
 refine HT.su d j (eB false :: []) ?_ ?_
 exact op (fun Q U W H D=> of_assign Z) <| oz
 intro R w m n p d j
 have h2 := p.r 0 Z
 replace q := q.fr m
 replace q : IniOK [] A w := q.sub [] N
 refine HT.ret ?_
 obtain rfl := si c
 have c := hr0
 replace c : some _ = some _ := c
 obtain rfl := si c
 exact ⟨.inr Z, [R 2], ⟨Z, N⟩, h2, j⟩
 have c := cnd_f c14 c
 refine HT.skip ?_
 refine HT.su d j (eR (.pointer (some ⟨b4_9, 0, none⟩)) :: eF (.rep (eSl E_impl_Test) A (gtD p0 y6)) :: eI ((gtD p0 y6).length : Int) :: eI 0 :: []) ?_ ?_
 exact op (fun Q U W H D=> of_fieldAddr_raw ((H 4 Z).trans h4) ff_79_0 Try.sizeOf65 (by decide) Z) <| op (fun Q U W H D=> (of_load_box ((q.fr W).ok 1 _ Z).1 (D.g 0 Z) fl_impl_Rule_0 Z Try.isAgg65 Try.sizeOf65)) <| op (fun Q U W H D=> of_len_sl (aT := #[]) (D.g 0 Z) Try.underlying65) <| op (fun Q U W H D=> of_move Z) <| oz
 intro R w m n p d j
 obtain ⟨h1, h4, h8, h9, h10⟩ := k5 n h1 h4 h8 h9 h10
 obtain ⟨u15, h20, f_u15⟩ : ∃ u, R 20 = u ∧ Rep (eSl E_impl_Test) A w u (gtD p0 y6) := ⟨_, Z, p 1 _ _ Z Z Z⟩
 have h21 := p.r 2 Z
 have h22 := p.r 3 Z
 replace f_u2 := f_u2.fr m
 replace q := q.fr m
 obtain ⟨rl16, q17, c⟩ := cl_some c
 replace q17 := q17 Z
 refine HT.cut0 (fun R w => ∃ A : Av, ∃ (s18 : Unit), rl16 = Ex.go s18 ∧ AvOK A w ∧ Fr w0 w ∧ (∀ b o, A0 b o → A b o) ∧ IniOK [ob (.pointer (some ⟨b1_0, 0, none⟩)) (.box w0.heap.size 29 E_impl_RuleSet p0)] A w ∧ R 1 = (.pointer (some ⟨b1_0, 0, none⟩)) ∧ R 8 = u2 ∧ R 9 = .int .i64 (p0.length : Int) ∧ R 10 = .int .i64 y6 ∧ Rep (eSl E_impl_Rule) A w u2 p0) ?_ ?_
 refine HT.block ?_
 refine HT.loop (fun k R w => ∃ A : Av, ∃ (y19 : Int), M_impl_IsValidRules_L1 fu p0 y6 k y19 = some rl16 ∧ AvOK A w ∧ Fr w0 w ∧ (∀ b o, A0 b o → A b o) ∧ IniOK [ob (.pointer (some ⟨b1_0, 0, none⟩)) (.box w0.heap.size 29 E_impl_RuleSet p0), ob (.pointer (some ⟨b4_9, 0, none⟩)) (.box w0.heap.size 79 E_impl_Rule (gtD p0 y6))] A w ∧ R 1 = (.pointer (some ⟨b1_0, 0, none⟩)) ∧ R 4 = (.pointer (some ⟨b4_9, 0, none⟩)) ∧ R 8 = u2 ∧ R 9 = .int .i64 (p0.length : Int) ∧ R 10 = .int .i64 y6 ∧ R 20 = u15 ∧ R 21 = .int .i64 ((gtD p0 y6).length : Int) ∧ R 22 = .int .i64 y19 ∧ Rep (eSl E_impl_Test) A w u15 (gtD p0 y6) ∧ Rep (eSl E_impl_Rule) A w u2 p0) fu ⟨_, _, q17, d, j, B, q, h1, h4, h8, h9, h10, h20, h21, h22, f_u15, f_u2⟩ ?_
 have hr1 := c; clear c q17
 rintro k R w ⟨A, y19, c, d, j, B, q, h1, h4, h8, h9, h10, h20, h21, h22, f_u15, f_u2⟩
 rcases k with _ | k
 cases (show none = some _ from c)
 rw [M_impl_IsValidRules_L1] at c
 refine HT.su d j (eB (decide (y19 < ((gtD p0 y6).length : Int))) :: []) ?_ ?_
 exact op (fun Q U W H D=> of_lss ((H 22 Z).trans h22) ((H 21 Z).trans h21)) <| oz
 intro R w m n p d j
 obtain ⟨h1, h4, h8, h9, h10, h20⟩ := k6 n h1 h4 h8 h9 h10 h20
 obtain ⟨h21, h22⟩ := k2 n h21 h22
 have h23 := p.r 0 Z
 replace f_u15 := f_u15.fr m
 replace f_u2 := f_u2.fr m
 replace q := q.fr m
 refine HT.seq ?_
 refine HT.cond (decide (y19 < ((gtD p0 y6).length : Int))) h23 (fun c20 => ?_) (fun c20 => ?_)
 have c := cnd_t c20 c
 refine HT.skip ?_
 refine HT.seq ?_
 refine HT.block ?_
 obtain ⟨e21, c⟩ := ck_some c
 refine HT.sx [ob (.pointer (some ⟨b1_0, 0, none⟩)) (.box w0.heap.size 29 E_impl_RuleSet p0), ob (.pointer (some ⟨b4_9, 0, none⟩)) (.box w0.heap.size 79 E_impl_Rule (gtD p0 y6))] (rI y19 :: (rF fun A => .qtr E_impl_Test A (gtD (gtD p0 y6) y19)) :: (rF fun A => .rep E_impl_Test A (gtD (gtD p0 y6) y19)) :: ⟨_, true, [], some (.box w0.heap.size 82 E_impl_Test (0, (0, false))), true, fun A => .any⟩ :: rI y19 :: ⟨_, true, [5], some (.box w0.heap.size 82 E_impl_Test (gtD (gtD p0 y6) y19)), false, fun A => .any⟩ :: []) (ur (UAll.cons ust_qtr (up (ua (ur (ua (UAll.nil))))))) q d ?_ ?_
 exact rm h22 <| rp (fun V Q U O D=> of_indexAddr ((f_u15.stp O.stp).eq ((O.old 20 Z).trans h20)) ((O.old 22 Z).trans h22) Try.underlying65 Try.sizeOf82 e21) <| rp (fun V Q U O D=> (of_load (QRep.ptr (D.g 0 Z)) Try.isAgg82 Try.sizeOf82)) <| rc (OblR.made _ Z Z Z Z fun V Q U O D=> by exact made_alloc Try.zeroValue82 (fun A w=> rep_pr rep1_int (rep_pr rep1_int rep1_bool)) (Nat.le_trans j.size O.ch.size)) <| ra <| rc (OblR.took 5 _ _ Z Z Z Z Z fun V Q U O D u X Y J L M=> by have a1 : Rep E_impl_Test V U (Q 26) (gtD (gtD p0 y6) y19) := D.g 1 Z; obtain ⟨b, hb, hB', hbx⟩ := X; have hop' := L _ _ Z Z Z Z; exact took_store a1 (hop'.symm.trans hb) hb ⟨b, hb, hB', hbx⟩ Y (FldS.id _) Try.sizeOf82 Z) <| rz
 intro done ρ σ A R w y s
 obtain ⟨h1, h4, h8, h9, h10, h20⟩ := k6 s.rg h1 h4 h8 h9 h10 h20
 obtain ⟨h21, h22⟩ := k2 s.rg h21 h22
 have z22 := s.inivR 0 Z
 have z23 := s.inivR 1 Z
 obtain ⟨b6_23, e_b6_23⟩ := s.boxv y 7 Z Z
 have z25 := (s.opnR y 7 5 Z Z Z Z Z).symm.trans e_b6_23
 have h6 := s.ov y 5 3 z25
 have h5 := s.r y 4 Z
 replace f_u15 := f_u15.stp s.stp
 replace f_u2 := f_u2.stp s.stp
 obtain ⟨B,j,d⟩ := s.s B C j q ⟨Z, ⟨Z, N⟩⟩
 replace q := s.left y [(0, ob (.pointer (some ⟨b1_0, 0, none⟩)) (.box w0.heap.size 29 E_impl_RuleSet p0)), (1, ob (.pointer (some ⟨b4_9, 0, none⟩)) (.box w0.heap.size 79 E_impl_Rule (gtD p0 y6))), (7, ob (.pointer (some ⟨b6_23, 0, none⟩)) (.box w0.heap.size 82 E_impl_Test (gtD (gtD p0 y6) y19)))] ⟨Z, Z, z22, Z, Z, ⟨Z, Z, z23, Z, Z, ⟨Z, Z, e_b6_23, Z, Z, N⟩⟩⟩
 refine HT.seq ?_
 obtain ⟨x26, q27, c⟩ := cl_some c
 obtain ⟨x28, q29, c⟩ := cl_some c
 obtain ⟨x30, q31, c⟩ := bd_some c
 obtain ⟨e32,e33,c⟩ := ck2 c
 obtain ⟨x34, q35, c⟩ := bd_some c
 obtain ⟨x36, q37, c⟩ := bd_some c
 refine HT.draw (by kernel_rfl) (l := eR (.pointer (some ⟨b6_23, 0, none⟩)) :: eI ((gtD (gtD p0 y6) y19).1) :: eB x26 :: eB (!x26) :: eB (!x26) :: gR (true && ((!x26) == false)) (.pointer (some ⟨b6_23, 1, none⟩)) :: gI (true && ((!x26) == false)) ((gtD (gtD p0 y6) y19).2.1) :: gB (true && ((!x26) == false)) x28 :: gB (true && ((!x26) == false)) (!x28) :: eB x30 :: eB x30 :: gI (true && (x30 == false)) y19 :: gB (true && (x30 == false)) (decide (0 < y19)) :: gB (true && (x30 == false)) (decide (0 < y19)) :: gR ((true && (x30 == false)) && ((decide (0 < y19)) == true)) (.pointer (some ⟨b4_9, 0, none⟩)) :: gF ((true && (x30 == false)) && ((decide (0 < y19)) == true)) (.rep (eSl E_impl_Test) A (gtD p0 y6)) :: gI ((true && (x30 == false)) && ((decide (0 < y19)) == true)) y19 :: gI ((true && (x30 == false)) && ((decide (0 < y19)) == true)) (y19 - 1) :: gF ((true && (x30 == false)) && ((decide (0 < y19)) == true)) (.qtr E_impl_Test A (gtD (gtD p0 y6) (y19 - 1))) :: gF ((true && (x30 == false)) && ((decide (0 < y19)) == true)) (.qtr (eInt .i64) A ((gtD (gtD p0 y6) (y19 - 1)).1)) :: gI ((true && (x30 == false)) && ((decide (0 < y19)) == true)) ((gtD (gtD p0 y6) (y19 - 1)).1) :: gR ((true && (x30 == false)) && ((decide (0 < y19)) == true)) (.pointer (some ⟨b6_23, 0, none⟩)) :: gI ((true && (x30 == false)) && ((decide (0 < y19)) == true)) ((gtD (gtD p0 y6) y19).1) :: gB ((true && (x30 == false)) && ((decide (0 < y19)) == true)) (decide (((gtD (gtD p0 y6) y19).1) ≤ ((gtD (gtD p0 y6) (y19 - 1)).1))) :: gB (true && (x30 == false)) x34 :: eB x36 :: []) (tl := []) (by kernel_rfl) (by kernel_rfl) (by kernel_rfl) (by kernel_rfl) ?_ ?_
 exact op (fun Q U W H D=> of_fieldAddr_raw ((H 6 Z).trans h6) ff_82_0 Try.sizeOf3 (by decide) Z) <| op (fun Q U W H D=> OpF.int (of_load_box ((q.fr W).ok 2 _ Z).1 (D.g 0 Z) fl_impl_Test_0 Z Try.isAgg3 Try.sizeOf3)) <| op (fun Q U W H D=> of_call Try.call61 (M_impl_isFeature_ok (q27 Z) (d.fr W.size) (D.g 0 Z))) <| op (fun Q U W H D=> of_not (D.g 0 Z)) <| ov <| og 4 false (fun G Q U W H D=> of_fieldAddr_raw ((H 6 Z).trans h6) ff_82_1 Try.sizeOf3 (by decide) Z) <| og 4 false (fun G Q U W H D=> OpF.int (of_load_box ((q.fr W).ok 2 _ Z).1 (D.h 0 G Z) fl_impl_Test_1 Z Try.isAgg3 Try.sizeOf3)) <| og 4 false (fun G Q U W H D=> of_call Try.call62 (M_impl_isThreshold_ok (q29 G) (d.fr W.size) (D.h 0 G Z))) <| og 4 false (fun G Q U W H D=> of_not (D.h 0 G Z)) <| op (fun Q U W H D=> of_pick (!x26) (D.g 0 Z) (fun hc=> by show _ = Value.bool x30; rw [q31, hc]; exact Z) (fun hc=> by have a2 : Q 35 = .bool (!x28) := D 1 _ _ _ Z Z Z Z (g_and Z (beq_of hc)); show _ = Value.bool x30; rw [q31, hc]; exact a2)) <| ov <| gm 10 false h5 <| og 10 false (fun G Q U W H D=> of_gtr (D.h 0 G Z) Z) <| og 10 false (fun G Q U W H D=> of_move (D.h 0 G Z)) <| og 13 true (fun G Q U W H D=> of_fieldAddr_raw ((H 4 Z).trans h4) ff_79_0 Try.sizeOf65 (by decide) Z) <| og 13 true (fun G Q U W H D=> (of_load_box ((q.fr W).ok 1 _ Z).1 (D.h 0 G Z) fl_impl_Rule_0 Z Try.isAgg65 Try.sizeOf65)) <| gm 13 true h5 <| og 13 true (fun G Q U W H D=> of_sub (D.h 0 G Z) Z (gd e32 G)) <| og 13 true (fun G Q U W H D=> of_indexAddr (D.h 0 G Z) (D.h 1 G Z) Try.underlying65 Try.sizeOf82 (gd e33 G)) <| og 13 true (fun G Q U W H D=> of_fieldAddr_q (qt (D.h 0 G Z)) ff_82_0 Try.sizeOf3 (by decide) fl_impl_Test_0 Z) <| og 13 true (fun G Q U W H D=> OpF.int (of_load (QRep.ptr (D.h 0 G Z)) Try.isAgg3 Try.sizeOf3)) <| og 13 true (fun G Q U W H D=> of_fieldAddr_raw ((H 6 Z).trans h6) ff_82_0 Try.sizeOf3 (by decide) Z) <| og 13 true (fun G Q U W H D=> OpF.int (of_load_box ((q.fr W).ok 2 _ Z).1 (D.h 0 G Z) fl_impl_Test_0 Z Try.isAgg3 Try.sizeOf3)) <| og 13 true (fun G Q U W H D=> of_geq (D.h 0 G Z) (D.h 1 G Z)) <| og 10 false (fun G Q U W H D=> of_pick (decide (0 < y19)) (D.h 0 G Z) (fun hc=> by have a1 : Q 50 = .bool (decide (((gtD (gtD p0 y6) y19).1) ≤ ((gtD (gtD p0 y6) (y19 - 1)).1))) := D 1 _ _ _ Z Z Z Z (g_and G (beq_of hc)); show _ = Value.bool x34; rw [q35, hc]; exact a1) (fun hc=> by show _ = Value.bool x34; rw [q35, hc]; exact Z)) <| op (fun Q U W H D=> of_pick x30 (D.g 0 Z) (fun hc=> by show _ = Value.bool x36; rw [q37, hc]; exact Z) (fun hc=> by have a2 : Q 51 = .bool x34 := D 1 _ _ _ Z Z Z Z (g_and Z (beq_of hc)); show _ = Value.bool x36; rw [q37, hc]; exact a2)) <| oz
 intro R w m n p
 obtain ⟨h1, h4, h8, h9, h10, h20⟩ := k6 n h1 h4 h8 h9 h10 h20
 obtain ⟨h21, h22⟩ := k2 n h21 h22
 have h52 := p.r 25 Z
 replace f_u15 := f_u15.fr m
 replace f_u2 := f_u2.fr m
 replace q := q.fr m
 replace q : IniOK [ob (.pointer (some ⟨b1_0, 0, none⟩)) (.box w0.heap.size 29 E_impl_RuleSet p0), ob (.pointer (some ⟨b4_9, 0, none⟩)) (.box w0.heap.size 79 E_impl_Rule (gtD p0 y6))] A w := q.sub [(0, ob (.pointer (some ⟨b1_0, 0, none⟩)) (.box w0.heap.size 29 E_impl_RuleSet p0)), (1, ob (.pointer (some ⟨b4_9, 0, none⟩)) (.box w0.heap.size 79 E_impl_Rule (gtD p0 y6)))] ⟨Z, Z, ⟨Z, Z, N⟩⟩
 replace d := d.fr m.size
 replace j := j.trans m
 refine HT.cond x36 h52 (fun c38 => ?_) (fun c38 => ?_)
 have c := cnd_t c38 c
 refine HT.su d j (eB false :: []) ?_ ?_
 exact op (fun Q U W H D=> of_assign Z) <| oz
 intro R w m n p d j
 have h2 := p.r 0 Z
 replace q := q.fr m
 replace q : IniOK [] A w := q.sub [] N
 refine HT.ret ?_
 obtain rfl := si c
 have c := hr1
 replace c : some _ = some _ := c
 obtain rfl := si c
 have c := hr0
 replace c : some _ = some _ := c
 obtain rfl := si c
 exact ⟨.inr Z, [R 2], ⟨Z, N⟩, h2, j⟩
 have c := cnd_f c38 c
 refine HT.skip ?_
 obtain ⟨e39, c⟩ := ck_some c
 refine HT.u d j (eI (y19 + 1) :: eI (y19 + 1) :: []) ?_ ?_
 exact op (fun Q U W H D=> of_add ((H 22 Z).trans h22) Z e39) <| ov <| oz
 intro R w m n p d j
 obtain ⟨h1, h4, h8, h9, h10, h20⟩ := k6 n h1 h4 h8 h9 h10 h20
 replace h21 := k1 n h21
 have h22 := p.r 1 Z
 replace f_u15 := f_u15.fr m
 replace f_u2 := f_u2.fr m
 replace q := q.fr m
 exact ei k (And.intro (Nat.lt_succ_self k) ⟨_, _, c, d, j, B, q, h1, h4, h8, h9, h10, h20, h21, h22, f_u15, f_u2⟩)
 have c := cnd_f c20 c
 refine HT.exit ?_
 obtain rfl := si c
 replace q : IniOK [ob (.pointer (some ⟨b1_0, 0, none⟩)) (.box w0.heap.size 29 E_impl_RuleSet p0)] A w := q.sub [(0, ob (.pointer (some ⟨b1_0, 0, none⟩)) (.box w0.heap.size 29 E_impl_RuleSet p0))] ⟨Z, Z, N⟩
 exact ei _ ⟨_, Z, d, j, B, q, h1, h8, h9, h10, f_u2⟩
 rintro R w ⟨A, s18, rfl, d, j, B, q, h1, h8, h9, h10, f_u2⟩
 have c := exM_go c
 obtain ⟨e40, c⟩ := ck_some c
 refine HT.u d j (eI (y6 + 1) :: eI (y6 + 1) :: []) ?_ ?_
 exact op (fun Q U W H D=> of_add ((H 10 Z).trans h10) Z e40) <| ov <| oz
 intro R w m n p d j
 obtain ⟨h1, h8, h9⟩ := k3 n h1 h8 h9
 have h10 := p.r 1 Z
 replace f_u2 := f_u2.fr m
 replace q := q.fr m
 exact ei k (And.intro (Nat.lt_succ_self k) ⟨_, _, c, d, j, B, q, h1, h8, h9, h10, f_u2⟩)
 have c := cnd_f c7 c
 refine HT.exit ?_
 obtain rfl := si c
 exact ei _ ⟨_, Z, d, j, B, q, h1⟩
 rintro R w ⟨A, s5, rfl, d, j, B, q, h1⟩
 have c := exM_go c
 obtain ⟨x41, q42, c⟩ := cl_some c
 refine HT.su d j (eR (.pointer (some ⟨b1_0, 0, none⟩)) :: eF (.rep (eSl E_impl_Rule) A p0) :: eI (p0.length : Int) :: eB x41 :: eB x41 :: []) ?_ ?_
 exact op (fun Q U W H D=> of_fieldAddr_raw ((H 1 Z).trans h1) ff_29_0 Try.sizeOf27 (by decide) Z) <| op (fun Q U W H D=> (of_load_box ((q.fr W).ok 0 _ Z).1 (D.g 0 Z) fl_impl_RuleSet_0 Z Try.isAgg27 Try.sizeOf27)) <| op (fun Q U W H D=> of_len_sl (aT := #[]) (D.g 0 Z) Try.underlying27) <| op (fun Q U W H D=> of_call Try.call60 (M_impl_within_ok (q42 Z) (d.fr W.size) (D.g 0 Z) Z Z)) <| oa <| oz
 intro R w m n p d j
 have h2 := p.r 4 Z
 replace q := q.fr m
 replace q : IniOK [] A w := q.sub [] N
 refine HT.ret ?_
 obtain rfl := si c
 exact ⟨.inr Z, [R 2], ⟨Z, N⟩, h2, j⟩
def M_impl_allTests_L0 (fu : Nat) (p0 : T_impl_RuleSet) : Nat → Int → (List T_impl_Test) → Option (List T_impl_Test)
 | 0, _, _ => none
 | k + 1, y7, y8 =>
 bif (decide (y7 < (p0.length : Int))) then (
 ck (inR y7 p0.length) <|
 ck (lenOK (y8.length + (gtD p0 y7).length)) <|
 ck (i64B (y7 + 1)) <|
 M_impl_allTests_L0 fu p0 k (y7 + 1) (y8 ++ (gtD p0 y7))
 ) else (
 some y8
 )
def M_impl_allTests (fu : Nat) (p0 : T_impl_RuleSet) : Option (List T_impl_Test) :=
 cl true (M_impl_allTests_L0 fu p0 fu 0 ([] : List T_impl_Test)) fun s6 =>
 some s6
theorem M_impl_allTests_ok {fu : Nat} {A0 : Av} {p0 : T_impl_RuleSet} {r : List T_impl_Test} (c : M_impl_allTests fu p0 = some r) {w : World} {v0 : Value} (d : AvOK A0 w) (h0 : Rep E_impl_RuleSet A0 w v0 p0) :
 Calls Try.prog 65 #[v0] w fun e w' => ∃ v, e = .returned v ∧ ((Res.vec w.heap.size 82 E_impl_Test r).ok (addA A0 v) v w' ∧ Fr w w') := by
 unfold M_impl_allTests at c
 obtain ⟨w0,hw0,j,C⟩ := pw d
 have hA00 : AvOK A0 w0 := C
 rw [fh hw0]
 rw [fw hw0]
 obtain ⟨A,hAe,B,d,q⟩ := pa d
 refine calls_of_HT2 [.tmp 2] Try.func65 Try.ntmps65 (by decide) Z Z (nb Z) ?_
 intro R hR
 have f_v0 : Rep E_impl_RuleSet A w v0 p0 := hAe ▸ h0
 replace h0 : R 0 = v0 := hR 0 _ Z
 refine HT.sx [] (⟨_, true, [], some (.box w0.heap.size 29 E_impl_RuleSet p0), true, fun A => .any⟩ :: rA :: []) (ua (ua (UAll.nil))) q d ?_ ?_
 exact rc (OblR.made _ Z Z Z Z fun V Q U O D=> by have a0 : Q 0 = v0 := (O.old 0 Z).trans h0; have ra0 := (f_v0.stp O.stp).eq a0; exact made_box ra0 (Nat.le_trans j.size O.ch.size)) <| rp (fun V Q U O D=> of_assign N) <| rz
 intro done ρ σ A R w y s
 obtain ⟨b1_0, e_b1_0⟩ := s.boxv y 0 Z Z
 have h1 := s.ov y 0 0 e_b1_0
 obtain ⟨B,j,d⟩ := s.s B C j q N
 replace q := s.left y [(0, ob (.pointer (some ⟨b1_0, 0, none⟩)) (.box w0.heap.size 29 E_impl_RuleSet p0))] ⟨Z, Z, e_b1_0, Z, Z, N⟩
 refine HT.su d j (eR (.slice none 0 0) :: []) ?_ ?_
 exact op (fun Q U W H D=> of_assign Z) <| oz
 intro R w m n p d j
 replace h1 := k1 n h1
 obtain ⟨u2, n_u2⟩ : ∃ u, u = Value.slice none 0 0 := ⟨_, Z⟩
 have h3 : R 3 = u2 := (p 0 _ _ Z Z Z).trans n_u2.symm
 replace q := q.fr m
 replace q := q.nilcons (u := u2) n_u2 w0.heap.size 82 E_impl_Test
 refine HT.seq ?_
 refine HT.su d j (eR (.pointer (some ⟨b1_0, 0, none⟩)) :: eF (.rep (eSl E_impl_Rule) A p0) :: eI (p0.length : Int) :: eI 0 :: []) ?_ ?_
 exact op (fun Q U W H D=> of_fieldAddr_raw ((H 1 Z).trans h1) ff_29_0 Try.sizeOf27 (by decide) Z) <| op (fun Q U W H D=> (of_load_box ((q.fr W).ok 1 _ Z).1 (D.g 0 Z) fl_impl_RuleSet_0 Z Try.isAgg27 Try.sizeOf27)) <| op (fun Q U W H D=> of_len_sl (aT := #[]) (D.g 0 Z) Try.underlying27) <| op (fun Q U W H D=> of_move Z) <| oz
 intro R w m n p d j
 replace h3 := k1 n h3
 obtain ⟨u3, h7, f_u3⟩ : ∃ u, R 7 = u ∧ Rep (eSl E_impl_Rule) A w u p0 := ⟨_, Z, p 1 _ _ Z Z Z⟩
 have h8 := p.r 2 Z
 have h9 := p.r 3 Z
 replace q := q.fr m
 replace q : IniOK [ob u2 (.vec w0.heap.size 82 E_impl_Test ([] : List T_impl_Test))] A w := q.sub [(0, ob u2 (.vec w0.heap.size 82 E_impl_Test ([] : List T_impl_Test)))] ⟨Z, Z, N⟩
 obtain ⟨rl4, q5, c⟩ := cl_some c
 replace q5 := q5 Z
 refine HT.cut0 (fun R w => ∃ A : Av, ∃ (s6 : (List T_impl_Test)) (uo_u2 : Value), rl4 = s6 ∧ AvOK A w ∧ Fr w0 w ∧ (∀ b o, A0 b o → A b o) ∧ IniOK [ob uo_u2 (.vec w0.heap.size 82 E_impl_Test s6)] A w ∧ R 3 = uo_u2) ?_ ?_
 refine HT.block ?_
 refine HT.loop (fun k R w => ∃ A : Av, ∃ (y7 : Int) (y8 : List T_impl_Test) (ul_u2 : Value), M_impl_allTests_L0 fu p0 k y7 y8 = some rl4 ∧ AvOK A w ∧ Fr w0 w ∧ (∀ b o, A0 b o → A b o) ∧ IniOK [ob ul_u2 (.vec w0.heap.size 82 E_impl_Test y8)] A w ∧ R 3 = ul_u2 ∧ R 7 = u3 ∧ R 8 = .int .i64 (p0.length : Int) ∧ R 9 = .int .i64 y7 ∧ Rep (eSl E_impl_Rule) A w u3 p0) fu ⟨_, _, _, u2, q5, d, j, B, q, h3, h7, h8, h9, f_u3⟩ ?_
 have hr0 := c; clear c q5
 rintro k R w ⟨A, y7, y8, ul_u2, c, d, j, B, q, h3, h7, h8, h9, f_u3⟩
 rcases k with _ | k
 cases (show none = some _ from c)
 rw [M_impl_allTests_L0] at c
 refine HT.su d j (eB (decide (y7 < (p0.length : Int))) :: []) ?_ ?_
 exact op (fun Q U W H D=> of_lss ((H 9 Z).trans h9) ((H 8 Z).trans h8)) <| oz
 intro R w m n p d j
 obtain ⟨h3, h7, h8, h9⟩ := k4 n h3 h7 h8 h9
 have h10 := p.r 0 Z
 replace f_u3 := f_u3.fr m
 replace q := q.fr m
 refine HT.seq ?_
 refine HT.cond (decide (y7 < (p0.length : Int))) h10 (fun c9 => ?_) (fun c9 => ?_)
 have c := cnd_t c9 c
 refine HT.skip ?_
 refine HT.seq ?_
 refine HT.block ?_
 obtain ⟨e10, c⟩ := ck_some c
 refine HT.sx [ob ul_u2 (.vec w0.heap.size 82 E_impl_Test y8)] ((rF fun A => .qtr E_impl_Rule A (gtD p0 y7)) :: (rF fun A => .rep E_impl_Rule A (gtD p0 y7)) :: ⟨_, true, [], some (.box w0.heap.size 79 E_impl_Rule ([] : List T_impl_Test)), true, fun A => .any⟩ :: ⟨_, true, [3], some (.box w0.heap.size 79 E_impl_Rule (gtD p0 y7)), false, fun A => .any⟩ :: []) (UAll.cons ust_qtr (up (ua (ua (UAll.nil))))) q d ?_ ?_
 exact rp (fun V Q U O D=> of_indexAddr ((f_u3.stp O.stp).eq ((O.old 7 Z).trans h7)) ((O.old 9 Z).trans h9) Try.underlying27 Try.sizeOf79 e10) <| rp (fun V Q U O D=> (of_load (QRep.ptr (D.g 0 Z)) Try.isAgg79 Try.sizeOf79)) <| rc (OblR.made _ Z Z Z Z fun V Q U O D=> by exact made_alloc Try.zeroValue79 (fun A w=> rep1_nil) (Nat.le_trans j.size O.ch.size)) <| rc (OblR.took 3 _ _ Z Z Z Z Z fun V Q U O D u X Y J L M=> by have a1 : Rep E_impl_Rule V U (Q 12) (gtD p0 y7) := D.g 1 Z; obtain ⟨b, hb, hB', hbx⟩ := X; have hop' := L _ _ Z Z Z Z; exact took_store a1 (hop'.symm.trans hb) hb ⟨b, hb, hB', hbx⟩ Y (FldS.id _) Try.sizeOf79 Z) <| rz
 intro done ρ σ A R w y s
 obtain ⟨h3, h7, h8, h9⟩ := k4 s.rg h3 h7 h8 h9
 have z11 := s.inivR 0 Z
 obtain ⟨b5_11, e_b5_11⟩ := s.boxv y 4 Z Z
 have z13 := (s.opnR y 4 3 Z Z Z Z Z).symm.trans e_b5_11
 have h5 := s.ov y 3 2 z13
 replace f_u3 := f_u3.stp s.stp
 obtain ⟨B,j,d⟩ := s.s B C j q ⟨Z, N⟩
 replace q := s.left y [(0, ob ul_u2 (.vec w0.heap.size 82 E_impl_Test y8)), (4, ob (.pointer (some ⟨b5_11, 0, none⟩)) (.box w0.heap.size 79 E_impl_Rule (gtD p0 y7)))] ⟨Z, Z, z11, Z, Z, ⟨Z, Z, e_b5_11, Z, Z, N⟩⟩
 obtain ⟨e14, c⟩ := ck_some c
 refine HT.x [ob ul_u2 (.vec w0.heap.size 82 E_impl_Test y8), ob (.pointer (some ⟨b5_11, 0, none⟩)) (.box w0.heap.size 79 E_impl_Rule (gtD p0 y7))] (rR ul_u2 :: rR (.pointer (some ⟨b5_11, 0, none⟩)) :: (rF fun A => .rep (eSl E_impl_Test) A (gtD p0 y7)) :: ⟨_, true, [0], some (.vec w0.heap.size 82 E_impl_Test (y8 ++ (gtD p0 y7))), true, fun A => .any⟩ :: ⟨_, true, [5], some (.vec w0.heap.size 82 E_impl_Test (y8 ++ (gtD p0 y7))), true, fun A => .any⟩ :: []) (ur (ur (up (ua (ua (UAll.nil)))))) q d ?_ ?_
 exact rm h3 <| rp (fun V Q U O D=> of_fieldAddr_raw ((O.old 5 Z).trans h5) ff_79_0 Try.sizeOf65 (by decide) Z) <| rp (fun V Q U O D=> (of_load_box (O.rd 1 _ Z Z) (D.g 0 Z) fl_impl_Rule_0 Z Try.isAgg65 Try.sizeOf65)) <| rc (OblR.took 0 _ _ Z Z Z Z Z fun V Q U O D u X Y J L M=> by have a0 : Q 13 = ul_u2 := D.g 0 Z; have a1 : Rep (eSl E_impl_Test) V U (Q 15) (gtD p0 y7) := D.g 1 Z; exact took_append (a0.trans (J _ Z).symm) X Y (Nat.le_trans j.size O.ch.size) a1 Try.underlying65 el_82 e14) <| rc (OblR.took 5 _ _ Z Z Z Z Z fun V Q U O D u X Y J L M=> by exact took_assign (L _ _ Z Z Z Z).symm X Y) <| rz
 intro done ρ σ A R w y s
 obtain ⟨h7, h8, h9⟩ := k3 s.rg h7 h8 h9
 obtain ⟨u15, e_u15⟩ : ∃ u, ρ 6 = u := ⟨_, Z⟩
 have h3 := s.ov y 6 4 e_u15
 have z16 := s.inivR 1 Z
 replace f_u3 := f_u3.stp s.stp
 obtain ⟨B,j,d⟩ := s.s B C j q ⟨Z, ⟨Z, N⟩⟩
 replace q := s.left y [(6, ob u15 (.vec w0.heap.size 82 E_impl_Test (y8 ++ (gtD p0 y7))))] ⟨Z, Z, e_u15, Z, Z, N⟩
 obtain ⟨e17, c⟩ := ck_some c
 refine HT.u d j (eI (y7 + 1) :: eI (y7 + 1) :: []) ?_ ?_
 exact op (fun Q U W H D=> of_add ((H 9 Z).trans h9) Z e17) <| ov <| oz
 intro R w m n p d j
 obtain ⟨h3, h7, h8⟩ := k3 n h3 h7 h8
 have h9 := p.r 1 Z
 replace f_u3 := f_u3.fr m
 replace q := q.fr m
 exact ei k (And.intro (Nat.lt_succ_self k) ⟨_, _, _, u15, c, d, j, B, q, h3, h7, h8, h9, f_u3⟩)
 have c := cnd_f c9 c
 refine HT.exit ?_
 obtain rfl := si c
 exact ei _ ⟨_, ul_u2, Z, d, j, B, q, h3⟩
 rintro R w ⟨A, s6, uo_u2, es, d, j, B, q, h3⟩
 obtain rfl := es.symm
 refine HT.su d j (eR uo_u2 :: eR uo_u2 :: []) ?_ ?_
 exact om h3 <| oa <| oz
 intro R w m n p d j
 have h2 := p.r 1 Z
 replace q := q.fr m
 refine HT.ret ?_
 obtain rfl := si c
 exact ⟨.inr Z, [R 2], ⟨Z, N⟩, (own_post (q.ok 0 _ Z) B h2), j⟩
theorem M_impl_allTests_okR {fu : Nat} {A0 : Av} {p0 : T_impl_RuleSet} {r : List T_impl_Test} (c : M_impl_allTests fu p0 = some r) {w : World} {v0 : Value} (d : AvOK A0 w) (h0 : Rep E_impl_RuleSet A0 w v0 p0) :
 Calls Try.prog 65 #[v0] w fun e w' => ∃ v, e = .returned v ∧ (Rep (eSl E_impl_Test) A0 w' v r ∧ Fr w w') := by
 refine Calls.mono (M_impl_allTests_ok c d h0) ?_
 rintro e w' ⟨v, he, hv, hf⟩
 exact ⟨v, he, vec_rep hv (fun b o h => .inl h) d, hf⟩
end Go.Proofs.Ytmkgocdgkdglnaa
