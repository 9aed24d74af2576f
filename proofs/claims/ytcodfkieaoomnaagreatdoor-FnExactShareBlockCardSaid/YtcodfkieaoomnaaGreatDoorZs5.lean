/- Own texts laid together. No statement of the seat is proved here. -/
import Derived.Test.YtcodfkieaoomnaaGreatDoorZs4
import Derived.Sort.Walk0
import Derived.Lib.Bytealg
/- Printed by dec.py: plain functions and the proofs that the code computes them. No statement of the seat is proved here. -/
namespace Go.Proofs.YtcodfkieaoomnaaGreatDoor
open Go.RowKit
set_option linter.unusedVariables false
set_option maxRecDepth 100000
set_option maxHeartbeats 4000000
def M_slices_Clone_string_string (fu : Nat) (p0 : List (List UInt8)) : Option (List (List UInt8)) :=
 ck (lenOK (([] : List (List UInt8)).length + p0.length)) <|
 some (([] : List (List UInt8)) ++ p0)
theorem M_slices_Clone_string_string_ok {fu : Nat} {A0 : Av} {p0 : List (List UInt8)} {r : List (List UInt8)} (hr : M_slices_Clone_string_string fu p0 = some r) {w : World} {v0 : Value} (hA : AvOK A0 w) (h0 : Rep (eSl eStr) A0 w v0 p0) :
 Calls Tryz.prog 173 #[v0] w fun e w' => ∃ v, e = .returned v ∧ ((Res.vec w.heap.size 9 eStr r).ok (addA A0 v) v w' ∧ Fr w w') := by
 unfold M_slices_Clone_string_string at hr
 obtain ⟨w0, hw0⟩ : ∃ w0, w0 = w := ⟨_, rfl⟩
 have hF : Fr w0 w := hw0 ▸ Fr.refl _
 have hA0 : ∀ b o, A0 b o → b < w0.heap.size := fun b o h => hw0 ▸ hA b o h
 have hA00 : AvOK A0 w0 := hA0
 rw [show w.heap.size = w0.heap.size from hw0 ▸ rfl]
 rw [show Fr w = Fr w0 from hw0 ▸ rfl]
 clear hw0
 obtain ⟨A, hAe⟩ : ∃ A, A = A0 := ⟨_, rfl⟩
 have hAA : ∀ b o, A0 b o → A b o := fun b o h => hAe ▸ h
 replace hA : AvOK A w := hAe ▸ hA
 have hO : IniOK [] A w := IniOK.nil
 refine calls_of_HT2 [.tmp 2] Tryz.func173 Tryz.ntmps173 (by decide) rfl rfl (Nat.le_of_ble_eq_true rfl) ?_
 intro R hR
 have f_v0 : Rep (eSl eStr) A w v0 p0 := hAe ▸ h0
 replace h0 : R 0 = v0 := hR 0 _ rfl
 clear hR hAe
 refine HT.seq ?_
 refine HT.u hA hF (eA :: []) ?_ ?_
 exact Obls.p (fun R' w' hw hs hd => of_assign trivial) <| Obls.nil
 intro R w hw hs hF' hA hF
 replace h0 := k1 hs h0
 replace f_v0 := f_v0.fr hw
 replace hO := hO.fr hw
 refine HT.seq ?_
 refine HT.seq ?_
 refine HT.u hA hF (eR v0 :: eB (isNilV v0) :: []) ?_ ?_
 exact Obls.m h0 <| Obls.p (fun R' w' hw hs hd => of_nil_eql (hd.g 0 rfl) (f_v0.fr hw) rfl Tryz.underlying46) <| Obls.nil
 intro R w hw hs hF' hA hF
 replace h0 := k1 hs h0
 have h4 := hF'.r 1 rfl
 replace f_v0 := f_v0.fr hw
 replace hO := hO.fr hw
 refine HT.cond (isNilV v0) h4 (fun c1 => ?_) (fun c1 => ?_)
 obtain rfl := nil_of_rep f_v0 c1
 refine HT.seq ?_
 refine HT.u hA hF (eR (.slice none 0 0) :: []) ?_ ?_
 exact Obls.p (fun R' w' hw hs hd => of_assign rfl) <| Obls.nil
 intro R w hw hs hF' hA hF
 obtain ⟨u2, n_u2⟩ : ∃ u, u = Value.slice none 0 0 := ⟨_, rfl⟩
 have h2 : R 2 = u2 := (hF' 0 _ _ rfl rfl rfl).trans n_u2.symm
 replace hO := hO.fr hw
 replace hO := hO.nilcons (u := u2) n_u2 w0.heap.size 9 eStr
 refine HT.ret ?_
 replace hr : some ([] : List (List UInt8)) = some r := hr
 obtain rfl := Option.some.inj hr
 exact ⟨.inr rfl, [R 2], ⟨rfl, trivial⟩, (own_post (hO.ok 0 _ rfl) hAA h2), hF⟩
 refine HT.skip ?_
 refine HT.seq ?_
 obtain ⟨e3, hr⟩ := ck_some hr
 refine HT.textR [] (⟨_, true, [], some (.vec w0.heap.size 9 eStr ([] : List (List UInt8))), true, fun A => .any⟩ :: rR v0 :: ⟨_, true, [0], some (.vec w0.heap.size 9 eStr (([] : List (List UInt8)) ++ p0)), true, fun A => .any⟩ :: ⟨_, true, [2], some (.vec w0.heap.size 9 eStr (([] : List (List UInt8)) ++ p0)), true, fun A => .any⟩ :: []) (by kernel_rfl) (by kernel_rfl) (Wf.mk' (by kernel_rfl) (ua (ur (ua (ua (UAll.nil))))) (by kernel_rfl) (by kernel_rfl)) hO hA ?_ ?_
 exact OblsR.cons (OblR.made _ rfl rfl rfl rfl fun A' R' w' ho hd => by exact made_build [] (E := eStr) trivial Tryz.underlying46 Tryz.sizeOf9 Tryz.zeroValue9 rfl rfl rfl (Nat.le_trans hF.size ho.ch.size)) <| OblsR.m h0 <| OblsR.cons (OblR.took 0 _ _ rfl rfl rfl rfl rfl fun A' R' w' ho hd u hok hav hin hop hds => by have a1 : R' 6 = v0 := hd.g 1 rfl; have ra1 := (f_v0.stp ho.stp).eq a1; exact took_append (hop _ _ rfl rfl rfl rfl).symm hok hav (Nat.le_trans hF.size ho.ch.size) ra1 Tryz.underlying46 el_9 e3) <| OblsR.cons (OblR.took 2 _ _ rfl rfl rfl rfl rfl fun A' R' w' ho hd u hok hav hin hop hds => by exact took_assign (hop _ _ rfl rfl rfl rfl).symm hok hav) <| OblsR.nil
 intro done ρ σ A R w hdn hI
 obtain ⟨u4, e_u4⟩ : ∃ u, ρ 3 = u := ⟨_, rfl⟩
 have h2 : R 2 = u4 := (hI.opvR hdn 3 3 rfl rfl rfl rfl rfl).symm.trans e_u4
 replace hAA := hI.low' hAA hA0 (hO.ge (trivial))
 replace hF : Fr w0 w := hF.tr hI.ch (hO.ge (trivial))
 replace hO := hI.left hdn [(3, ob u4 (.vec w0.heap.size 9 eStr (([] : List (List UInt8)) ++ p0)))] ⟨rfl, rfl, e_u4, rfl, rfl, trivial⟩
 replace hA := hI.avok
 clear hI
 refine HT.ret ?_
 obtain rfl := Option.some.inj hr
 exact ⟨.inr rfl, [R 2], ⟨rfl, trivial⟩, (own_post (hO.ok 0 _ rfl) hAA h2), hF⟩
def M_slices_Compact_string_string_L1 (fu : Nat) (y5 : Int) (x13 : Nat) : Nat → Int → Int → (List (List UInt8)) → Option (Int × (List (List UInt8)))
 | 0, _, _, _ => none
 | k + 1, y18, y19, y20 =>
 bif (decide (y19 < (x13 : Int))) then (
 ck (inR y19 x13) <|
 ck (decide (0 ≤ y5)) <|
 ck (inR (y5 + y19) y20.length) <|
 ck (i64B (y19 - 1)) <|
 ck (inR (y19 - 1) x13) <|
 ck (decide (0 ≤ y5)) <|
 ck (inR (y5 + (y19 - 1)) y20.length) <|
 bif (!((gtD y20 (y5 + y19)) == (gtD y20 (y5 + (y19 - 1))))) then (
 ck (inR y19 x13) <|
 ck (decide (0 ≤ y5)) <|
 ck (inR (y5 + y19) y20.length) <|
 ck (inR y18 y20.length) <|
 ck (i64B (y18 + 1)) <|
 ck (i64B (y19 + 1)) <|
 M_slices_Compact_string_string_L1 fu y5 x13 k (y18 + 1) (y19 + 1) (y20.set y18.toNat (gtD y20 (y5 + y19)))
 ) else (
 ck (i64B (y19 + 1)) <|
 M_slices_Compact_string_string_L1 fu y5 x13 k y18 (y19 + 1) y20
 )
 ) else (
 some (y18, y20)
 )
def M_slices_Compact_string_string_L0 (fu : Nat) : Nat → Int → (List (List UInt8)) → Option (Ex (List (List UInt8)) (List (List UInt8)))
 | 0, _, _ => none
 | k + 1, y5, y6 =>
 bif (decide (y5 < (y6.length : Int))) then (
 ck (inR y5 y6.length) <|
 ck (i64B (y5 - 1)) <|
 ck (inR (y5 - 1) y6.length) <|
 bif ((gtD y6 y5) == (gtD y6 (y5 - 1))) then (
 ck (subR y5 (y6.length : Int) y6.length) <|
 bd ((y6.length : Int).toNat - y5.toNat) fun x13 =>
 cl true (M_slices_Compact_string_string_L1 fu y5 x13 fu y5 1 y6) fun s17 =>
 ck (subR s17.1 (s17.2.length : Int) s17.2.length) <|
 bd ((s17.2.length : Int).toNat - s17.1.toNat) fun x40 =>
 ck (subR s17.1 s17.2.length s17.2.length) <|
 ck (x40 == s17.2.length - s17.1.toNat) <|
 ck (subR 0 s17.1 (s17.2.take s17.1.toNat ++ List.replicate (s17.2.length - s17.1.toNat) ([] : List UInt8)).length) <|
 some (Ex.ret (subL (s17.2.take s17.1.toNat ++ List.replicate (s17.2.length - s17.1.toNat) ([] : List UInt8)) 0 s17.1))
 ) else (
 ck (i64B (y5 + 1)) <|
 M_slices_Compact_string_string_L0 fu k (y5 + 1) y6
 )
 ) else (
 some (Ex.go y6)
 )
def M_slices_Compact_string_string (fu : Nat) (p0 : List (List UInt8)) : Option (List (List UInt8)) :=
 bif (decide ((p0.length : Int) < 2)) then (
 some p0
 ) else (
 cl true (M_slices_Compact_string_string_L0 fu fu 1 p0) fun rl2 =>
 exM rl2 (fun r => some r) fun s4 =>
 some s4
 )
theorem M_slices_Compact_string_string_ok {fu : Nat} {A0 : Av} {p0 : List (List UInt8)} {r : List (List UInt8)} (hr : M_slices_Compact_string_string fu p0 = some r) {w : World} {v0 : Value} {B0 : Nat} (hA : AvOK A0 w) (hN : ∀ b o, A0 b o → ¬ ownsB v0 b) (h0 : (Res.vec B0 9 eStr p0).ok A0 v0 w) :
 Calls Tryz.prog 175 #[v0] w fun e w' => ∃ v, e = .returned v ∧ Took (addA A0 v0) true v0 (.vec B0 9 eStr r) (fun _ => .any) w v w' := by
 unfold M_slices_Compact_string_string at hr
 obtain ⟨w0, hw0⟩ : ∃ w0, w0 = w := ⟨_, rfl⟩
 have hF : Ch (ownsB v0) w0 w := hw0 ▸ Ch.refl _ _
 have hA0 : ∀ b o, A0 b o → b < w0.heap.size := fun b o h => hw0 ▸ hA b o h
 have hA00 : AvOK A0 w0 := hA0
 rw [show Took (addA A0 v0) true v0 (.vec B0 9 eStr r) (fun _ => .any) w = Took (addA A0 v0) true v0 (.vec B0 9 eStr r) (fun _ => .any) w0 from hw0 ▸ rfl]
 clear hw0
 obtain ⟨A, hAe⟩ : ∃ A, A = addA A0 v0 := ⟨_, rfl⟩
 have hAA : ∀ b o, A0 b o → A b o := fun b o h => hAe ▸ .inl h
 replace hA : AvOK A w := hAe ▸ hA.one h0
 have hO : IniOK [ob v0 (.vec B0 9 eStr p0)] A w := hAe ▸ IniOK.one h0 (fun _ _ _ _ _ h => h)
 refine calls_of_HT2 [.tmp 2] Tryz.func175 Tryz.ntmps175 (by decide) rfl rfl (Nat.le_of_ble_eq_true rfl) ?_
 intro R hR
 replace h0 : R 0 = v0 := hR 0 _ rfl
 clear hR hAe
 refine HT.seq ?_
 refine HT.t (eA :: []) ?_ ?_
 exact Obls.p (fun R' w' hw hs hd => of_assign trivial) <| Obls.nil
 intro R w hw hs hF'
 replace h0 := k1 hs h0
 replace hO := hO.fr hw
 replace hA := hA.fr hw.size
 replace hF := hF.tr (hw.ch noB) fun _ h => False.elim h
 refine HT.seq ?_
 refine HT.seq ?_
 refine HT.t (eR v0 :: eI (p0.length : Int) :: eB (decide ((p0.length : Int) < (2 : Int))) :: []) ?_ ?_
 exact Obls.m h0 <| Obls.p (fun R' w' hw hs hd => of_len_vec (hO.ok 0 _ rfl).1 (hd.g 0 rfl) Tryz.underlying46) <| Obls.p (fun R' w' hw hs hd => of_lss (hd.g 0 rfl) rfl) <| Obls.nil
 intro R w hw hs hF'
 replace h0 := k1 hs h0
 have h8 := hF'.r 2 rfl
 replace hO := hO.fr hw
 replace hA := hA.fr hw.size
 replace hF := hF.tr (hw.ch noB) fun _ h => False.elim h
 refine HT.cond (decide ((p0.length : Int) < (2 : Int))) h8 (fun c1 => ?_) (fun c1 => ?_)
 have hr := cnd_t c1 hr
 refine HT.seq ?_
 refine HT.t (eR v0 :: eR v0 :: []) ?_ ?_
 exact Obls.m h0 <| Obls.a <| Obls.nil
 intro R w hw hs hF'
 have h2 := hF'.r 1 rfl
 replace hO := hO.fr hw
 replace hA := hA.fr hw.size
 replace hF := hF.tr (hw.ch noB) fun _ h => False.elim h
 refine HT.ret ?_
 obtain rfl := Option.some.inj hr
 exact ⟨.inr rfl, [R 2], ⟨rfl, trivial⟩, by show Took _ true _ _ _ w0 (R 2) w; rw [h2]; exact took_post (fun k h o => .inr h) hF (hO.ok 0 _ rfl).1 (hO.own_ge (⟨.inr (fun k h => .inr h), trivial⟩) (i := 0) rfl) (fun _ _ _ _ _ h => h)⟩
 have hr := cnd_f c1 hr
 refine HT.skip ?_
 refine HT.seq ?_
 refine HT.seq ?_
 refine HT.t (eI 1 :: []) ?_ ?_
 exact Obls.p (fun R' w' hw hs hd => of_assign rfl) <| Obls.nil
 intro R w hw hs hF'
 replace h0 := k1 hs h0
 have h3 := hF'.r 0 rfl
 replace hO := hO.fr hw
 replace hA := hA.fr hw.size
 replace hF := hF.tr (hw.ch noB) fun _ h => False.elim h
 obtain ⟨rl2, q3, hr⟩ := cl_some hr
 replace q3 := q3 rfl
 refine HT.cut0 (fun R w => ∃ A : Av, ∃ (s4 : (List (List UInt8))), rl2 = Ex.go s4 ∧ AvOK A w ∧ Ch (ownsB v0) w0 w ∧ (∀ b o, A0 b o → A b o) ∧ IniOK [ob v0 (.vec B0 9 eStr s4)] A w ∧ R 0 = v0) ?_ ?_
 refine HT.block ?_
 refine HT.loop (fun k R w => ∃ A : Av, ∃ (y5 : Int) (y6 : List (List UInt8)), M_slices_Compact_string_string_L0 fu k y5 y6 = some rl2 ∧ AvOK A w ∧ Ch (ownsB v0) w0 w ∧ (∀ b o, A0 b o → A b o) ∧ IniOK [ob v0 (.vec B0 9 eStr y6)] A w ∧ R 0 = v0 ∧ R 3 = .int .i64 y5) fu ⟨_, _, _, q3, hA, hF, hAA, hO, h0, h3⟩ ?_
 have hr0 := hr; clear hr q3
 rintro k R w ⟨A, y5, y6, hr, hA, hF, hAA, hO, h0, h3⟩
 rcases k with _ | k
 cases (show none = some _ from hr)
 rw [M_slices_Compact_string_string_L0] at hr
 refine HT.seq ?_
 refine HT.seq ?_
 refine HT.t (eI y5 :: eR v0 :: eI (y6.length : Int) :: eB (decide (y5 < (y6.length : Int))) :: []) ?_ ?_
 exact Obls.m h3 <| Obls.m h0 <| Obls.p (fun R' w' hw hs hd => of_len_vec (hO.ok 0 _ rfl).1 (hd.g 0 rfl) Tryz.underlying46) <| Obls.p (fun R' w' hw hs hd => of_lss (hd.g 0 rfl) (hd.g 1 rfl)) <| Obls.nil
 intro R w hw hs hF'
 obtain ⟨h0, h3⟩ := k2 hs h0 h3
 have h13 := hF'.r 3 rfl
 replace hO := hO.fr hw
 replace hA := hA.fr hw.size
 replace hF := hF.tr (hw.ch noB) fun _ h => False.elim h
 refine HT.cond (decide (y5 < (y6.length : Int))) h13 (fun c7 => ?_) (fun c7 => ?_)
 have hr := cnd_t c7 hr
 refine HT.skip ?_
 refine HT.seq ?_
 refine HT.block ?_
 refine HT.seq ?_
 obtain ⟨e8, hr⟩ := ck_some hr
 obtain ⟨e9, hr⟩ := ck_some hr
 obtain ⟨e10, hr⟩ := ck_some hr
 refine HT.draw (by kernel_rfl) (l := eR v0 :: eI y5 :: eR (vptr v0 (y5.toNat * 1)) :: eF (.rep eStr A (gtD y6 y5)) :: eR v0 :: eI y5 :: eI (y5 - (1 : Int)) :: eR (vptr v0 ((y5 - (1 : Int)).toNat * 1)) :: eF (.rep eStr A (gtD y6 (y5 - (1 : Int)))) :: eB ((gtD y6 y5) == (gtD y6 (y5 - (1 : Int)))) :: []) (tl := []) (by kernel_rfl) (by kernel_rfl) (by kernel_rfl) (by kernel_rfl) ?_ ?_
 exact Obls.m h0 <| Obls.m h3 <| Obls.p (fun R' w' hw hs hd => of_indexAddr_vec (hO.ok 0 _ rfl).1 (hd.g 0 rfl) (hd.g 1 rfl) Tryz.underlying46 Tryz.sizeOf9 e8 rfl) <| Obls.p (fun R' w' hw hs hd => (of_load_vec ((hO.fr hw).ok 0 _ rfl).1 (hd.g 0 rfl) e8 rfl (Fld.id _) rfl Tryz.isAgg9 Tryz.sizeOf9)) <| Obls.m h0 <| Obls.m h3 <| Obls.p (fun R' w' hw hs hd => of_sub (hd.g 0 rfl) rfl e9) <| Obls.p (fun R' w' hw hs hd => of_indexAddr_vec (hO.ok 0 _ rfl).1 (hd.g 0 rfl) (hd.g 1 rfl) Tryz.underlying46 Tryz.sizeOf9 e10 rfl) <| Obls.p (fun R' w' hw hs hd => (of_load_vec ((hO.fr hw).ok 0 _ rfl).1 (hd.g 0 rfl) e10 rfl (Fld.id _) rfl Tryz.isAgg9 Tryz.sizeOf9)) <| Obls.p (fun R' w' hw hs hd => of_seql (hd.g 0 rfl) (hd.g 1 rfl)) <| Obls.nil
 intro R w hw hs hF'
 obtain ⟨h0, h3⟩ := k2 hs h0 h3
 have h25 := hF'.r 9 rfl
 replace hO := hO.fr hw
 replace hA := hA.fr hw.size
 replace hF := hF.tr (hw.ch noB) fun _ h => False.elim h
 refine HT.cond ((gtD y6 y5) == (gtD y6 (y5 - (1 : Int)))) h25 (fun c11 => ?_) (fun c11 => ?_)
 have hr := cnd_t c11 hr
 refine HT.seq ?_
 obtain ⟨e12, hr⟩ := ck_some hr
 obtain ⟨x13, q14, hr⟩ := bd_some hr
 refine HT.t (eR v0 :: eI y5 :: eR (vsub v0 y5.toNat x13 1) :: eR (vsub v0 y5.toNat x13 1) :: []) ?_ ?_
 exact Obls.m h0 <| Obls.m h3 <| Obls.p (fun R' w' hw hs hd => (q14 ▸ of_view (hO.ok 0 _ rfl).1 (hd.g 0 rfl) (hd.g 1 rfl) Tryz.underlying46 Tryz.sizeOf9 e12)) <| Obls.a <| Obls.nil
 intro R w hw hs hF'
 obtain ⟨h0, h3⟩ := k2 hs h0 h3
 have h4 := hF'.r 3 rfl
 replace hO := hO.fr hw
 replace hA := hA.fr hw.size
 replace hF := hF.tr (hw.ch noB) fun _ h => False.elim h
 refine HT.seq ?_
 refine HT.seq ?_
 refine HT.t (eI 1 :: []) ?_ ?_
 exact Obls.p (fun R' w' hw hs hd => of_assign rfl) <| Obls.nil
 intro R w hw hs hF'
 obtain ⟨h0, h3, h4⟩ := k3 hs h0 h3 h4
 have h5 := hF'.r 0 rfl
 replace hO := hO.fr hw
 replace hA := hA.fr hw.size
 replace hF := hF.tr (hw.ch noB) fun _ h => False.elim h
 obtain ⟨rl15, q16, hr⟩ := cl_some hr
 replace q16 := q16 rfl
 refine HT.cut0 (fun R w => ∃ A : Av, ∃ (s17 : Int × (List (List UInt8))), rl15 = s17 ∧ AvOK A w ∧ Ch (ownsB v0) w0 w ∧ (∀ b o, A0 b o → A b o) ∧ IniOK [ob v0 (.vec B0 9 eStr s17.2)] A w ∧ R 0 = v0 ∧ R 3 = .int .i64 s17.1) ?_ ?_
 refine HT.block ?_
 refine HT.loop (fun k R w => ∃ A : Av, ∃ (y18 : Int) (y19 : Int) (y20 : List (List UInt8)), M_slices_Compact_string_string_L1 fu y5 x13 k y18 y19 y20 = some rl15 ∧ AvOK A w ∧ Ch (ownsB v0) w0 w ∧ (∀ b o, A0 b o → A b o) ∧ IniOK [ob v0 (.vec B0 9 eStr y20)] A w ∧ R 0 = v0 ∧ R 3 = .int .i64 y18 ∧ R 4 = (vsub v0 y5.toNat x13 1) ∧ R 5 = .int .i64 y19) fu ⟨_, _, _, _, q16, hA, hF, hAA, hO, h0, h3, h4, h5⟩ ?_
 have hr1 := hr; clear hr q16
 rintro k R w ⟨A, y18, y19, y20, hr, hA, hF, hAA, hO, h0, h3, h4, h5⟩
 rcases k with _ | k
 cases (show none = some _ from hr)
 rw [M_slices_Compact_string_string_L1] at hr
 refine HT.seq ?_
 refine HT.seq ?_
 refine HT.t (eI y19 :: eR (vsub v0 y5.toNat x13 1) :: eI (x13 : Int) :: eB (decide (y19 < (x13 : Int))) :: []) ?_ ?_
 exact Obls.m h5 <| Obls.m h4 <| Obls.p (fun R' w' hw hs hd => of_len_view (hO.ok 0 _ rfl).1 (hd.g 0 rfl) Tryz.underlying46) <| Obls.p (fun R' w' hw hs hd => of_lss (hd.g 0 rfl) (hd.g 1 rfl)) <| Obls.nil
 intro R w hw hs hF'
 obtain ⟨h0, h3, h4, h5⟩ := k4 hs h0 h3 h4 h5
 have h32 := hF'.r 3 rfl
 replace hO := hO.fr hw
 replace hA := hA.fr hw.size
 replace hF := hF.tr (hw.ch noB) fun _ h => False.elim h
 refine HT.cond (decide (y19 < (x13 : Int))) h32 (fun c21 => ?_) (fun c21 => ?_)
 have hr := cnd_t c21 hr
 refine HT.skip ?_
 refine HT.seq ?_
 refine HT.block ?_
 refine HT.seq ?_
 obtain ⟨e22, hr⟩ := ck_some hr
 obtain ⟨e23, hr⟩ := ck_some hr
 obtain ⟨e24, hr⟩ := ck_some hr
 obtain ⟨e25, hr⟩ := ck_some hr
 obtain ⟨e26, hr⟩ := ck_some hr
 obtain ⟨e27, hr⟩ := ck_some hr
 obtain ⟨e28, hr⟩ := ck_some hr
 refine HT.draw (by kernel_rfl) (l := eR (vsub v0 y5.toNat x13 1) :: eI y19 :: eR (vptr v0 ((y5 + y19).toNat * 1)) :: eF (.rep eStr A (gtD y20 (y5 + y19))) :: eR (vsub v0 y5.toNat x13 1) :: eI y19 :: eI (y19 - (1 : Int)) :: eR (vptr v0 ((y5 + (y19 - (1 : Int))).toNat * 1)) :: eF (.rep eStr A (gtD y20 (y5 + (y19 - (1 : Int))))) :: eB (!((gtD y20 (y5 + y19)) == (gtD y20 (y5 + (y19 - (1 : Int)))))) :: []) (tl := []) (by kernel_rfl) (by kernel_rfl) (by kernel_rfl) (by kernel_rfl) ?_ ?_
 exact Obls.m h4 <| Obls.m h5 <| Obls.p (fun R' w' hw hs hd => of_indexAddr_view (hO.ok 0 _ rfl).1 (hd.g 0 rfl) (hd.g 1 rfl) Tryz.underlying46 Tryz.sizeOf9 e22 e23 e24 rfl) <| Obls.p (fun R' w' hw hs hd => (of_load_vec ((hO.fr hw).ok 0 _ rfl).1 (hd.g 0 rfl) e24 rfl (Fld.id _) rfl Tryz.isAgg9 Tryz.sizeOf9)) <| Obls.m h4 <| Obls.m h5 <| Obls.p (fun R' w' hw hs hd => of_sub (hd.g 0 rfl) rfl e25) <| Obls.p (fun R' w' hw hs hd => of_indexAddr_view (hO.ok 0 _ rfl).1 (hd.g 0 rfl) (hd.g 1 rfl) Tryz.underlying46 Tryz.sizeOf9 e26 e27 e28 rfl) <| Obls.p (fun R' w' hw hs hd => (of_load_vec ((hO.fr hw).ok 0 _ rfl).1 (hd.g 0 rfl) e28 rfl (Fld.id _) rfl Tryz.isAgg9 Tryz.sizeOf9)) <| Obls.p (fun R' w' hw hs hd => of_sneq (hd.g 0 rfl) (hd.g 1 rfl)) <| Obls.nil
 intro R w hw hs hF'
 obtain ⟨h0, h3, h4, h5⟩ := k4 hs h0 h3 h4 h5
 have h44 := hF'.r 9 rfl
 replace hO := hO.fr hw
 replace hA := hA.fr hw.size
 replace hF := hF.tr (hw.ch noB) fun _ h => False.elim h
 refine HT.cond (!((gtD y20 (y5 + y19)) == (gtD y20 (y5 + (y19 - (1 : Int)))))) h44 (fun c29 => ?_) (fun c29 => ?_)
 have hr := cnd_t c29 hr
 refine HT.seq ?_
 obtain ⟨e30, hr⟩ := ck_some hr
 obtain ⟨e31, hr⟩ := ck_some hr
 obtain ⟨e32, hr⟩ := ck_some hr
 obtain ⟨e33, hr⟩ := ck_some hr
 refine HT.textR [ob v0 (.vec B0 9 eStr y20)] (rR v0 :: rI y18 :: rR (vsub v0 y5.toNat x13 1) :: rI y19 :: rR (vptr v0 ((y5 + y19).toNat * 1)) :: (rF fun A => .rep eStr A (gtD y20 (y5 + y19))) :: rR (vptr v0 (y18.toNat * 1)) :: ⟨_, true, [0], some (.vec B0 9 eStr (y20.set y18.toNat (gtD y20 (y5 + y19)))), false, fun A => .any⟩ :: []) (by kernel_rfl) (by kernel_rfl) (Wf.mk' (by kernel_rfl) (ur (ur (ur (ur (ur (up (ur (ua (UAll.nil))))))))) (by kernel_rfl) (by kernel_rfl)) hO hA ?_ ?_
 exact OblsR.m h0 <| OblsR.m h3 <| OblsR.m h4 <| OblsR.m h5 <| OblsR.p (fun A' R' w' ho hd => of_indexAddr_view (hO.ok 0 _ rfl).1 (hd.g 0 rfl) (hd.g 1 rfl) Tryz.underlying46 Tryz.sizeOf9 e30 e31 e32 rfl) <| OblsR.p (fun A' R' w' ho hd => (of_load_vec (ho.rd 0 _ rfl rfl) (hd.g 0 rfl) e32 rfl (Fld.id _) rfl Tryz.isAgg9 Tryz.sizeOf9)) <| OblsR.p (fun A' R' w' ho hd => of_indexAddr_vec (hO.ok 0 _ rfl).1 (hd.g 0 rfl) (hd.g 1 rfl) Tryz.underlying46 Tryz.sizeOf9 e33 rfl) <| OblsR.cons (OblR.took 0 _ _ rfl rfl rfl rfl rfl fun A' R' w' ho hd u hok hav hin hop hds => by have a0 : R' 51 = (vptr v0 (y18.toNat * 1)) := hd.g 0 rfl; have a1 : Rep eStr A' w' (R' 50) (gtD y20 (y5 + y19)) := hd.g 1 rfl; obtain rfl := hin _ rfl; exact took_vstore a1 hok hav a0 e33 rfl (FldS.id _) Tryz.sizeOf9 rfl) <| OblsR.nil
 intro done ρ σ A R w hdn hI
 obtain ⟨h0, h3, h4, h5⟩ := k4 hI.rg h0 h3 h4 h5
 have z34 := hI.inivR 0 rfl
 have z35 := (hI.opnR hdn 8 7 rfl rfl rfl rfl rfl).trans z34
 replace hAA := hI.lowK hAA hA0 hN (hO.geK (⟨.inr (fun k h => .inr h), trivial⟩))
 replace hF : Ch (ownsB v0) w0 w := hF.tr hI.ch (hO.geK (⟨.inr (fun k h => .inr h), trivial⟩))
 replace hO := hI.left hdn [(8, ob v0 (.vec B0 9 eStr (y20.set y18.toNat (gtD y20 (y5 + y19)))))] ⟨rfl, rfl, z35, rfl, rfl, trivial⟩
 replace hA := hI.avok
 clear hI
 obtain ⟨e36, hr⟩ := ck_some hr
 refine HT.t (eI y18 :: eI (y18 + (1 : Int)) :: eI (y18 + (1 : Int)) :: []) ?_ ?_
 exact Obls.m h3 <| Obls.p (fun R' w' hw hs hd => of_add (hd.g 0 rfl) rfl e36) <| Obls.a <| Obls.nil
 intro R w hw hs hF'
 obtain ⟨h0, h4, h5⟩ := k3 hs h0 h4 h5
 have h3 := hF'.r 2 rfl
 replace hO := hO.fr hw
 replace hA := hA.fr hw.size
 replace hF := hF.tr (hw.ch noB) fun _ h => False.elim h
 obtain ⟨e37, hr⟩ := ck_some hr
 refine HT.t (eI y19 :: eI (y19 + (1 : Int)) :: eI (y19 + (1 : Int)) :: []) ?_ ?_
 exact Obls.m h5 <| Obls.p (fun R' w' hw hs hd => of_add (hd.g 0 rfl) rfl e37) <| Obls.a <| Obls.nil
 intro R w hw hs hF'
 obtain ⟨h0, h3, h4⟩ := k3 hs h0 h3 h4
 have h5 := hF'.r 2 rfl
 replace hO := hO.fr hw
 replace hA := hA.fr hw.size
 replace hF := hF.tr (hw.ch noB) fun _ h => False.elim h
 exact Exists.intro k (And.intro (Nat.lt_succ_self k) ⟨_, _, _, _, hr, hA, hF, hAA, hO, h0, h3, h4, h5⟩)
 have hr := cnd_f c29 hr
 refine HT.skip ?_
 obtain ⟨e38, hr⟩ := ck_some hr
 refine HT.t (eI y19 :: eI (y19 + (1 : Int)) :: eI (y19 + (1 : Int)) :: []) ?_ ?_
 exact Obls.m h5 <| Obls.p (fun R' w' hw hs hd => of_add (hd.g 0 rfl) rfl e38) <| Obls.a <| Obls.nil
 intro R w hw hs hF'
 obtain ⟨h0, h3, h4⟩ := k3 hs h0 h3 h4
 have h5 := hF'.r 2 rfl
 replace hO := hO.fr hw
 replace hA := hA.fr hw.size
 replace hF := hF.tr (hw.ch noB) fun _ h => False.elim h
 exact Exists.intro k (And.intro (Nat.lt_succ_self k) ⟨_, _, _, _, hr, hA, hF, hAA, hO, h0, h3, h4, h5⟩)
 have hr := cnd_f c21 hr
 refine HT.exit ?_
 obtain rfl := Option.some.inj hr
 exact Exists.intro _ ⟨_, rfl, hA, hF, hAA, hO, h0, h3⟩
 rintro R w ⟨A, s17, es, hA, hF, hAA, hO, h0, h3⟩
 obtain rfl := es.symm
 refine HT.seq ?_
 obtain ⟨e39, hr⟩ := ck_some hr
 obtain ⟨x40, q41, hr⟩ := bd_some hr
 obtain ⟨e42, hr⟩ := ck_some hr
 obtain ⟨e43, hr⟩ := ck_some hr
 refine HT.textR [ob v0 (.vec B0 9 eStr s17.2)] (rR v0 :: rI s17.1 :: rR (vsub v0 s17.1.toNat x40 1) :: ⟨_, true, [0], some (.vec B0 9 eStr (s17.2.take s17.1.toNat ++ List.replicate (s17.2.length - s17.1.toNat) ([] : List UInt8))), false, fun A => .any⟩ :: []) (by kernel_rfl) (by kernel_rfl) (Wf.mk' (by kernel_rfl) (ur (ur (ur (ua (UAll.nil))))) (by kernel_rfl) (by kernel_rfl)) hO hA ?_ ?_
 exact OblsR.m h0 <| OblsR.m h3 <| OblsR.p (fun A' R' w' ho hd => (q41 ▸ of_view (hO.ok 0 _ rfl).1 (hd.g 0 rfl) (hd.g 1 rfl) Tryz.underlying46 Tryz.sizeOf9 e39)) <| OblsR.cons (OblR.took 0 _ _ rfl rfl rfl rfl rfl fun A' R' w' ho hd u hok hav hin hop hds => by have a0 : R' 56 = (vsub v0 s17.1.toNat x40 1) := hd.g 0 rfl; obtain rfl := hin _ rfl; exact took_clear a0 hok hav Tryz.underlying46 rfl Tryz.zeroValue9 (fun A w => (rep1_str rfl (by decide))) e42 e43 rfl) <| OblsR.nil
 intro done ρ σ A R w hdn hI
 obtain ⟨h0, h3⟩ := k2 hI.rg h0 h3
 have z44 := hI.inivR 0 rfl
 have z45 := (hI.opnR hdn 4 3 rfl rfl rfl rfl rfl).trans z44
 replace hAA := hI.lowK hAA hA0 hN (hO.geK (⟨.inr (fun k h => .inr h), trivial⟩))
 replace hF : Ch (ownsB v0) w0 w := hF.tr hI.ch (hO.geK (⟨.inr (fun k h => .inr h), trivial⟩))
 replace hO := hI.left hdn [(4, ob v0 (.vec B0 9 eStr (s17.2.take s17.1.toNat ++ List.replicate (s17.2.length - s17.1.toNat) ([] : List UInt8))))] ⟨rfl, rfl, z45, rfl, rfl, trivial⟩
 replace hA := hI.avok
 clear hI
 refine HT.seq ?_
 obtain ⟨e46, hr⟩ := ck_some hr
 refine HT.textR [ob v0 (.vec B0 9 eStr (s17.2.take s17.1.toNat ++ List.replicate (s17.2.length - s17.1.toNat) ([] : List UInt8)))] (rR v0 :: rI s17.1 :: ⟨_, true, [0], some (.vec B0 9 eStr (subL (s17.2.take s17.1.toNat ++ List.replicate (s17.2.length - s17.1.toNat) ([] : List UInt8)) 0 s17.1)), true, fun A => .any⟩ :: ⟨_, true, [3], some (.vec B0 9 eStr (subL (s17.2.take s17.1.toNat ++ List.replicate (s17.2.length - s17.1.toNat) ([] : List UInt8)) 0 s17.1)), true, fun A => .any⟩ :: []) (by kernel_rfl) (by kernel_rfl) (Wf.mk' (by kernel_rfl) (ur (ur (ua (ua (UAll.nil))))) (by kernel_rfl) (by kernel_rfl)) hO hA ?_ ?_
 exact OblsR.m h0 <| OblsR.m h3 <| OblsR.cons (OblR.took 0 _ _ rfl rfl rfl rfl rfl fun A' R' w' ho hd u hok hav hin hop hds => by have a0 : R' 57 = v0 := hd.g 0 rfl; have a1 : R' 58 = .int .i64 s17.1 := hd.g 1 rfl; exact took_prefix (a0.trans (hin _ rfl).symm) hok hav a1 Tryz.underlying46 Tryz.sizeOf9 e46 rfl) <| OblsR.cons (OblR.took 3 _ _ rfl rfl rfl rfl rfl fun A' R' w' ho hd u hok hav hin hop hds => by exact took_assign (hop _ _ rfl rfl rfl rfl).symm hok hav) <| OblsR.nil
 intro done ρ σ A R w hdn hI
 obtain ⟨u47, e_u47⟩ : ∃ u, ρ 4 = u := ⟨_, rfl⟩
 have h2 : R 2 = u47 := (hI.opvR hdn 4 3 rfl rfl rfl rfl rfl).symm.trans e_u47
 have hK_u47 : ∀ k, ownsB u47 k → w0.heap.size ≤ k ∨ (ownsB v0) k := hI.geK hdn 4 rfl rfl rfl e_u47 (hO.geK (⟨.inr (fun k h => .inr h), trivial⟩)) hF.size
 replace hAA := hI.lowK hAA hA0 hN (hO.geK (⟨.inr (fun k h => .inr h), trivial⟩))
 replace hF : Ch (ownsB v0) w0 w := hF.tr hI.ch (hO.geK (⟨.inr (fun k h => .inr h), trivial⟩))
 replace hO := hI.left hdn [(4, ob u47 (.vec B0 9 eStr (subL (s17.2.take s17.1.toNat ++ List.replicate (s17.2.length - s17.1.toNat) ([] : List UInt8)) 0 s17.1)))] ⟨rfl, rfl, e_u47, rfl, rfl, trivial⟩
 replace hA := hI.avok
 clear hI
 refine HT.ret ?_
 obtain rfl := Option.some.inj hr
 have hr := hr0
 replace hr : some _ = some _ := hr
 obtain rfl := Option.some.inj hr
 exact ⟨.inr rfl, [R 2], ⟨rfl, trivial⟩, by show Took _ true _ _ _ w0 (R 2) w; rw [h2]; exact took_post (fun k h o => .inr h) hF (hO.ok 0 _ rfl).1 (hO.own_ge (⟨.inr hK_u47, trivial⟩) (i := 0) rfl) (fun _ _ _ _ _ h => h)⟩
 have hr := cnd_f c11 hr
 refine HT.skip ?_
 obtain ⟨e48, hr⟩ := ck_some hr
 refine HT.t (eI y5 :: eI (y5 + (1 : Int)) :: eI (y5 + (1 : Int)) :: []) ?_ ?_
 exact Obls.m h3 <| Obls.p (fun R' w' hw hs hd => of_add (hd.g 0 rfl) rfl e48) <| Obls.a <| Obls.nil
 intro R w hw hs hF'
 replace h0 := k1 hs h0
 have h3 := hF'.r 2 rfl
 replace hO := hO.fr hw
 replace hA := hA.fr hw.size
 replace hF := hF.tr (hw.ch noB) fun _ h => False.elim h
 exact Exists.intro k (And.intro (Nat.lt_succ_self k) ⟨_, _, _, hr, hA, hF, hAA, hO, h0, h3⟩)
 have hr := cnd_f c7 hr
 refine HT.exit ?_
 obtain rfl := Option.some.inj hr
 exact Exists.intro _ ⟨_, rfl, hA, hF, hAA, hO, h0⟩
 rintro R w ⟨A, s4, rfl, hA, hF, hAA, hO, h0⟩
 have hr := exM_go hr
 refine HT.seq ?_
 refine HT.t (eR v0 :: eR v0 :: []) ?_ ?_
 exact Obls.m h0 <| Obls.a <| Obls.nil
 intro R w hw hs hF'
 have h2 := hF'.r 1 rfl
 replace hO := hO.fr hw
 replace hA := hA.fr hw.size
 replace hF := hF.tr (hw.ch noB) fun _ h => False.elim h
 refine HT.ret ?_
 obtain rfl := Option.some.inj hr
 exact ⟨.inr rfl, [R 2], ⟨rfl, trivial⟩, by show Took _ true _ _ _ w0 (R 2) w; rw [h2]; exact took_post (fun k h o => .inr h) hF (hO.ok 0 _ rfl).1 (hO.own_ge (⟨.inr (fun k h => .inr h), trivial⟩) (i := 0) rfl) (fun _ _ _ _ _ h => h)⟩
def M_impl_sortedSet (fu : Nat) (p0 : List (List UInt8)) : Option (List (List UInt8)) :=
 cl true (M_slices_Clone_string_string fu p0) fun x1 =>
 cl true (M_sortS fu x1) fun x4 =>
 cl true (M_slices_Compact_string_string fu x4) fun x8 =>
 some x8
theorem M_impl_sortedSet_ok {fu : Nat} {A0 : Av} {p0 : List (List UInt8)} {r : List (List UInt8)} (hr : M_impl_sortedSet fu p0 = some r) {w : World} {v0 : Value} (hA : AvOK A0 w) (h0 : Rep (eSl eStr) A0 w v0 p0) :
 Calls Tryz.prog 122 #[v0] w fun e w' => ∃ v, e = .returned v ∧ ((Res.vec w.heap.size 9 eStr r).ok (addA A0 v) v w' ∧ Fr w w') := by
 unfold M_impl_sortedSet at hr
 obtain ⟨w0, hw0⟩ : ∃ w0, w0 = w := ⟨_, rfl⟩
 have hF : Fr w0 w := hw0 ▸ Fr.refl _
 have hA0 : ∀ b o, A0 b o → b < w0.heap.size := fun b o h => hw0 ▸ hA b o h
 have hA00 : AvOK A0 w0 := hA0
 rw [show w.heap.size = w0.heap.size from hw0 ▸ rfl]
 rw [show Fr w = Fr w0 from hw0 ▸ rfl]
 clear hw0
 obtain ⟨A, hAe⟩ : ∃ A, A = A0 := ⟨_, rfl⟩
 have hAA : ∀ b o, A0 b o → A b o := fun b o h => hAe ▸ h
 replace hA : AvOK A w := hAe ▸ hA
 have hO : IniOK [] A w := IniOK.nil
 refine calls_of_HT2 [.tmp 2] Tryz.func122 Tryz.ntmps122 (by decide) rfl rfl (Nat.le_of_ble_eq_true rfl) ?_
 intro R hR
 have f_v0 : Rep (eSl eStr) A w v0 p0 := hAe ▸ h0
 replace h0 : R 0 = v0 := hR 0 _ rfl
 clear hR hAe
 refine HT.seq ?_
 refine HT.u hA hF (eA :: []) ?_ ?_
 exact Obls.p (fun R' w' hw hs hd => of_assign trivial) <| Obls.nil
 intro R w hw hs hF' hA hF
 replace h0 := k1 hs h0
 replace f_v0 := f_v0.fr hw
 replace hO := hO.fr hw
 refine HT.seq ?_
 obtain ⟨x1, q2, hr⟩ := cl_some hr
 refine HT.textR [] (rR v0 :: ⟨_, true, [], some (.vec w0.heap.size 9 eStr x1), true, fun A => .any⟩ :: ⟨_, true, [1], some (.vec w0.heap.size 9 eStr x1), true, fun A => .any⟩ :: []) (by kernel_rfl) (by kernel_rfl) (Wf.mk' (by kernel_rfl) (ur (ua (ua (UAll.nil)))) (by kernel_rfl) (by kernel_rfl)) hO hA ?_ ?_
 exact OblsR.m h0 <| OblsR.cons (OblR.made _ rfl rfl rfl rfl fun A' R' w' ho hd => by have a0 : R' 4 = v0 := hd.g 0 rfl; have ra0 := (f_v0.stp ho.stp).eq a0; exact made_call Tryz.call173 (M_slices_Clone_string_string_ok (q2 rfl) ho.av ra0) (Nat.le_trans hF.size ho.ch.size)) <| OblsR.cons (OblR.took 1 _ _ rfl rfl rfl rfl rfl fun A' R' w' ho hd u hok hav hin hop hds => by exact took_assign (hop _ _ rfl rfl rfl rfl).symm hok hav) <| OblsR.nil
 intro done ρ σ A R w hdn hI
 obtain ⟨u3, e_u3⟩ : ∃ u, ρ 2 = u := ⟨_, rfl⟩
 have h3 : R 3 = u3 := (hI.opvR hdn 2 2 rfl rfl rfl rfl rfl).symm.trans e_u3
 replace hAA := hI.low' hAA hA0 (hO.ge (trivial))
 replace hF : Fr w0 w := hF.tr hI.ch (hO.ge (trivial))
 replace hO := hI.left hdn [(2, ob u3 (.vec w0.heap.size 9 eStr x1))] ⟨rfl, rfl, e_u3, rfl, rfl, trivial⟩
 replace hA := hI.avok
 clear hI
 refine HT.seq ?_
 obtain ⟨x4, q5, hr⟩ := cl_some hr
 refine HT.textR [ob u3 (.vec w0.heap.size 9 eStr x1)] (rR u3 :: ⟨_, true, [0], some (.vec w0.heap.size 9 eStr x4), false, fun A => .any⟩ :: []) (by kernel_rfl) (by kernel_rfl) (Wf.mk' (by kernel_rfl) (ur (ua (UAll.nil))) (by kernel_rfl) (by kernel_rfl)) hO hA ?_ ?_
 exact OblsR.m h3 <| OblsR.cons (OblR.took 0 _ _ rfl rfl rfl rfl rfl fun A' R' w' ho hd u hok hav hin hop hds => by have a0 : R' 6 = u3 := hd.g 0 rfl; have hu0 : evalR R' (.tmp 6) = u := a0.trans (hin _ rfl).symm; exact took_call Tryz.call174 hav (fun _ _ _ _ _ h => h) (by simp only [List.map, hu0]; exact Calls.mono (M_sortS_ok (q5 rfl) (ho.av.sub _) (fun b o h => h.2) (Vec.flat hok (fun _ _ _ _ _ h => h))) (fun _ _ ⟨v, h1, h2, h3, h4⟩ => ⟨v, h1, trivial, h3, h4⟩))) <| OblsR.nil
 intro done ρ σ A R w hdn hI
 replace h3 := k1 hI.rg h3
 have z6 := hI.inivR 0 rfl
 have z7 := (hI.opnR hdn 2 1 rfl rfl rfl rfl rfl).trans z6
 replace hAA := hI.low' hAA hA0 (hO.ge (⟨rfl, trivial⟩))
 replace hF : Fr w0 w := hF.tr hI.ch (hO.ge (⟨rfl, trivial⟩))
 replace hO := hI.left hdn [(2, ob u3 (.vec w0.heap.size 9 eStr x4))] ⟨rfl, rfl, z7, rfl, rfl, trivial⟩
 replace hA := hI.avok
 clear hI
 refine HT.seq ?_
 obtain ⟨x8, q9, hr⟩ := cl_some hr
 refine HT.textR [ob u3 (.vec w0.heap.size 9 eStr x4)] (rR u3 :: ⟨_, true, [0], some (.vec w0.heap.size 9 eStr x8), true, fun A => .any⟩ :: ⟨_, true, [2], some (.vec w0.heap.size 9 eStr x8), true, fun A => .any⟩ :: []) (by kernel_rfl) (by kernel_rfl) (Wf.mk' (by kernel_rfl) (ur (ua (ua (UAll.nil)))) (by kernel_rfl) (by kernel_rfl)) hO hA ?_ ?_
 exact OblsR.m h3 <| OblsR.cons (OblR.took 0 _ _ rfl rfl rfl rfl rfl fun A' R' w' ho hd u hok hav hin hop hds => by have a0 : R' 8 = u3 := hd.g 0 rfl; have hu0 : evalR R' (.tmp 8) = u := a0.trans (hin _ rfl).symm; exact took_callm Tryz.call175 hav (by simp only [List.map, hu0]; exact M_slices_Compact_string_string_ok (q9 rfl) (ho.av.sub _) (fun b o h => h.2) (Vec.flat hok (fun _ _ _ _ _ h => h)))) <| OblsR.cons (OblR.took 2 _ _ rfl rfl rfl rfl rfl fun A' R' w' ho hd u hok hav hin hop hds => by exact took_assign (hop _ _ rfl rfl rfl rfl).symm hok hav) <| OblsR.nil
 intro done ρ σ A R w hdn hI
 obtain ⟨u10, e_u10⟩ : ∃ u, ρ 3 = u := ⟨_, rfl⟩
 have h2 : R 2 = u10 := (hI.opvR hdn 3 2 rfl rfl rfl rfl rfl).symm.trans e_u10
 replace hAA := hI.low' hAA hA0 (hO.ge (⟨rfl, trivial⟩))
 replace hF : Fr w0 w := hF.tr hI.ch (hO.ge (⟨rfl, trivial⟩))
 replace hO := hI.left hdn [(3, ob u10 (.vec w0.heap.size 9 eStr x8))] ⟨rfl, rfl, e_u10, rfl, rfl, trivial⟩
 replace hA := hI.avok
 clear hI
 refine HT.ret ?_
 obtain rfl := Option.some.inj hr
 exact ⟨.inr rfl, [R 2], ⟨rfl, trivial⟩, (own_post (hO.ok 0 _ rfl) hAA h2), hF⟩
def M_impl_Tokens (fu : Nat) (p0 : List UInt8) : Option (List (List UInt8)) :=
 cl true (M_impl_Normalize fu p0) fun x1 =>
 cl true (M_impl_words fu x1) fun x3 =>
 cl true (M_impl_sortedSet fu x3) fun x5 =>
 some x5
theorem M_impl_Tokens_ok {fu : Nat} {A0 : Av} {p0 : List UInt8} {r : List (List UInt8)} (hr : M_impl_Tokens fu p0 = some r) {w : World} {v0 : Value} (hA : AvOK A0 w) (hG : GTab w) (h0 : Rep eStr A0 w v0 p0) :
 Calls Tryz.prog 167 #[v0] w fun e w' => ∃ v, e = .returned v ∧ ((Res.vec w.heap.size 9 eStr r).ok (addA A0 v) v w' ∧ Fr w w') := by
 unfold M_impl_Tokens at hr
 obtain ⟨w0, hw0⟩ : ∃ w0, w0 = w := ⟨_, rfl⟩
 have hF : Fr w0 w := hw0 ▸ Fr.refl _
 have hA0 : ∀ b o, A0 b o → b < w0.heap.size := fun b o h => hw0 ▸ hA b o h
 have hA00 : AvOK A0 w0 := hA0
 rw [show w.heap.size = w0.heap.size from hw0 ▸ rfl]
 rw [show Fr w = Fr w0 from hw0 ▸ rfl]
 have hG0 : GTab w0 := hw0 ▸ hG
 clear hw0
 obtain ⟨A, hAe⟩ : ∃ A, A = A0 := ⟨_, rfl⟩
 have hAA : ∀ b o, A0 b o → A b o := fun b o h => hAe ▸ h
 replace hA : AvOK A w := hAe ▸ hA
 have hO : IniOK [] A w := IniOK.nil
 refine calls_of_HT2 [.tmp 2] Tryz.func167 Tryz.ntmps167 (by decide) rfl rfl (Nat.le_of_ble_eq_true rfl) ?_
 intro R hR
 have f_v0 : Rep eStr A w v0 p0 := hAe ▸ h0
 replace h0 : R 0 = v0 := hR 0 _ rfl
 clear hR hAe
 refine HT.seq ?_
 refine HT.u hA hF (eA :: []) ?_ ?_
 exact Obls.p (fun R' w' hw hs hd => of_assign trivial) <| Obls.nil
 intro R w hw hs hF' hA hF
 replace h0 := k1 hs h0
 replace f_v0 := f_v0.fr hw
 replace hO := hO.fr hw
 refine HT.seq ?_
 obtain ⟨x1, q2, hr⟩ := cl_some hr
 obtain ⟨x3, q4, hr⟩ := cl_some hr
 obtain ⟨x5, q6, hr⟩ := cl_some hr
 refine HT.textR [] (rR v0 :: (rF fun A => .rep eStr A x1) :: (rF fun A => .rep (eSl eStr) A x3) :: ⟨_, true, [], some (.vec w0.heap.size 9 eStr x5), true, fun A => .any⟩ :: ⟨_, true, [3], some (.vec w0.heap.size 9 eStr x5), true, fun A => .any⟩ :: []) (by kernel_rfl) (by kernel_rfl) (Wf.mk' (by kernel_rfl) (ur (up (up (ua (ua (UAll.nil)))))) (by kernel_rfl) (by kernel_rfl)) hO hA ?_ ?_
 exact OblsR.m h0 <| OblsR.p (fun A' R' w' ho hd => of_call Tryz.call218 (M_impl_Normalize_ok (q2 rfl) ho.av (hG0.fr (hF.tr ho.ch (hO.ge (trivial)))) ((f_v0.stp ho.stp).eq (hd.g 0 rfl)))) <| OblsR.p (fun A' R' w' ho hd => of_call Tryz.call217 (M_impl_words_ok (q4 rfl) ho.av (hd.g 0 rfl))) <| OblsR.cons (OblR.made _ rfl rfl rfl rfl fun A' R' w' ho hd => by have a0 : Rep (eSl eStr) A' w' (R' 5) x3 := hd.g 0 rfl; exact made_call Tryz.call122 (M_impl_sortedSet_ok (q6 rfl) ho.av a0) (Nat.le_trans hF.size ho.ch.size)) <| OblsR.cons (OblR.took 3 _ _ rfl rfl rfl rfl rfl fun A' R' w' ho hd u hok hav hin hop hds => by exact took_assign (hop _ _ rfl rfl rfl rfl).symm hok hav) <| OblsR.nil
 intro done ρ σ A R w hdn hI
 obtain ⟨u7, e_u7⟩ : ∃ u, ρ 4 = u := ⟨_, rfl⟩
 have h2 : R 2 = u7 := (hI.opvR hdn 4 4 rfl rfl rfl rfl rfl).symm.trans e_u7
 replace hAA := hI.low' hAA hA0 (hO.ge (trivial))
 replace hF : Fr w0 w := hF.tr hI.ch (hO.ge (trivial))
 replace hO := hI.left hdn [(4, ob u7 (.vec w0.heap.size 9 eStr x5))] ⟨rfl, rfl, e_u7, rfl, rfl, trivial⟩
 replace hA := hI.avok
 clear hI
 refine HT.ret ?_
 obtain rfl := Option.some.inj hr
 exact ⟨.inr rfl, [R 2], ⟨rfl, trivial⟩, (own_post (hO.ok 0 _ rfl) hAA h2), hF⟩
theorem M_impl_Tokens_okR {fu : Nat} {A0 : Av} {p0 : List UInt8} {r : List (List UInt8)} (hr : M_impl_Tokens fu p0 = some r) {w : World} {v0 : Value} (hA : AvOK A0 w) (hG : GTab w) (h0 : Rep eStr A0 w v0 p0) :
 Calls Tryz.prog 167 #[v0] w fun e w' => ∃ v, e = .returned v ∧ (Rep (eSl eStr) A0 w' v r ∧ Fr w w') := by
 refine Calls.mono (M_impl_Tokens_ok hr hA hG h0) ?_
 rintro e w' ⟨v, he, hv, hf⟩
 exact ⟨v, he, vec_rep hv (fun b o h => .inl h) hA, hf⟩
def M_impl_SoundCode (fu : Nat) (p0 : Int) : Option Int :=
 bd ((decide (65 ≤ p0)) && (decide (p0 ≤ 90))) fun x1 =>
 bif x1 then (
 cl true (M_impl_isSmall fu (IntKind.u8.wrap (p0 + 32))) fun x4 =>
 bif (!x4) then (
 some (-2)
 ) else (
 ck (inR (IntKind.u8.wrap ((IntKind.u8.wrap (p0 + 32)) - 97)) sndL.length) <|
 some (gtD sndL (IntKind.u8.wrap ((IntKind.u8.wrap (p0 + 32)) - 97)))
 )
 ) else (
 cl true (M_impl_isSmall fu p0) fun x8 =>
 bif (!x8) then (
 some (-2)
 ) else (
 ck (inR (IntKind.u8.wrap (p0 - 97)) sndL.length) <|
 some (gtD sndL (IntKind.u8.wrap (p0 - 97)))
 )
 )
theorem M_impl_SoundCode_ok {fu : Nat} {A : Av} {p0 : Int} {r : Int} (hr : M_impl_SoundCode fu p0 = some r) {w : World} {v0 : Value} (hA : AvOK A w) (hG : GTab w) (h0 : v0 = .int .u8 p0) :
 Calls Tryz.prog 248 #[v0] w fun e w' => ∃ v, e = .returned v ∧ (v = .int .i64 r ∧ Fr w w') := by
 unfold M_impl_SoundCode at hr
 obtain ⟨w0, hw0⟩ : ∃ w0, w0 = w := ⟨_, rfl⟩
 have hF : Fr w0 w := hw0 ▸ Fr.refl _
 rw [show Fr w = Fr w0 from hw0 ▸ rfl]
 have hG0 : GTab w0 := hw0 ▸ hG
 clear hw0
 refine calls_of_HT2 [.tmp 2] Tryz.func248 Tryz.ntmps248 (by decide) rfl rfl (Nat.le_of_ble_eq_true rfl) ?_
 intro R hR
 replace h0 : R 0 = .int .u8 p0 := (hR 0 _ rfl).trans h0
 clear hR
 refine HT.seq ?_
 refine HT.u hA hF (eI 0 :: []) ?_ ?_
 exact Obls.p (fun R' w' hw hs hd => of_assign rfl) <| Obls.nil
 intro R w hw hs hF' hA hF
 replace h0 := k1 hs h0
 refine HT.seq ?_
 refine HT.seq ?_
 obtain ⟨x1, q2, hr⟩ := bd_some hr
 refine HT.u hA hF (eU p0 :: eB (decide ((65 : Int) ≤ p0)) :: eB (decide ((65 : Int) ≤ p0)) :: gU (true && ((decide ((65 : Int) ≤ p0)) == true)) p0 :: gB (true && ((decide ((65 : Int) ≤ p0)) == true)) (decide (p0 ≤ (90 : Int))) :: eB x1 :: []) ?_ ?_
 exact Obls.m h0 <| Obls.p (fun R' w' hw hs hd => of_geq (hd.g 0 rfl) rfl) <| Obls.v <| Obls.g 2 true (fun hg R' w' hw hs hd => of_move ((hs 0 rfl).trans h0)) <| Obls.g 2 true (fun hg R' w' hw hs hd => of_leq (hd.h 0 hg rfl) rfl) <| Obls.p (fun R' w' hw hs hd => of_pick (decide ((65 : Int) ≤ p0)) (hd.g 0 rfl) (fun hc => by have a1 : R' 7 = .bool (decide (p0 ≤ (90 : Int))) := hd 1 _ _ _ rfl rfl rfl rfl (g_and rfl (beq_of hc)); show _ = Value.bool x1; rw [q2, hc]; exact a1) (fun hc => by show _ = Value.bool x1; rw [q2, hc]; exact rfl)) <| Obls.nil
 intro R w hw hs hF' hA hF
 replace h0 := k1 hs h0
 have h8 := hF'.r 5 rfl
 refine HT.cond x1 h8 (fun c3 => ?_) (fun c3 => ?_)
 have hr := cnd_t c3 hr
 refine HT.u hA hF (eU p0 :: eU (IntKind.u8.wrap (p0 + (32 : Int))) :: eU (IntKind.u8.wrap (p0 + (32 : Int))) :: []) ?_ ?_
 exact Obls.m h0 <| Obls.p (fun R' w' hw hs hd => of_add_w (hd.g 0 rfl) rfl) <| Obls.a <| Obls.nil
 intro R w hw hs hF' hA hF
 have h0 := hF'.r 2 rfl
 refine HT.seq ?_
 refine HT.seq ?_
 obtain ⟨x4, q5, hr⟩ := cl_some hr
 refine HT.u hA hF (eU (IntKind.u8.wrap (p0 + (32 : Int))) :: eB x4 :: eB (!x4) :: []) ?_ ?_
 exact Obls.m h0 <| Obls.p (fun R' w' hw hs hd => of_call Tryz.call288 (M_impl_isSmall_ok (q5 rfl) (hA.fr hw.size) (hd.g 0 rfl))) <| Obls.p (fun R' w' hw hs hd => of_not (hd.g 0 rfl)) <| Obls.nil
 intro R w hw hs hF' hA hF
 replace h0 := k1 hs h0
 have h13 := hF'.r 2 rfl
 refine HT.cond (!x4) h13 (fun c6 => ?_) (fun c6 => ?_)
 have hr := cnd_t c6 hr
 refine HT.seq ?_
 refine HT.u hA hF (eI (-2) :: []) ?_ ?_
 exact Obls.p (fun R' w' hw hs hd => of_assign rfl) <| Obls.nil
 intro R w hw hs hF' hA hF
 have h2 := hF'.r 0 rfl
 refine HT.ret ?_
 obtain rfl := Option.some.inj hr
 exact ⟨.inr rfl, [R 2], ⟨rfl, trivial⟩, h2, hF⟩
 have hr := cnd_f c6 hr
 refine HT.skip ?_
 refine HT.seq ?_
 obtain ⟨e7, hr⟩ := ck_some hr
 refine HT.u hA hF (eU (IntKind.u8.wrap (p0 + (32 : Int))) :: eU (IntKind.u8.wrap ((IntKind.u8.wrap (p0 + (32 : Int))) - (97 : Int))) :: eR (.pointer (some ⟨1, (IntKind.u8.wrap ((IntKind.u8.wrap (p0 + (32 : Int))) - (97 : Int))).toNat, none⟩)) :: eI (gtD sndL (IntKind.u8.wrap ((IntKind.u8.wrap (p0 + (32 : Int))) - (97 : Int)))) :: eI (gtD sndL (IntKind.u8.wrap ((IntKind.u8.wrap (p0 + (32 : Int))) - (97 : Int)))) :: []) ?_ ?_
 exact Obls.m h0 <| Obls.p (fun R' w' hw hs hd => of_sub_w (hd.g 0 rfl) rfl) <| Obls.p (fun R' w' hw hs hd => of_indexAddr_g (hd.g 0 rfl) Tryz.underlying247 Tryz.sizeOf3 e7) <| Obls.p (fun R' w' hw hs hd => OpF.int (of_load ((hG0.fr (hF.trans hw)).sndAt e7 ((hd.g 0 rfl))) Tryz.isAgg3 Tryz.sizeOf3)) <| Obls.a <| Obls.nil
 intro R w hw hs hF' hA hF
 have h2 := hF'.r 4 rfl
 refine HT.ret ?_
 obtain rfl := Option.some.inj hr
 exact ⟨.inr rfl, [R 2], ⟨rfl, trivial⟩, h2, hF⟩
 have hr := cnd_f c3 hr
 refine HT.skip ?_
 refine HT.seq ?_
 refine HT.seq ?_
 obtain ⟨x8, q9, hr⟩ := cl_some hr
 refine HT.u hA hF (eU p0 :: eB x8 :: eB (!x8) :: []) ?_ ?_
 exact Obls.m h0 <| Obls.p (fun R' w' hw hs hd => of_call Tryz.call288 (M_impl_isSmall_ok (q9 rfl) (hA.fr hw.size) (hd.g 0 rfl))) <| Obls.p (fun R' w' hw hs hd => of_not (hd.g 0 rfl)) <| Obls.nil
 intro R w hw hs hF' hA hF
 replace h0 := k1 hs h0
 have h13 := hF'.r 2 rfl
 refine HT.cond (!x8) h13 (fun c10 => ?_) (fun c10 => ?_)
 have hr := cnd_t c10 hr
 refine HT.seq ?_
 refine HT.u hA hF (eI (-2) :: []) ?_ ?_
 exact Obls.p (fun R' w' hw hs hd => of_assign rfl) <| Obls.nil
 intro R w hw hs hF' hA hF
 have h2 := hF'.r 0 rfl
 refine HT.ret ?_
 obtain rfl := Option.some.inj hr
 exact ⟨.inr rfl, [R 2], ⟨rfl, trivial⟩, h2, hF⟩
 have hr := cnd_f c10 hr
 refine HT.skip ?_
 refine HT.seq ?_
 obtain ⟨e11, hr⟩ := ck_some hr
 refine HT.u hA hF (eU p0 :: eU (IntKind.u8.wrap (p0 - (97 : Int))) :: eR (.pointer (some ⟨1, (IntKind.u8.wrap (p0 - (97 : Int))).toNat, none⟩)) :: eI (gtD sndL (IntKind.u8.wrap (p0 - (97 : Int)))) :: eI (gtD sndL (IntKind.u8.wrap (p0 - (97 : Int)))) :: []) ?_ ?_
 exact Obls.m h0 <| Obls.p (fun R' w' hw hs hd => of_sub_w (hd.g 0 rfl) rfl) <| Obls.p (fun R' w' hw hs hd => of_indexAddr_g (hd.g 0 rfl) Tryz.underlying247 Tryz.sizeOf3 e11) <| Obls.p (fun R' w' hw hs hd => OpF.int (of_load ((hG0.fr (hF.trans hw)).sndAt e11 ((hd.g 0 rfl))) Tryz.isAgg3 Tryz.sizeOf3)) <| Obls.a <| Obls.nil
 intro R w hw hs hF' hA hF
 have h2 := hF'.r 4 rfl
 refine HT.ret ?_
 obtain rfl := Option.some.inj hr
 exact ⟨.inr rfl, [R 2], ⟨rfl, trivial⟩, h2, hF⟩
def M_impl_Soundex_L0 (fu : Nat) (p0 : List UInt8) : Nat → Int → Int → (List Int) → Option (Ex (List UInt8) (List Int))
 | 0, _, _, _ => none
 | k + 1, y14, y15, y16 =>
 bif (decide (y15 < (p0.length : Int))) then (
 ck (inR y15 p0.length) <|
 cl true (M_impl_SoundCode fu (bAt p0 y15)) fun x19 =>
 bif (x19 == (-2)) then (
 some (Ex.ret ([] : List UInt8))
 ) else (
 bd ((y15 == 0) || (decide (x19 < 0))) fun x23 =>
 bif x23 then (
 ck (i64B (y15 + 1)) <|
 M_impl_Soundex_L0 fu p0 k y14 (y15 + 1) y16
 ) else (
 bd ((decide (0 < x19)) && (x19 != y14)) fun x27 =>
 bif x27 then (
 ck (i64B (48 + x19)) <|
 ck (lenOK (y16.length + ([(IntKind.u8.wrap (48 + x19))] : List Int).length)) <|
 ck (i64B (y15 + 1)) <|
 M_impl_Soundex_L0 fu p0 k x19 (y15 + 1) (y16 ++ ([(IntKind.u8.wrap (48 + x19))] : List Int))
 ) else (
 ck (i64B (y15 + 1)) <|
 M_impl_Soundex_L0 fu p0 k x19 (y15 + 1) y16
 )
 )
 )
 ) else (
 some (Ex.go y16)
 )
def M_impl_Soundex (fu : Nat) (p0 : List UInt8) : Option (List UInt8) :=
 bif (p0 == ([] : List UInt8)) then (
 some ([] : List UInt8)
 ) else (
 ck (subR 0 1 p0.length) <|
 cl true (M_impl_FoldCase fu (subL p0 0 1)) fun x4 =>
 ck (lenOK x4.length) <|
 ck (inR 0 p0.length) <|
 cl true (M_impl_SoundCode fu (bAt p0 0)) fun x9 =>
 cl true (M_impl_Soundex_L0 fu p0 fu x9 0 (bytL x4)) fun rl11 =>
 exM rl11 (fun r => some r) fun s13 =>
 ck (lenOK ((strB s13) ++ ([48, 48, 48] : List UInt8)).length) <|
 ck (subR 0 4 ((strB s13) ++ ([48, 48, 48] : List UInt8)).length) <|
 some (subL ((strB s13) ++ ([48, 48, 48] : List UInt8)) 0 4)
 )
theorem M_impl_Soundex_ok {fu : Nat} {A0 : Av} {p0 : List UInt8} {r : List UInt8} (hr : M_impl_Soundex fu p0 = some r) {w : World} {v0 : Value} (hA : AvOK A0 w) (hG : GTab w) (h0 : Rep eStr A0 w v0 p0) :
 Calls Tryz.prog 214 #[v0] w fun e w' => ∃ v, e = .returned v ∧ (Rep eStr A0 w' v r ∧ Fr w w') := by
 unfold M_impl_Soundex at hr
 obtain ⟨w0, hw0⟩ : ∃ w0, w0 = w := ⟨_, rfl⟩
 have hF : Fr w0 w := hw0 ▸ Fr.refl _
 have hA0 : ∀ b o, A0 b o → b < w0.heap.size := fun b o h => hw0 ▸ hA b o h
 have hA00 : AvOK A0 w0 := hA0
 rw [show Fr w = Fr w0 from hw0 ▸ rfl]
 have hG0 : GTab w0 := hw0 ▸ hG
 clear hw0
 obtain ⟨A, hAe⟩ : ∃ A, A = A0 := ⟨_, rfl⟩
 have hAA : ∀ b o, A0 b o → A b o := fun b o h => hAe ▸ h
 replace hA : AvOK A w := hAe ▸ hA
 have hO : IniOK [] A w := IniOK.nil
 refine calls_of_HT2 [.tmp 2] Tryz.func214 Tryz.ntmps214 (by decide) rfl rfl (Nat.le_of_ble_eq_true rfl) ?_
 intro R hR
 have f_v0 : Rep eStr A w v0 p0 := hAe ▸ h0
 replace h0 : R 0 = v0 := hR 0 _ rfl
 clear hR hAe
 refine HT.seq ?_
 refine HT.u hA hF (eF (.rep eStr A ([] : List UInt8)) :: []) ?_ ?_
 exact Obls.p (fun R' w' hw hs hd => of_assign ⟨_, rfl, ⟨_, rfl, rfl, by decide⟩⟩) <| Obls.nil
 intro R w hw hs hF' hA hF
 replace h0 := k1 hs h0
 replace f_v0 := f_v0.fr hw
 replace hO := hO.fr hw
 refine HT.seq ?_
 refine HT.seq ?_
 refine HT.u hA hF (eR v0 :: eB (p0 == ([] : List UInt8)) :: []) ?_ ?_
 exact Obls.m h0 <| Obls.p (fun R' w' hw hs hd => of_seql ((f_v0.fr hw).eq (hd.g 0 rfl)) ⟨_, rfl, ⟨_, rfl, rfl, by decide⟩⟩) <| Obls.nil
 intro R w hw hs hF' hA hF
 replace h0 := k1 hs h0
 have h8 := hF'.r 1 rfl
 replace f_v0 := f_v0.fr hw
 replace hO := hO.fr hw
 refine HT.cond (p0 == ([] : List UInt8)) h8 (fun c1 => ?_) (fun c1 => ?_)
 have hr := cnd_t c1 hr
 refine HT.seq ?_
 refine HT.u hA hF (eF (.rep eStr A ([] : List UInt8)) :: []) ?_ ?_
 exact Obls.p (fun R' w' hw hs hd => of_assign ⟨_, rfl, ⟨_, rfl, rfl, by decide⟩⟩) <| Obls.nil
 intro R w hw hs hF' hA hF
 obtain ⟨u2, h2, f_u2⟩ : ∃ u, R 2 = u ∧ Rep eStr A w u ([] : List UInt8) := ⟨_, rfl, hF' 0 _ _ rfl rfl rfl⟩
 replace hO := hO.fr hw
 refine HT.ret ?_
 obtain rfl := Option.some.inj hr
 exact ⟨.inr rfl, [R 2], ⟨rfl, trivial⟩, (f_u2.eq h2).down hAA, hF⟩
 have hr := cnd_f c1 hr
 refine HT.skip ?_
 refine HT.seq ?_
 obtain ⟨e3, hr⟩ := ck_some hr
 obtain ⟨x4, q5, hr⟩ := cl_some hr
 obtain ⟨e6, hr⟩ := ck_some hr
 refine HT.textR [] (rR v0 :: (rF fun A => .rep eStr A (subL p0 0 (1 : Int))) :: (rF fun A => .rep eStr A x4) :: ⟨_, true, [], some (.vec w0.heap.size 5 (eInt .u8) (bytL x4)), true, fun A => .any⟩ :: ⟨_, true, [3], some (.vec w0.heap.size 5 (eInt .u8) (bytL x4)), true, fun A => .any⟩ :: []) (by kernel_rfl) (by kernel_rfl) (Wf.mk' (by kernel_rfl) (ur (up (up (ua (ua (UAll.nil)))))) (by kernel_rfl) (by kernel_rfl)) hO hA ?_ ?_
 exact OblsR.m h0 <| OblsR.p (fun A' R' w' ho hd => of_slice_str_hi ((f_v0.stp ho.stp).eq (hd.g 0 rfl)) rfl Tryz.underlying9  e3) <| OblsR.p (fun A' R' w' ho hd => of_call Tryz.call247 (M_impl_FoldCase_ok (q5 rfl) ho.av (hd.g 0 rfl))) <| OblsR.cons (OblR.made _ rfl rfl rfl rfl fun A' R' w' ho hd => by have a0 : Rep eStr A' w' (R' 11) x4 := hd.g 0 rfl; exact made_bytes a0 Tryz.underlying9 Tryz.underlying22 Tryz.underlying5 rfl e6 (Nat.le_trans hF.size ho.ch.size)) <| OblsR.cons (OblR.took 3 _ _ rfl rfl rfl rfl rfl fun A' R' w' ho hd u hok hav hin hop hds => by exact took_assign (hop _ _ rfl rfl rfl rfl).symm hok hav) <| OblsR.nil
 intro done ρ σ A R w hdn hI
 replace h0 := k1 hI.rg h0
 obtain ⟨u7, e_u7⟩ : ∃ u, ρ 4 = u := ⟨_, rfl⟩
 have h3 : R 3 = u7 := (hI.opvR hdn 4 4 rfl rfl rfl rfl rfl).symm.trans e_u7
 replace f_v0 := f_v0.stp hI.stp
 replace hAA := hI.low' hAA hA0 (hO.ge (trivial))
 replace hF : Fr w0 w := hF.tr hI.ch (hO.ge (trivial))
 replace hO := hI.left hdn [(4, ob u7 (.vec w0.heap.size 5 (eInt .u8) (bytL x4)))] ⟨rfl, rfl, e_u7, rfl, rfl, trivial⟩
 replace hA := hI.avok
 clear hI
 refine HT.seq ?_
 obtain ⟨e8, hr⟩ := ck_some hr
 obtain ⟨x9, q10, hr⟩ := cl_some hr
 refine HT.u hA hF (eR v0 :: eU (bAt p0 (0 : Int)) :: eI x9 :: eI x9 :: []) ?_ ?_
 exact Obls.m h0 <| Obls.p (fun R' w' hw hs hd => of_strIndex ((f_v0.fr hw).eq (hd.g 0 rfl)) rfl Tryz.underlying9 e8) <| Obls.p (fun R' w' hw hs hd => of_call Tryz.call248 (M_impl_SoundCode_ok (q10 rfl) (hA.fr hw.size) (hG0.fr (hF.trans hw)) (hd.g 0 rfl))) <| Obls.a <| Obls.nil
 intro R w hw hs hF' hA hF
 obtain ⟨h0, h3⟩ := k2 hs h0 h3
 have h4 := hF'.r 3 rfl
 replace f_v0 := f_v0.fr hw
 replace hO := hO.fr hw
 refine HT.seq ?_
 refine HT.seq ?_
 refine HT.u hA hF (eR v0 :: eI (p0.length : Int) :: eI 0 :: []) ?_ ?_
 exact Obls.m h0 <| Obls.p (fun R' w' hw hs hd => of_len_str ((f_v0.fr hw).eq (hd.g 0 rfl)) Tryz.underlying9) <| Obls.p (fun R' w' hw hs hd => of_move rfl) <| Obls.nil
 intro R w hw hs hF' hA hF
 obtain ⟨h0, h3, h4⟩ := k3 hs h0 h3 h4
 have h17 := hF'.r 1 rfl
 have h18 := hF'.r 2 rfl
 replace f_v0 := f_v0.fr hw
 replace hO := hO.fr hw
 obtain ⟨rl11, q12, hr⟩ := cl_some hr
 replace q12 := q12 rfl
 refine HT.cut0 (fun R w => ∃ A : Av, ∃ (s13 : (List Int)) (uo_u7 : Value), rl11 = Ex.go s13 ∧ AvOK A w ∧ Fr w0 w ∧ (∀ b o, A0 b o → A b o) ∧ IniOK [ob uo_u7 (.vec w0.heap.size 5 (eInt .u8) s13)] A w ∧ R 3 = uo_u7) ?_ ?_
 refine HT.block ?_
 refine HT.loop (fun k R w => ∃ A : Av, ∃ (y14 : Int) (y15 : Int) (y16 : List Int) (ul_u7 : Value), M_impl_Soundex_L0 fu p0 k y14 y15 y16 = some rl11 ∧ AvOK A w ∧ Fr w0 w ∧ (∀ b o, A0 b o → A b o) ∧ IniOK [ob ul_u7 (.vec w0.heap.size 5 (eInt .u8) y16)] A w ∧ R 0 = v0 ∧ R 3 = ul_u7 ∧ R 4 = .int .i64 y14 ∧ R 17 = .int .i64 (p0.length : Int) ∧ R 18 = .int .i64 y15 ∧ Rep eStr A w v0 p0) fu ⟨_, _, _, _, u7, q12, hA, hF, hAA, hO, h0, h3, h4, h17, h18, f_v0⟩ ?_
 have hr0 := hr; clear hr q12
 rintro k R w ⟨A, y14, y15, y16, ul_u7, hr, hA, hF, hAA, hO, h0, h3, h4, h17, h18, f_v0⟩
 rcases k with _ | k
 cases (show none = some _ from hr)
 rw [M_impl_Soundex_L0] at hr
 refine HT.seq ?_
 refine HT.u hA hF (eB (decide (y15 < (p0.length : Int))) :: []) ?_ ?_
 exact Obls.p (fun R' w' hw hs hd => of_lss ((hs 18 rfl).trans h18) ((hs 17 rfl).trans h17)) <| Obls.nil
 intro R w hw hs hF' hA hF
 obtain ⟨h0, h3, h4, h17, h18⟩ := k5 hs h0 h3 h4 h17 h18
 have h19 := hF'.r 0 rfl
 replace f_v0 := f_v0.fr hw
 replace hO := hO.fr hw
 refine HT.seq ?_
 refine HT.cond (decide (y15 < (p0.length : Int))) h19 (fun c17 => ?_) (fun c17 => ?_)
 have hr := cnd_t c17 hr
 refine HT.skip ?_
 refine HT.seq ?_
 refine HT.block ?_
 refine HT.seq ?_
 refine HT.u hA hF (eI y15 :: eI y15 :: []) ?_ ?_
 exact Obls.m h18 <| Obls.a <| Obls.nil
 intro R w hw hs hF' hA hF
 obtain ⟨h0, h3, h4, h17, h18⟩ := k5 hs h0 h3 h4 h17 h18
 have h5 := hF'.r 1 rfl
 replace f_v0 := f_v0.fr hw
 replace hO := hO.fr hw
 refine HT.seq ?_
 obtain ⟨e18, hr⟩ := ck_some hr
 obtain ⟨x19, q20, hr⟩ := cl_some hr
 refine HT.u hA hF (eR v0 :: eI y15 :: eU (bAt p0 y15) :: eI x19 :: eI x19 :: []) ?_ ?_
 exact Obls.m h0 <| Obls.m h5 <| Obls.p (fun R' w' hw hs hd => of_strIndex ((f_v0.fr hw).eq (hd.g 0 rfl)) (hd.g 1 rfl) Tryz.underlying9 e18) <| Obls.p (fun R' w' hw hs hd => of_call Tryz.call248 (M_impl_SoundCode_ok (q20 rfl) (hA.fr hw.size) (hG0.fr (hF.trans hw)) (hd.g 0 rfl))) <| Obls.a <| Obls.nil
 intro R w hw hs hF' hA hF
 obtain ⟨h0, h3, h4, h5, h17, h18⟩ := k6 hs h0 h3 h4 h5 h17 h18
 have h6 := hF'.r 4 rfl
 replace f_v0 := f_v0.fr hw
 replace hO := hO.fr hw
 refine HT.seq ?_
 refine HT.seq ?_
 refine HT.u hA hF (eI x19 :: eB (x19 == (-2 : Int)) :: []) ?_ ?_
 exact Obls.m h6 <| Obls.p (fun R' w' hw hs hd => of_eql (hd.g 0 rfl) rfl) <| Obls.nil
 intro R w hw hs hF' hA hF
 obtain ⟨h0, h3, h4, h5, h6, h17⟩ := k6 hs h0 h3 h4 h5 h6 h17
 replace h18 := k1 hs h18
 have h26 := hF'.r 1 rfl
 replace f_v0 := f_v0.fr hw
 replace hO := hO.fr hw
 refine HT.cond (x19 == (-2 : Int)) h26 (fun c21 => ?_) (fun c21 => ?_)
 have hr := cnd_t c21 hr
 refine HT.seq ?_
 refine HT.u hA hF (eF (.rep eStr A ([] : List UInt8)) :: []) ?_ ?_
 exact Obls.p (fun R' w' hw hs hd => of_assign ⟨_, rfl, ⟨_, rfl, rfl, by decide⟩⟩) <| Obls.nil
 intro R w hw hs hF' hA hF
 obtain ⟨u22, h2, f_u22⟩ : ∃ u, R 2 = u ∧ Rep eStr A w u ([] : List UInt8) := ⟨_, rfl, hF' 0 _ _ rfl rfl rfl⟩
 replace hO := hO.fr hw
 replace hO : IniOK [] A w := hO.sub [] trivial
 refine HT.ret ?_
 obtain rfl := Option.some.inj hr
 have hr := hr0
 replace hr : some _ = some _ := hr
 obtain rfl := Option.some.inj hr
 exact ⟨.inr rfl, [R 2], ⟨rfl, trivial⟩, (f_u22.eq h2).down hAA, hF⟩
 have hr := cnd_f c21 hr
 refine HT.skip ?_
 refine HT.seq ?_
 refine HT.seq ?_
 obtain ⟨x23, q24, hr⟩ := bd_some hr
 refine HT.u hA hF (eI y15 :: eB (y15 == (0 : Int)) :: eB (y15 == (0 : Int)) :: gI (true && ((y15 == (0 : Int)) == false)) x19 :: gB (true && ((y15 == (0 : Int)) == false)) (decide (x19 < (0 : Int))) :: eB x23 :: []) ?_ ?_
 exact Obls.m h5 <| Obls.p (fun R' w' hw hs hd => of_eql (hd.g 0 rfl) rfl) <| Obls.v <| Obls.g 2 false (fun hg R' w' hw hs hd => of_move ((hs 6 rfl).trans h6)) <| Obls.g 2 false (fun hg R' w' hw hs hd => of_lss (hd.h 0 hg rfl) rfl) <| Obls.p (fun R' w' hw hs hd => of_pick (y15 == (0 : Int)) (hd.g 0 rfl) (fun hc => by show _ = Value.bool x23; rw [q24, hc]; exact rfl) (fun hc => by have a2 : R' 31 = .bool (decide (x19 < (0 : Int))) := hd 1 _ _ _ rfl rfl rfl rfl (g_and rfl (beq_of hc)); show _ = Value.bool x23; rw [q24, hc]; exact a2)) <| Obls.nil
 intro R w hw hs hF' hA hF
 obtain ⟨h0, h3, h4, h6, h17, h18⟩ := k6 hs h0 h3 h4 h6 h17 h18
 have h32 := hF'.r 5 rfl
 replace f_v0 := f_v0.fr hw
 replace hO := hO.fr hw
 refine HT.cond x23 h32 (fun c25 => ?_) (fun c25 => ?_)
 have hr := cnd_t c25 hr
 refine HT.exit ?_
 obtain ⟨e26, hr⟩ := ck_some hr
 refine HT.u hA hF (eI (y15 + (1 : Int)) :: eI (y15 + (1 : Int)) :: []) ?_ ?_
 exact Obls.p (fun R' w' hw hs hd => of_add ((hs 18 rfl).trans h18) rfl e26) <| Obls.v <| Obls.nil
 intro R w hw hs hF' hA hF
 obtain ⟨h0, h3, h4, h17⟩ := k4 hs h0 h3 h4 h17
 have h18 := hF'.r 1 rfl
 replace f_v0 := f_v0.fr hw
 replace hO := hO.fr hw
 exact Exists.intro k (And.intro (Nat.lt_succ_self k) ⟨_, _, _, _, ul_u7, hr, hA, hF, hAA, hO, h0, h3, h4, h17, h18, f_v0⟩)
 have hr := cnd_f c25 hr
 refine HT.skip ?_
 refine HT.seq ?_
 refine HT.seq ?_
 obtain ⟨x27, q28, hr⟩ := bd_some hr
 refine HT.u hA hF (eI x19 :: eB (decide ((0 : Int) < x19)) :: eB (decide ((0 : Int) < x19)) :: gI (true && ((decide ((0 : Int) < x19)) == true)) x19 :: gI (true && ((decide ((0 : Int) < x19)) == true)) y14 :: gB (true && ((decide ((0 : Int) < x19)) == true)) (x19 != y14) :: eB x27 :: []) ?_ ?_
 exact Obls.m h6 <| Obls.p (fun R' w' hw hs hd => of_gtr (hd.g 0 rfl) rfl) <| Obls.v <| Obls.g 2 true (fun hg R' w' hw hs hd => of_move ((hs 6 rfl).trans h6)) <| Obls.g 2 true (fun hg R' w' hw hs hd => of_move ((hs 4 rfl).trans h4)) <| Obls.g 2 true (fun hg R' w' hw hs hd => of_neq (hd.h 0 hg rfl) (hd.h 1 hg rfl)) <| Obls.p (fun R' w' hw hs hd => of_pick (decide ((0 : Int) < x19)) (hd.g 0 rfl) (fun hc => by have a1 : R' 38 = .bool (x19 != y14) := hd 1 _ _ _ rfl rfl rfl rfl (g_and rfl (beq_of hc)); show _ = Value.bool x27; rw [q28, hc]; exact a1) (fun hc => by show _ = Value.bool x27; rw [q28, hc]; exact rfl)) <| Obls.nil
 intro R w hw hs hF' hA hF
 obtain ⟨h0, h3, h6, h17, h18⟩ := k5 hs h0 h3 h6 h17 h18
 have h39 := hF'.r 6 rfl
 replace f_v0 := f_v0.fr hw
 replace hO := hO.fr hw
 refine HT.cond x27 h39 (fun c29 => ?_) (fun c29 => ?_)
 have hr := cnd_t c29 hr
 obtain ⟨e30, hr⟩ := ck_some hr
 obtain ⟨e31, hr⟩ := ck_some hr
 refine HT.textR [ob ul_u7 (.vec w0.heap.size 5 (eInt .u8) y16)] (rR ul_u7 :: rI x19 :: rI ((48 : Int) + x19) :: rU (IntKind.u8.wrap ((48 : Int) + x19)) :: (rF fun A => .rep (eSl (eInt .u8)) A ([(IntKind.u8.wrap ((48 : Int) + x19))] : List Int)) :: ⟨_, true, [0], some (.vec w0.heap.size 5 (eInt .u8) (y16 ++ ([(IntKind.u8.wrap ((48 : Int) + x19))] : List Int))), true, fun A => .any⟩ :: ⟨_, true, [6], some (.vec w0.heap.size 5 (eInt .u8) (y16 ++ ([(IntKind.u8.wrap ((48 : Int) + x19))] : List Int))), true, fun A => .any⟩ :: []) (by kernel_rfl) (by kernel_rfl) (Wf.mk' (by kernel_rfl) (ur (ur (ur (ur (up (ua (ua (UAll.nil)))))))) (by kernel_rfl) (by kernel_rfl)) hO hA ?_ ?_
 exact OblsR.m h3 <| OblsR.m h6 <| OblsR.p (fun A' R' w' ho hd => of_add rfl (hd.g 0 rfl) e30) <| OblsR.p (fun A' R' w' ho hd => of_conv_int (hd.g 0 rfl) Tryz.underlying3 Tryz.underlying5) <| OblsR.p (fun A' R' w' ho hd => of_build [_] (E := eInt .u8) ⟨(rep_int.eq (hd.g 0 rfl)), trivial⟩ Tryz.underlying22 Tryz.sizeOf5 Tryz.zeroValue5 rfl rfl rfl ho.av) <| OblsR.cons (OblR.took 0 _ _ rfl rfl rfl rfl rfl fun A' R' w' ho hd u hok hav hin hop hds => by have a0 : R' 40 = ul_u7 := hd.g 0 rfl; have a1 : Rep (eSl (eInt .u8)) A' w' (R' 44) ([(IntKind.u8.wrap ((48 : Int) + x19))] : List Int) := hd.g 1 rfl; exact took_append (a0.trans (hin _ rfl).symm) hok hav (Nat.le_trans hF.size ho.ch.size) a1 Tryz.underlying22 el_5 e31) <| OblsR.cons (OblR.took 6 _ _ rfl rfl rfl rfl rfl fun A' R' w' ho hd u hok hav hin hop hds => by exact took_assign (hop _ _ rfl rfl rfl rfl).symm hok hav) <| OblsR.nil
 intro done ρ σ A R w hdn hI
 obtain ⟨h0, h6, h17, h18⟩ := k4 hI.rg h0 h6 h17 h18
 obtain ⟨u32, e_u32⟩ : ∃ u, ρ 7 = u := ⟨_, rfl⟩
 have h3 : R 3 = u32 := (hI.opvR hdn 7 6 rfl rfl rfl rfl rfl).symm.trans e_u32
 replace f_v0 := f_v0.stp hI.stp
 replace hAA := hI.low' hAA hA0 (hO.ge (⟨rfl, trivial⟩))
 replace hF : Fr w0 w := hF.tr hI.ch (hO.ge (⟨rfl, trivial⟩))
 replace hO := hI.left hdn [(7, ob u32 (.vec w0.heap.size 5 (eInt .u8) (y16 ++ ([(IntKind.u8.wrap ((48 : Int) + x19))] : List Int))))] ⟨rfl, rfl, e_u32, rfl, rfl, trivial⟩
 replace hA := hI.avok
 clear hI
 refine HT.u hA hF (eI x19 :: eI x19 :: []) ?_ ?_
 exact Obls.m h6 <| Obls.a <| Obls.nil
 intro R w hw hs hF' hA hF
 obtain ⟨h0, h3, h17, h18⟩ := k4 hs h0 h3 h17 h18
 have h4 := hF'.r 1 rfl
 replace f_v0 := f_v0.fr hw
 replace hO := hO.fr hw
 obtain ⟨e33, hr⟩ := ck_some hr
 refine HT.u hA hF (eI (y15 + (1 : Int)) :: eI (y15 + (1 : Int)) :: []) ?_ ?_
 exact Obls.p (fun R' w' hw hs hd => of_add ((hs 18 rfl).trans h18) rfl e33) <| Obls.v <| Obls.nil
 intro R w hw hs hF' hA hF
 obtain ⟨h0, h3, h4, h17⟩ := k4 hs h0 h3 h4 h17
 have h18 := hF'.r 1 rfl
 replace f_v0 := f_v0.fr hw
 replace hO := hO.fr hw
 exact Exists.intro k (And.intro (Nat.lt_succ_self k) ⟨_, _, _, _, u32, hr, hA, hF, hAA, hO, h0, h3, h4, h17, h18, f_v0⟩)
 have hr := cnd_f c29 hr
 refine HT.skip ?_
 refine HT.u hA hF (eI x19 :: eI x19 :: []) ?_ ?_
 exact Obls.m h6 <| Obls.a <| Obls.nil
 intro R w hw hs hF' hA hF
 obtain ⟨h0, h3, h17, h18⟩ := k4 hs h0 h3 h17 h18
 have h4 := hF'.r 1 rfl
 replace f_v0 := f_v0.fr hw
 replace hO := hO.fr hw
 obtain ⟨e34, hr⟩ := ck_some hr
 refine HT.u hA hF (eI (y15 + (1 : Int)) :: eI (y15 + (1 : Int)) :: []) ?_ ?_
 exact Obls.p (fun R' w' hw hs hd => of_add ((hs 18 rfl).trans h18) rfl e34) <| Obls.v <| Obls.nil
 intro R w hw hs hF' hA hF
 obtain ⟨h0, h3, h4, h17⟩ := k4 hs h0 h3 h4 h17
 have h18 := hF'.r 1 rfl
 replace f_v0 := f_v0.fr hw
 replace hO := hO.fr hw
 exact Exists.intro k (And.intro (Nat.lt_succ_self k) ⟨_, _, _, _, ul_u7, hr, hA, hF, hAA, hO, h0, h3, h4, h17, h18, f_v0⟩)
 have hr := cnd_f c17 hr
 refine HT.exit ?_
 obtain rfl := Option.some.inj hr
 exact Exists.intro _ ⟨_, ul_u7, rfl, hA, hF, hAA, hO, h3⟩
 rintro R w ⟨A, s13, uo_u7, rfl, hA, hF, hAA, hO, h3⟩
 have hr := exM_go hr
 refine HT.seq ?_
 obtain ⟨e35, hr⟩ := ck_some hr
 obtain ⟨e36, hr⟩ := ck_some hr
 refine HT.u hA hF (eR uo_u7 :: eF (.rep eStr A (strB s13)) :: eF (.rep eStr A ((strB s13) ++ ([48, 48, 48] : List UInt8))) :: eF (.rep eStr A (subL ((strB s13) ++ ([48, 48, 48] : List UInt8)) 0 (4 : Int))) :: eF (.rep eStr A (subL ((strB s13) ++ ([48, 48, 48] : List UInt8)) 0 (4 : Int))) :: []) ?_ ?_
 exact Obls.m h3 <| Obls.p (fun R' w' hw hs hd => of_conv_bytes ((vec_rep ((hO.fr hw).ok 0 _ rfl).1 hAA hA0).eq (hd.g 0 rfl)) Tryz.underlying22 Tryz.underlying5 Tryz.underlying9) <| Obls.p (fun R' w' hw hs hd => of_cat (hd.g 0 rfl) ⟨_, rfl, ⟨_, rfl, rfl, by decide⟩⟩ e35) <| Obls.p (fun R' w' hw hs hd => of_slice_str_hi (hd.g 0 rfl) rfl Tryz.underlying9  e36) <| Obls.p (fun R' w' hw hs hd => of_assign (hd.g 0 rfl)) <| Obls.nil
 intro R w hw hs hF' hA hF
 obtain ⟨u37, h2, f_u37⟩ : ∃ u, R 2 = u ∧ Rep eStr A w u (subL ((strB s13) ++ ([48, 48, 48] : List UInt8)) 0 (4 : Int)) := ⟨_, rfl, hF' 4 _ _ rfl rfl rfl⟩
 replace hO := hO.fr hw
 replace hO : IniOK [] A w := hO.sub [] trivial
 refine HT.ret ?_
 obtain rfl := Option.some.inj hr
 exact ⟨.inr rfl, [R 2], ⟨rfl, trivial⟩, (f_u37.eq h2).down hAA, hF⟩
def M_impl_SoundKeys_L0 (fu : Nat) (x2 : List (List UInt8)) : Nat → Int → (List (List UInt8)) → Option (List (List UInt8))
 | 0, _, _ => none
 | k + 1, y8, y9 =>
 bif (decide (y8 < (x2.length : Int))) then (
 ck (inR y8 x2.length) <|
 cl true (M_impl_Soundex fu (gtD x2 y8)) fun x13 =>
 bif (!(x13 == ([] : List UInt8))) then (
 ck (lenOK (y9.length + ([x13] : List (List UInt8)).length)) <|
 ck (i64B (y8 + 1)) <|
 M_impl_SoundKeys_L0 fu x2 k (y8 + 1) (y9 ++ ([x13] : List (List UInt8)))
 ) else (
 ck (i64B (y8 + 1)) <|
 M_impl_SoundKeys_L0 fu x2 k (y8 + 1) y9
 )
 ) else (
 some y9
 )
def M_impl_SoundKeys (fu : Nat) (p0 : List UInt8) : Option (List (List UInt8)) :=
 cl true (M_impl_Tokens fu p0) fun x2 =>
 cl true (M_impl_SoundKeys_L0 fu x2 fu 0 ([] : List (List UInt8))) fun s7 =>
 cl true (M_impl_sortedSet fu s7) fun x21 =>
 some x21
theorem M_impl_SoundKeys_ok {fu : Nat} {A0 : Av} {p0 : List UInt8} {r : List (List UInt8)} (hr : M_impl_SoundKeys fu p0 = some r) {w : World} {v0 : Value} (hA : AvOK A0 w) (hG : GTab w) (h0 : Rep eStr A0 w v0 p0) :
 Calls Tryz.prog 164 #[v0] w fun e w' => ∃ v, e = .returned v ∧ ((Res.vec w.heap.size 9 eStr r).ok (addA A0 v) v w' ∧ Fr w w') := by
 unfold M_impl_SoundKeys at hr
 obtain ⟨w0, hw0⟩ : ∃ w0, w0 = w := ⟨_, rfl⟩
 have hF : Fr w0 w := hw0 ▸ Fr.refl _
 have hA0 : ∀ b o, A0 b o → b < w0.heap.size := fun b o h => hw0 ▸ hA b o h
 have hA00 : AvOK A0 w0 := hA0
 rw [show w.heap.size = w0.heap.size from hw0 ▸ rfl]
 rw [show Fr w = Fr w0 from hw0 ▸ rfl]
 have hG0 : GTab w0 := hw0 ▸ hG
 clear hw0
 obtain ⟨A, hAe⟩ : ∃ A, A = A0 := ⟨_, rfl⟩
 have hAA : ∀ b o, A0 b o → A b o := fun b o h => hAe ▸ h
 replace hA : AvOK A w := hAe ▸ hA
 have hO : IniOK [] A w := IniOK.nil
 refine calls_of_HT2 [.tmp 2] Tryz.func164 Tryz.ntmps164 (by decide) rfl rfl (Nat.le_of_ble_eq_true rfl) ?_
 intro R hR
 have f_v0 : Rep eStr A w v0 p0 := hAe ▸ h0
 replace h0 : R 0 = v0 := hR 0 _ rfl
 clear hR hAe
 refine HT.seq ?_
 refine HT.u hA hF (eA :: []) ?_ ?_
 exact Obls.p (fun R' w' hw hs hd => of_assign trivial) <| Obls.nil
 intro R w hw hs hF' hA hF
 replace h0 := k1 hs h0
 replace f_v0 := f_v0.fr hw
 replace hO := hO.fr hw
 refine HT.seq ?_
 refine HT.u hA hF (eR (.slice none 0 0) :: []) ?_ ?_
 exact Obls.p (fun R' w' hw hs hd => of_assign rfl) <| Obls.nil
 intro R w hw hs hF' hA hF
 replace h0 := k1 hs h0
 obtain ⟨u1, n_u1⟩ : ∃ u, u = Value.slice none 0 0 := ⟨_, rfl⟩
 have h3 : R 3 = u1 := (hF' 0 _ _ rfl rfl rfl).trans n_u1.symm
 replace f_v0 := f_v0.fr hw
 replace hO := hO.fr hw
 replace hO := hO.nilcons (u := u1) n_u1 w0.heap.size 9 eStr
 refine HT.seq ?_
 refine HT.seq ?_
 obtain ⟨x2, q3, hr⟩ := cl_some hr
 refine HT.u hA hF (eR v0 :: eF (.rep (eSl eStr) A x2) :: eI (x2.length : Int) :: eI 0 :: []) ?_ ?_
 exact Obls.m h0 <| Obls.p (fun R' w' hw hs hd => of_call Tryz.call167 (M_impl_Tokens_okR (q3 rfl) (hA.fr hw.size) (hG0.fr (hF.trans hw)) ((f_v0.fr hw).eq (hd.g 0 rfl)))) <| Obls.p (fun R' w' hw hs hd => of_len_sl (aT := #[]) (hd.g 0 rfl) Tryz.underlying46) <| Obls.p (fun R' w' hw hs hd => of_move rfl) <| Obls.nil
 intro R w hw hs hF' hA hF
 replace h3 := k1 hs h3
 obtain ⟨u4, h8, f_u4⟩ : ∃ u, R 8 = u ∧ Rep (eSl eStr) A w u x2 := ⟨_, rfl, hF' 1 _ _ rfl rfl rfl⟩
 have h9 := hF'.r 2 rfl
 have h10 := hF'.r 3 rfl
 replace hO := hO.fr hw
 obtain ⟨rl5, q6, hr⟩ := cl_some hr
 replace q6 := q6 rfl
 refine HT.cut0 (fun R w => ∃ A : Av, ∃ (s7 : (List (List UInt8))) (uo_u1 : Value), rl5 = s7 ∧ AvOK A w ∧ Fr w0 w ∧ (∀ b o, A0 b o → A b o) ∧ IniOK [ob uo_u1 (.vec w0.heap.size 9 eStr s7)] A w ∧ R 3 = uo_u1) ?_ ?_
 refine HT.block ?_
 refine HT.loop (fun k R w => ∃ A : Av, ∃ (y8 : Int) (y9 : List (List UInt8)) (ul_u1 : Value), M_impl_SoundKeys_L0 fu x2 k y8 y9 = some rl5 ∧ AvOK A w ∧ Fr w0 w ∧ (∀ b o, A0 b o → A b o) ∧ IniOK [ob ul_u1 (.vec w0.heap.size 9 eStr y9)] A w ∧ R 3 = ul_u1 ∧ R 8 = u4 ∧ R 9 = .int .i64 (x2.length : Int) ∧ R 10 = .int .i64 y8 ∧ Rep (eSl eStr) A w u4 x2) fu ⟨_, _, _, u1, q6, hA, hF, hAA, hO, h3, h8, h9, h10, f_u4⟩ ?_
 have hr0 := hr; clear hr q6
 rintro k R w ⟨A, y8, y9, ul_u1, hr, hA, hF, hAA, hO, h3, h8, h9, h10, f_u4⟩
 rcases k with _ | k
 cases (show none = some _ from hr)
 rw [M_impl_SoundKeys_L0] at hr
 refine HT.seq ?_
 refine HT.u hA hF (eB (decide (y8 < (x2.length : Int))) :: []) ?_ ?_
 exact Obls.p (fun R' w' hw hs hd => of_lss ((hs 10 rfl).trans h10) ((hs 9 rfl).trans h9)) <| Obls.nil
 intro R w hw hs hF' hA hF
 obtain ⟨h3, h8, h9, h10⟩ := k4 hs h3 h8 h9 h10
 have h11 := hF'.r 0 rfl
 replace f_u4 := f_u4.fr hw
 replace hO := hO.fr hw
 refine HT.seq ?_
 refine HT.cond (decide (y8 < (x2.length : Int))) h11 (fun c10 => ?_) (fun c10 => ?_)
 have hr := cnd_t c10 hr
 refine HT.skip ?_
 refine HT.seq ?_
 refine HT.block ?_
 refine HT.seq ?_
 obtain ⟨e11, hr⟩ := ck_some hr
 refine HT.u hA hF (eF (.qtr eStr A (gtD x2 y8)) :: eF (.rep eStr A (gtD x2 y8)) :: eF (.rep eStr A (gtD x2 y8)) :: []) ?_ ?_
 exact Obls.p (fun R' w' hw hs hd => of_indexAddr ((f_u4.fr hw).eq ((hs 8 rfl).trans h8)) ((hs 10 rfl).trans h10) Tryz.underlying46 Tryz.sizeOf9 e11) <| Obls.p (fun R' w' hw hs hd => (of_load (QRep.ptr (hd.g 0 rfl)) Tryz.isAgg9 Tryz.sizeOf9)) <| Obls.p (fun R' w' hw hs hd => of_assign (hd.g 0 rfl)) <| Obls.nil
 intro R w hw hs hF' hA hF
 obtain ⟨h3, h8, h9, h10⟩ := k4 hs h3 h8 h9 h10
 obtain ⟨u12, h5, f_u12⟩ : ∃ u, R 5 = u ∧ Rep eStr A w u (gtD x2 y8) := ⟨_, rfl, hF' 2 _ _ rfl rfl rfl⟩
 replace f_u4 := f_u4.fr hw
 replace hO := hO.fr hw
 refine HT.seq ?_
 obtain ⟨x13, q14, hr⟩ := cl_some hr
 refine HT.u hA hF (eR u12 :: eF (.rep eStr A x13) :: eF (.rep eStr A x13) :: []) ?_ ?_
 exact Obls.m h5 <| Obls.p (fun R' w' hw hs hd => of_call Tryz.call214 (M_impl_Soundex_ok (q14 rfl) (hA.fr hw.size) (hG0.fr (hF.trans hw)) ((f_u12.fr hw).eq (hd.g 0 rfl)))) <| Obls.p (fun R' w' hw hs hd => of_assign (hd.g 0 rfl)) <| Obls.nil
 intro R w hw hs hF' hA hF
 obtain ⟨h3, h8, h9, h10⟩ := k4 hs h3 h8 h9 h10
 obtain ⟨u15, h6, f_u15⟩ : ∃ u, R 6 = u ∧ Rep eStr A w u x13 := ⟨_, rfl, hF' 2 _ _ rfl rfl rfl⟩
 replace f_u4 := f_u4.fr hw
 replace hO := hO.fr hw
 refine HT.seq ?_
 refine HT.u hA hF (eR u15 :: eB (!(x13 == ([] : List UInt8))) :: []) ?_ ?_
 exact Obls.m h6 <| Obls.p (fun R' w' hw hs hd => of_sneq ((f_u15.fr hw).eq (hd.g 0 rfl)) ⟨_, rfl, ⟨_, rfl, rfl, by decide⟩⟩) <| Obls.nil
 intro R w hw hs hF' hA hF
 obtain ⟨h3, h6, h8, h9, h10⟩ := k5 hs h3 h6 h8 h9 h10
 have h17 := hF'.r 1 rfl
 replace f_u15 := f_u15.fr hw
 replace f_u4 := f_u4.fr hw
 replace hO := hO.fr hw
 refine HT.cond (!(x13 == ([] : List UInt8))) h17 (fun c16 => ?_) (fun c16 => ?_)
 have hr := cnd_t c16 hr
 obtain ⟨e17, hr⟩ := ck_some hr
 refine HT.textR [ob ul_u1 (.vec w0.heap.size 9 eStr y9)] (rR ul_u1 :: rR u15 :: (rF fun A => .rep (eSl eStr) A ([x13] : List (List UInt8))) :: ⟨_, true, [0], some (.vec w0.heap.size 9 eStr (y9 ++ ([x13] : List (List UInt8)))), true, fun A => .any⟩ :: ⟨_, true, [4], some (.vec w0.heap.size 9 eStr (y9 ++ ([x13] : List (List UInt8)))), true, fun A => .any⟩ :: []) (by kernel_rfl) (by kernel_rfl) (Wf.mk' (by kernel_rfl) (ur (ur (up (ua (ua (UAll.nil)))))) (by kernel_rfl) (by kernel_rfl)) hO hA ?_ ?_
 exact OblsR.m h3 <| OblsR.m h6 <| OblsR.p (fun A' R' w' ho hd => of_build [_] (E := eStr) ⟨((f_u15.stp ho.stp).eq (hd.g 0 rfl)), trivial⟩ Tryz.underlying46 Tryz.sizeOf9 Tryz.zeroValue9 rfl rfl rfl ho.av) <| OblsR.cons (OblR.took 0 _ _ rfl rfl rfl rfl rfl fun A' R' w' ho hd u hok hav hin hop hds => by have a0 : R' 18 = ul_u1 := hd.g 0 rfl; have a1 : Rep (eSl eStr) A' w' (R' 20) ([x13] : List (List UInt8)) := hd.g 1 rfl; exact took_append (a0.trans (hin _ rfl).symm) hok hav (Nat.le_trans hF.size ho.ch.size) a1 Tryz.underlying46 el_9 e17) <| OblsR.cons (OblR.took 4 _ _ rfl rfl rfl rfl rfl fun A' R' w' ho hd u hok hav hin hop hds => by exact took_assign (hop _ _ rfl rfl rfl rfl).symm hok hav) <| OblsR.nil
 intro done ρ σ A R w hdn hI
 obtain ⟨h8, h9, h10⟩ := k3 hI.rg h8 h9 h10
 obtain ⟨u18, e_u18⟩ : ∃ u, ρ 5 = u := ⟨_, rfl⟩
 have h3 : R 3 = u18 := (hI.opvR hdn 5 4 rfl rfl rfl rfl rfl).symm.trans e_u18
 replace f_u4 := f_u4.stp hI.stp
 replace hAA := hI.low' hAA hA0 (hO.ge (⟨rfl, trivial⟩))
 replace hF : Fr w0 w := hF.tr hI.ch (hO.ge (⟨rfl, trivial⟩))
 replace hO := hI.left hdn [(5, ob u18 (.vec w0.heap.size 9 eStr (y9 ++ ([x13] : List (List UInt8)))))] ⟨rfl, rfl, e_u18, rfl, rfl, trivial⟩
 replace hA := hI.avok
 clear hI
 obtain ⟨e19, hr⟩ := ck_some hr
 refine HT.u hA hF (eI (y8 + (1 : Int)) :: eI (y8 + (1 : Int)) :: []) ?_ ?_
 exact Obls.p (fun R' w' hw hs hd => of_add ((hs 10 rfl).trans h10) rfl e19) <| Obls.v <| Obls.nil
 intro R w hw hs hF' hA hF
 obtain ⟨h3, h8, h9⟩ := k3 hs h3 h8 h9
 have h10 := hF'.r 1 rfl
 replace f_u4 := f_u4.fr hw
 replace hO := hO.fr hw
 exact Exists.intro k (And.intro (Nat.lt_succ_self k) ⟨_, _, _, u18, hr, hA, hF, hAA, hO, h3, h8, h9, h10, f_u4⟩)
 have hr := cnd_f c16 hr
 refine HT.skip ?_
 obtain ⟨e20, hr⟩ := ck_some hr
 refine HT.u hA hF (eI (y8 + (1 : Int)) :: eI (y8 + (1 : Int)) :: []) ?_ ?_
 exact Obls.p (fun R' w' hw hs hd => of_add ((hs 10 rfl).trans h10) rfl e20) <| Obls.v <| Obls.nil
 intro R w hw hs hF' hA hF
 obtain ⟨h3, h8, h9⟩ := k3 hs h3 h8 h9
 have h10 := hF'.r 1 rfl
 replace f_u4 := f_u4.fr hw
 replace hO := hO.fr hw
 exact Exists.intro k (And.intro (Nat.lt_succ_self k) ⟨_, _, _, ul_u1, hr, hA, hF, hAA, hO, h3, h8, h9, h10, f_u4⟩)
 have hr := cnd_f c10 hr
 refine HT.exit ?_
 obtain rfl := Option.some.inj hr
 exact Exists.intro _ ⟨_, ul_u1, rfl, hA, hF, hAA, hO, h3⟩
 rintro R w ⟨A, s7, uo_u1, es, hA, hF, hAA, hO, h3⟩
 obtain rfl := es.symm
 refine HT.seq ?_
 obtain ⟨x21, q22, hr⟩ := cl_some hr
 refine HT.textR [ob uo_u1 (.vec w0.heap.size 9 eStr s7)] (rR uo_u1 :: ⟨_, true, [], some (.vec w0.heap.size 9 eStr x21), true, fun A => .any⟩ :: ⟨_, true, [2], some (.vec w0.heap.size 9 eStr x21), true, fun A => .any⟩ :: []) (by kernel_rfl) (by kernel_rfl) (Wf.mk' (by kernel_rfl) (ur (ua (ua (UAll.nil)))) (by kernel_rfl) (by kernel_rfl)) hO hA ?_ ?_
 exact OblsR.m h3 <| OblsR.cons (OblR.made _ rfl rfl rfl rfl fun A' R' w' ho hd => by have a0 : R' 23 = uo_u1 := hd.g 0 rfl; have ra0 := (vec_rep (ho.rd 0 _ rfl rfl) (ho.low' hAA hA0 (hO.ge (⟨rfl, trivial⟩))) hA0).eq a0; exact made_call0 Tryz.call122 (M_impl_sortedSet_ok (q22 rfl) (hA00.fr ((Nat.le_trans hF.size ho.ch.size))) ra0) (Nat.le_trans hF.size ho.ch.size) (ho.low' hAA hA0 (hO.ge (⟨rfl, trivial⟩))) (fun _ _ _ _ _ h => h)) <| OblsR.cons (OblR.took 2 _ _ rfl rfl rfl rfl rfl fun A' R' w' ho hd u hok hav hin hop hds => by exact took_assign (hop _ _ rfl rfl rfl rfl).symm hok hav) <| OblsR.nil
 intro done ρ σ A R w hdn hI
 have z23 := hI.inivR 0 rfl
 obtain ⟨u24, e_u24⟩ : ∃ u, ρ 3 = u := ⟨_, rfl⟩
 have h2 : R 2 = u24 := (hI.opvR hdn 3 2 rfl rfl rfl rfl rfl).symm.trans e_u24
 replace hAA := hI.low' hAA hA0 (hO.ge (⟨rfl, trivial⟩))
 replace hF : Fr w0 w := hF.tr hI.ch (hO.ge (⟨rfl, trivial⟩))
 replace hO := hI.left hdn [(3, ob u24 (.vec w0.heap.size 9 eStr x21))] ⟨rfl, rfl, e_u24, rfl, rfl, trivial⟩
 replace hA := hI.avok
 clear hI
 refine HT.ret ?_
 obtain rfl := Option.some.inj hr
 exact ⟨.inr rfl, [R 2], ⟨rfl, trivial⟩, (own_post (hO.ok 0 _ rfl) hAA h2), hF⟩
theorem M_impl_SoundKeys_okR {fu : Nat} {A0 : Av} {p0 : List UInt8} {r : List (List UInt8)} (hr : M_impl_SoundKeys fu p0 = some r) {w : World} {v0 : Value} (hA : AvOK A0 w) (hG : GTab w) (h0 : Rep eStr A0 w v0 p0) :
 Calls Tryz.prog 164 #[v0] w fun e w' => ∃ v, e = .returned v ∧ (Rep (eSl eStr) A0 w' v r ∧ Fr w w') := by
 refine Calls.mono (M_impl_SoundKeys_ok hr hA hG h0) ?_
 rintro e w' ⟨v, he, hv, hf⟩
 exact ⟨v, he, vec_rep hv (fun b o h => .inl h) hA, hf⟩
def M_impl_DigitsOf_L0 (fu : Nat) (p0 : List UInt8) : Nat → Int → (List Int) → Option (List Int)
 | 0, _, _ => none
 | k + 1, y5, y6 =>
 bif (decide (y5 < (p0.length : Int))) then (
 ck (inR y5 p0.length) <|
 cl true (M_impl_isDigit fu (bAt p0 y5)) fun x9 =>
 bif x9 then (
 ck (inR y5 p0.length) <|
 ck (lenOK (y6.length + ([(bAt p0 y5)] : List Int).length)) <|
 ck (i64B (y5 + 1)) <|
 M_impl_DigitsOf_L0 fu p0 k (y5 + 1) (y6 ++ ([(bAt p0 y5)] : List Int))
 ) else (
 ck (i64B (y5 + 1)) <|
 M_impl_DigitsOf_L0 fu p0 k (y5 + 1) y6
 )
 ) else (
 some y6
 )
def M_impl_DigitsOf (fu : Nat) (p0 : List UInt8) : Option (List UInt8) :=
 cl true (M_impl_DigitsOf_L0 fu p0 fu 0 ([] : List Int)) fun s4 =>
 some (strB s4)
theorem M_impl_DigitsOf_ok {fu : Nat} {A0 : Av} {p0 : List UInt8} {r : List UInt8} (hr : M_impl_DigitsOf fu p0 = some r) {w : World} {v0 : Value} (hA : AvOK A0 w) (h0 : Rep eStr A0 w v0 p0) :
 Calls Tryz.prog 165 #[v0] w fun e w' => ∃ v, e = .returned v ∧ (Rep eStr A0 w' v r ∧ Fr w w') := by
 unfold M_impl_DigitsOf at hr
 obtain ⟨w0, hw0⟩ : ∃ w0, w0 = w := ⟨_, rfl⟩
 have hF : Fr w0 w := hw0 ▸ Fr.refl _
 have hA0 : ∀ b o, A0 b o → b < w0.heap.size := fun b o h => hw0 ▸ hA b o h
 have hA00 : AvOK A0 w0 := hA0
 rw [show Fr w = Fr w0 from hw0 ▸ rfl]
 clear hw0
 obtain ⟨A, hAe⟩ : ∃ A, A = A0 := ⟨_, rfl⟩
 have hAA : ∀ b o, A0 b o → A b o := fun b o h => hAe ▸ h
 replace hA : AvOK A w := hAe ▸ hA
 have hO : IniOK [] A w := IniOK.nil
 refine calls_of_HT2 [.tmp 2] Tryz.func165 Tryz.ntmps165 (by decide) rfl rfl (Nat.le_of_ble_eq_true rfl) ?_
 intro R hR
 have f_v0 : Rep eStr A w v0 p0 := hAe ▸ h0
 replace h0 : R 0 = v0 := hR 0 _ rfl
 clear hR hAe
 refine HT.seq ?_
 refine HT.u hA hF (eF (.rep eStr A ([] : List UInt8)) :: []) ?_ ?_
 exact Obls.p (fun R' w' hw hs hd => of_assign ⟨_, rfl, ⟨_, rfl, rfl, by decide⟩⟩) <| Obls.nil
 intro R w hw hs hF' hA hF
 replace h0 := k1 hs h0
 replace f_v0 := f_v0.fr hw
 replace hO := hO.fr hw
 refine HT.seq ?_
 refine HT.u hA hF (eR (.slice none 0 0) :: []) ?_ ?_
 exact Obls.p (fun R' w' hw hs hd => of_assign rfl) <| Obls.nil
 intro R w hw hs hF' hA hF
 replace h0 := k1 hs h0
 obtain ⟨u1, n_u1⟩ : ∃ u, u = Value.slice none 0 0 := ⟨_, rfl⟩
 have h3 : R 3 = u1 := (hF' 0 _ _ rfl rfl rfl).trans n_u1.symm
 replace f_v0 := f_v0.fr hw
 replace hO := hO.fr hw
 replace hO := hO.nilcons (u := u1) n_u1 w0.heap.size 5 (eInt .u8)
 refine HT.seq ?_
 refine HT.seq ?_
 refine HT.u hA hF (eR v0 :: eI (p0.length : Int) :: eI 0 :: []) ?_ ?_
 exact Obls.m h0 <| Obls.p (fun R' w' hw hs hd => of_len_str ((f_v0.fr hw).eq (hd.g 0 rfl)) Tryz.underlying9) <| Obls.p (fun R' w' hw hs hd => of_move rfl) <| Obls.nil
 intro R w hw hs hF' hA hF
 obtain ⟨h0, h3⟩ := k2 hs h0 h3
 have h6 := hF'.r 1 rfl
 have h7 := hF'.r 2 rfl
 replace f_v0 := f_v0.fr hw
 replace hO := hO.fr hw
 obtain ⟨rl2, q3, hr⟩ := cl_some hr
 replace q3 := q3 rfl
 refine HT.cut0 (fun R w => ∃ A : Av, ∃ (s4 : (List Int)) (uo_u1 : Value), rl2 = s4 ∧ AvOK A w ∧ Fr w0 w ∧ (∀ b o, A0 b o → A b o) ∧ IniOK [ob uo_u1 (.vec w0.heap.size 5 (eInt .u8) s4)] A w ∧ R 3 = uo_u1) ?_ ?_
 refine HT.block ?_
 refine HT.loop (fun k R w => ∃ A : Av, ∃ (y5 : Int) (y6 : List Int) (ul_u1 : Value), M_impl_DigitsOf_L0 fu p0 k y5 y6 = some rl2 ∧ AvOK A w ∧ Fr w0 w ∧ (∀ b o, A0 b o → A b o) ∧ IniOK [ob ul_u1 (.vec w0.heap.size 5 (eInt .u8) y6)] A w ∧ R 0 = v0 ∧ R 3 = ul_u1 ∧ R 6 = .int .i64 (p0.length : Int) ∧ R 7 = .int .i64 y5 ∧ Rep eStr A w v0 p0) fu ⟨_, _, _, u1, q3, hA, hF, hAA, hO, h0, h3, h6, h7, f_v0⟩ ?_
 have hr0 := hr; clear hr q3
 rintro k R w ⟨A, y5, y6, ul_u1, hr, hA, hF, hAA, hO, h0, h3, h6, h7, f_v0⟩
 rcases k with _ | k
 cases (show none = some _ from hr)
 rw [M_impl_DigitsOf_L0] at hr
 refine HT.seq ?_
 refine HT.u hA hF (eB (decide (y5 < (p0.length : Int))) :: []) ?_ ?_
 exact Obls.p (fun R' w' hw hs hd => of_lss ((hs 7 rfl).trans h7) ((hs 6 rfl).trans h6)) <| Obls.nil
 intro R w hw hs hF' hA hF
 obtain ⟨h0, h3, h6, h7⟩ := k4 hs h0 h3 h6 h7
 have h8 := hF'.r 0 rfl
 replace f_v0 := f_v0.fr hw
 replace hO := hO.fr hw
 refine HT.seq ?_
 refine HT.cond (decide (y5 < (p0.length : Int))) h8 (fun c7 => ?_) (fun c7 => ?_)
 have hr := cnd_t c7 hr
 refine HT.skip ?_
 refine HT.seq ?_
 refine HT.block ?_
 refine HT.seq ?_
 refine HT.u hA hF (eI y5 :: eI y5 :: []) ?_ ?_
 exact Obls.m h7 <| Obls.a <| Obls.nil
 intro R w hw hs hF' hA hF
 obtain ⟨h0, h3, h6, h7⟩ := k4 hs h0 h3 h6 h7
 have h4 := hF'.r 1 rfl
 replace f_v0 := f_v0.fr hw
 replace hO := hO.fr hw
 refine HT.seq ?_
 obtain ⟨e8, hr⟩ := ck_some hr
 obtain ⟨x9, q10, hr⟩ := cl_some hr
 refine HT.u hA hF (eR v0 :: eI y5 :: eU (bAt p0 y5) :: eB x9 :: []) ?_ ?_
 exact Obls.m h0 <| Obls.m h4 <| Obls.p (fun R' w' hw hs hd => of_strIndex ((f_v0.fr hw).eq (hd.g 0 rfl)) (hd.g 1 rfl) Tryz.underlying9 e8) <| Obls.p (fun R' w' hw hs hd => of_call Tryz.call215 (M_impl_isDigit_ok (q10 rfl) (hA.fr hw.size) (hd.g 0 rfl))) <| Obls.nil
 intro R w hw hs hF' hA hF
 obtain ⟨h0, h3, h4, h6, h7⟩ := k5 hs h0 h3 h4 h6 h7
 have h13 := hF'.r 3 rfl
 replace f_v0 := f_v0.fr hw
 replace hO := hO.fr hw
 refine HT.cond x9 h13 (fun c11 => ?_) (fun c11 => ?_)
 have hr := cnd_t c11 hr
 obtain ⟨e12, hr⟩ := ck_some hr
 obtain ⟨e13, hr⟩ := ck_some hr
 refine HT.textR [ob ul_u1 (.vec w0.heap.size 5 (eInt .u8) y6)] (rR ul_u1 :: rR v0 :: rI y5 :: rU (bAt p0 y5) :: (rF fun A => .rep (eSl (eInt .u8)) A ([(bAt p0 y5)] : List Int)) :: ⟨_, true, [0], some (.vec w0.heap.size 5 (eInt .u8) (y6 ++ ([(bAt p0 y5)] : List Int))), true, fun A => .any⟩ :: ⟨_, true, [6], some (.vec w0.heap.size 5 (eInt .u8) (y6 ++ ([(bAt p0 y5)] : List Int))), true, fun A => .any⟩ :: []) (by kernel_rfl) (by kernel_rfl) (Wf.mk' (by kernel_rfl) (ur (ur (ur (ur (up (ua (ua (UAll.nil)))))))) (by kernel_rfl) (by kernel_rfl)) hO hA ?_ ?_
 exact OblsR.m h3 <| OblsR.m h0 <| OblsR.m h4 <| OblsR.p (fun A' R' w' ho hd => of_strIndex ((f_v0.stp ho.stp).eq (hd.g 0 rfl)) (hd.g 1 rfl) Tryz.underlying9 e12) <| OblsR.p (fun A' R' w' ho hd => of_build [_] (E := eInt .u8) ⟨(rep_int.eq (hd.g 0 rfl)), trivial⟩ Tryz.underlying22 Tryz.sizeOf5 Tryz.zeroValue5 rfl rfl rfl ho.av) <| OblsR.cons (OblR.took 0 _ _ rfl rfl rfl rfl rfl fun A' R' w' ho hd u hok hav hin hop hds => by have a0 : R' 14 = ul_u1 := hd.g 0 rfl; have a1 : Rep (eSl (eInt .u8)) A' w' (R' 18) ([(bAt p0 y5)] : List Int) := hd.g 1 rfl; exact took_append (a0.trans (hin _ rfl).symm) hok hav (Nat.le_trans hF.size ho.ch.size) a1 Tryz.underlying22 el_5 e13) <| OblsR.cons (OblR.took 6 _ _ rfl rfl rfl rfl rfl fun A' R' w' ho hd u hok hav hin hop hds => by exact took_assign (hop _ _ rfl rfl rfl rfl).symm hok hav) <| OblsR.nil
 intro done ρ σ A R w hdn hI
 obtain ⟨h0, h6, h7⟩ := k3 hI.rg h0 h6 h7
 obtain ⟨u14, e_u14⟩ : ∃ u, ρ 7 = u := ⟨_, rfl⟩
 have h3 : R 3 = u14 := (hI.opvR hdn 7 6 rfl rfl rfl rfl rfl).symm.trans e_u14
 replace f_v0 := f_v0.stp hI.stp
 replace hAA := hI.low' hAA hA0 (hO.ge (⟨rfl, trivial⟩))
 replace hF : Fr w0 w := hF.tr hI.ch (hO.ge (⟨rfl, trivial⟩))
 replace hO := hI.left hdn [(7, ob u14 (.vec w0.heap.size 5 (eInt .u8) (y6 ++ ([(bAt p0 y5)] : List Int))))] ⟨rfl, rfl, e_u14, rfl, rfl, trivial⟩
 replace hA := hI.avok
 clear hI
 obtain ⟨e15, hr⟩ := ck_some hr
 refine HT.u hA hF (eI (y5 + (1 : Int)) :: eI (y5 + (1 : Int)) :: []) ?_ ?_
 exact Obls.p (fun R' w' hw hs hd => of_add ((hs 7 rfl).trans h7) rfl e15) <| Obls.v <| Obls.nil
 intro R w hw hs hF' hA hF
 obtain ⟨h0, h3, h6⟩ := k3 hs h0 h3 h6
 have h7 := hF'.r 1 rfl
 replace f_v0 := f_v0.fr hw
 replace hO := hO.fr hw
 exact Exists.intro k (And.intro (Nat.lt_succ_self k) ⟨_, _, _, u14, hr, hA, hF, hAA, hO, h0, h3, h6, h7, f_v0⟩)
 have hr := cnd_f c11 hr
 refine HT.skip ?_
 obtain ⟨e16, hr⟩ := ck_some hr
 refine HT.u hA hF (eI (y5 + (1 : Int)) :: eI (y5 + (1 : Int)) :: []) ?_ ?_
 exact Obls.p (fun R' w' hw hs hd => of_add ((hs 7 rfl).trans h7) rfl e16) <| Obls.v <| Obls.nil
 intro R w hw hs hF' hA hF
 obtain ⟨h0, h3, h6⟩ := k3 hs h0 h3 h6
 have h7 := hF'.r 1 rfl
 replace f_v0 := f_v0.fr hw
 replace hO := hO.fr hw
 exact Exists.intro k (And.intro (Nat.lt_succ_self k) ⟨_, _, _, ul_u1, hr, hA, hF, hAA, hO, h0, h3, h6, h7, f_v0⟩)
 have hr := cnd_f c7 hr
 refine HT.exit ?_
 obtain rfl := Option.some.inj hr
 exact Exists.intro _ ⟨_, ul_u1, rfl, hA, hF, hAA, hO, h3⟩
 rintro R w ⟨A, s4, uo_u1, es, hA, hF, hAA, hO, h3⟩
 obtain rfl := es.symm
 refine HT.seq ?_
 refine HT.u hA hF (eR uo_u1 :: eF (.rep eStr A (strB s4)) :: eF (.rep eStr A (strB s4)) :: []) ?_ ?_
 exact Obls.m h3 <| Obls.p (fun R' w' hw hs hd => of_conv_bytes ((vec_rep ((hO.fr hw).ok 0 _ rfl).1 hAA hA0).eq (hd.g 0 rfl)) Tryz.underlying22 Tryz.underlying5 Tryz.underlying9) <| Obls.p (fun R' w' hw hs hd => of_assign (hd.g 0 rfl)) <| Obls.nil
 intro R w hw hs hF' hA hF
 obtain ⟨u17, h2, f_u17⟩ : ∃ u, R 2 = u ∧ Rep eStr A w u (strB s4) := ⟨_, rfl, hF' 2 _ _ rfl rfl rfl⟩
 replace hO := hO.fr hw
 replace hO : IniOK [] A w := hO.sub [] trivial
 refine HT.ret ?_
 obtain rfl := Option.some.inj hr
 exact ⟨.inr rfl, [R 2], ⟨rfl, trivial⟩, (f_u17.eq h2).down hAA, hF⟩
def M_impl_FormatInt (fu : Nat) (p0 : Int) : Option (List UInt8) :=
 cl true (M_itoa fu p0) fun x1 =>
 some x1
theorem M_impl_FormatInt_ok {fu : Nat} {A : Av} {p0 : Int} {r : List UInt8} (hr : M_impl_FormatInt fu p0 = some r) {w : World} {v0 : Value} (hA : AvOK A w) (hG : GTab w) (h0 : v0 = .int .i64 p0) :
 Calls Tryz.prog 86 #[v0] w fun e w' => ∃ v, e = .returned v ∧ (Rep eStr A w' v r ∧ Fr w w') := by
 unfold M_impl_FormatInt at hr
 obtain ⟨w0, hw0⟩ : ∃ w0, w0 = w := ⟨_, rfl⟩
 have hF : Fr w0 w := hw0 ▸ Fr.refl _
 rw [show Fr w = Fr w0 from hw0 ▸ rfl]
 have hG0 : GTab w0 := hw0 ▸ hG
 clear hw0
 refine calls_of_HT2 [.tmp 2] Tryz.func86 Tryz.ntmps86 (by decide) rfl rfl (Nat.le_of_ble_eq_true rfl) ?_
 intro R hR
 replace h0 : R 0 = .int .i64 p0 := (hR 0 _ rfl).trans h0
 clear hR
 refine HT.seq ?_
 refine HT.u hA hF (eF (.rep eStr A ([] : List UInt8)) :: []) ?_ ?_
 exact Obls.p (fun R' w' hw hs hd => of_assign ⟨_, rfl, ⟨_, rfl, rfl, by decide⟩⟩) <| Obls.nil
 intro R w hw hs hF' hA hF
 replace h0 := k1 hs h0
 refine HT.seq ?_
 obtain ⟨x1, q2, hr⟩ := cl_some hr
 refine HT.u hA hF (eI p0 :: eF (.rep eStr A x1) :: eF (.rep eStr A x1) :: []) ?_ ?_
 exact Obls.m h0 <| Obls.p (fun R' w' hw hs hd => of_call Tryz.call155 (M_itoa_ok (q2 rfl) (hA.fr hw.size) (hG0.fr (hF.trans hw)) (hd.g 0 rfl))) <| Obls.p (fun R' w' hw hs hd => of_assign (hd.g 0 rfl)) <| Obls.nil
 intro R w hw hs hF' hA hF
 obtain ⟨u3, h2, f_u3⟩ : ∃ u, R 2 = u ∧ Rep eStr A w u x1 := ⟨_, rfl, hF' 2 _ _ rfl rfl rfl⟩
 refine HT.ret ?_
 obtain rfl := Option.some.inj hr
 exact ⟨.inr rfl, [R 2], ⟨rfl, trivial⟩, (f_u3.eq h2), hF⟩
def M_impl_ParseInt (fu : Nat) (p0 : List UInt8) : Option (Int × Bool) :=
 cl true (M_atoi fu p0) fun x1 =>
 cl (true && (x1.2 == false)) (M_impl_FormatInt fu x1.1) fun x4 =>
 bd (x1.2 || (!(x4 == p0))) fun x6 =>
 cl (true && (x6 == false)) (M_impl_within fu x1.1 (-999999999) 999999999) fun x8 =>
 bd (x6 || (!x8)) fun x10 =>
 bif x10 then (
 some (0, false)
 ) else (
 some (x1.1, true)
 )
theorem M_impl_ParseInt_ok {fu : Nat} {A : Av} {p0 : List UInt8} {r : Int × Bool} (hr : M_impl_ParseInt fu p0 = some r) {w : World} {v0 : Value} (hA : AvOK A w) (hG : GTab w) (h0 : Rep eStr A w v0 p0) :
 Calls Tryz.prog 216 #[v0] w fun e w' => ∃ v, e = .returned v ∧ ((∃ a b, v = .tuple #[a, b] ∧ a = .int .i64 r.1 ∧ b = .bool r.2) ∧ Fr w w') := by
 unfold M_impl_ParseInt at hr
 obtain ⟨w0, hw0⟩ : ∃ w0, w0 = w := ⟨_, rfl⟩
 have hF : Fr w0 w := hw0 ▸ Fr.refl _
 rw [show Fr w = Fr w0 from hw0 ▸ rfl]
 have hG0 : GTab w0 := hw0 ▸ hG
 clear hw0
 refine calls_of_HT2 [.tmp 2, .tmp 3] Tryz.func216 Tryz.ntmps216 (by decide) rfl rfl (Nat.le_of_ble_eq_true rfl) ?_
 intro R hR
 have f_v0 := h0
 replace h0 : R 0 = v0 := hR 0 _ rfl
 clear hR
 refine HT.seq ?_
 refine HT.u hA hF (eI 0 :: eB false :: []) ?_ ?_
 exact Obls.p (fun R' w' hw hs hd => of_assign rfl) <| Obls.p (fun R' w' hw hs hd => of_assign rfl) <| Obls.nil
 intro R w hw hs hF' hA hF
 replace h0 := k1 hs h0
 replace f_v0 := f_v0.fr hw
 refine HT.seq ?_
 obtain ⟨x1, q2, hr⟩ := cl_some hr
 refine HT.u hA hF (eR v0 :: eF (.tup2 (.raw (.int .i64 x1.1)) (.rep eErr A x1.2)) :: eF (.tup2 (.raw (.int .i64 x1.1)) (.rep eErr A x1.2)) :: eI x1.1 :: eF (.rep eErr A x1.2) :: eI x1.1 :: eF (.rep eErr A x1.2) :: []) ?_ ?_
 exact Obls.m h0 <| Obls.p (fun R' w' hw hs hd => of_call Tryz.call249 (M_atoi_ok (q2 rfl) (hA.fr hw.size) (hG0.fr (hF.trans hw)) ((f_v0.fr hw).eq (hd.g 0 rfl)))) <| Obls.p (fun R' w' hw hs hd => of_move (hd.g 0 rfl)) <| Obls.p (fun R' w' hw hs hd => of_extract2_0 (hd.g 0 rfl)) <| Obls.p (fun R' w' hw hs hd => of_extract2_1 (hd.g 0 rfl)) <| Obls.a <| Obls.p (fun R' w' hw hs hd => of_assign (hd.g 0 rfl)) <| Obls.nil
 intro R w hw hs hF' hA hF
 replace h0 := k1 hs h0
 have h4 := hF'.r 5 rfl
 obtain ⟨u3, h5, f_u3⟩ : ∃ u, R 5 = u ∧ Rep eErr A w u x1.2 := ⟨_, rfl, hF' 6 _ _ rfl rfl rfl⟩
 replace f_v0 := f_v0.fr hw
 refine HT.seq ?_
 refine HT.seq ?_
 obtain ⟨x4, q5, hr⟩ := cl_some hr
 obtain ⟨x6, q7, hr⟩ := bd_some hr
 obtain ⟨x8, q9, hr⟩ := cl_some hr
 obtain ⟨x10, q11, hr⟩ := bd_some hr
 refine HT.u hA hF (eR u3 :: eB x1.2 :: eB x1.2 :: gI (true && (x1.2 == false)) x1.1 :: gF (true && (x1.2 == false)) (.rep eStr A x4) :: gR (true && (x1.2 == false)) v0 :: gB (true && (x1.2 == false)) (!(x4 == p0)) :: eB x6 :: eB x6 :: gI (true && (x6 == false)) x1.1 :: gB (true && (x6 == false)) x8 :: gB (true && (x6 == false)) (!x8) :: eB x10 :: []) ?_ ?_
 exact Obls.m h5 <| Obls.p (fun R' w' hw hs hd => of_err_neq ((f_u3.fr hw).eq (hd.g 0 rfl)) (by kernel_rfl)) <| Obls.v <| Obls.g 2 false (fun hg R' w' hw hs hd => of_move ((hs 4 rfl).trans h4)) <| Obls.g 2 false (fun hg R' w' hw hs hd => of_call Tryz.call86 (M_impl_FormatInt_ok (q5 hg) (hA.fr hw.size) (hG0.fr (hF.trans hw)) (hd.h 0 hg rfl))) <| Obls.g 2 false (fun hg R' w' hw hs hd => of_move ((hs 0 rfl).trans h0)) <| Obls.g 2 false (fun hg R' w' hw hs hd => of_sneq (hd.h 0 hg rfl) ((f_v0.fr hw).eq (hd.h 1 hg rfl))) <| Obls.p (fun R' w' hw hs hd => of_pick x1.2 (hd.g 0 rfl) (fun hc => by show _ = Value.bool x6; rw [q7, hc]; exact rfl) (fun hc => by have a2 : R' 17 = .bool (!(x4 == p0)) := hd 1 _ _ _ rfl rfl rfl rfl (g_and rfl (beq_of hc)); show _ = Value.bool x6; rw [q7, hc]; exact a2)) <| Obls.v <| Obls.g 8 false (fun hg R' w' hw hs hd => of_move ((hs 4 rfl).trans h4)) <| Obls.g 8 false (fun hg R' w' hw hs hd => of_call Tryz.call94 (M_impl_within_ok (q9 hg) (hA.fr hw.size) (hd.h 0 hg rfl) rfl rfl)) <| Obls.g 8 false (fun hg R' w' hw hs hd => of_not (hd.h 0 hg rfl)) <| Obls.p (fun R' w' hw hs hd => of_pick x6 (hd.g 0 rfl) (fun hc => by show _ = Value.bool x10; rw [q11, hc]; exact rfl) (fun hc => by have a2 : R' 22 = .bool (!x8) := hd 1 _ _ _ rfl rfl rfl rfl (g_and rfl (beq_of hc)); show _ = Value.bool x10; rw [q11, hc]; exact a2)) <| Obls.nil
 intro R w hw hs hF' hA hF
 replace h4 := k1 hs h4
 have h23 := hF'.r 12 rfl
 refine HT.cond x10 h23 (fun c12 => ?_) (fun c12 => ?_)
 have hr := cnd_t c12 hr
 refine HT.seq ?_
 refine HT.u hA hF (eI 0 :: eB false :: []) ?_ ?_
 exact Obls.p (fun R' w' hw hs hd => of_assign rfl) <| Obls.p (fun R' w' hw hs hd => of_assign rfl) <| Obls.nil
 intro R w hw hs hF' hA hF
 have h2 := hF'.r 0 rfl
 have h3 := hF'.r 1 rfl
 refine HT.ret ?_
 obtain rfl := Option.some.inj hr
 exact ⟨.inr rfl, [R 2, R 3], ⟨rfl, ⟨rfl, trivial⟩⟩, ⟨_, _, rfl, h2, h3⟩, hF⟩
 have hr := cnd_f c12 hr
 refine HT.skip ?_
 refine HT.seq ?_
 refine HT.u hA hF (eI x1.1 :: eI x1.1 :: eB true :: []) ?_ ?_
 exact Obls.m h4 <| Obls.a <| Obls.p (fun R' w' hw hs hd => of_assign rfl) <| Obls.nil
 intro R w hw hs hF' hA hF
 have h2 := hF'.r 1 rfl
 have h3 := hF'.r 2 rfl
 refine HT.ret ?_
 obtain rfl := Option.some.inj hr
 exact ⟨.inr rfl, [R 2, R 3], ⟨rfl, ⟨rfl, trivial⟩⟩, ⟨_, _, rfl, h2, h3⟩, hF⟩
def M_impl_ParseYear (fu : Nat) (p0 : List UInt8) : Option Int :=
 cl true (M_impl_ParseInt fu p0) fun x1 =>
 cl (true && (x1.2 == true)) (M_impl_within fu x1.1 1000 9999) fun x3 =>
 bd (x1.2 && x3) fun x5 =>
 bif x5 then (
 some x1.1
 ) else (
 some 0
 )
theorem M_impl_ParseYear_ok {fu : Nat} {A : Av} {p0 : List UInt8} {r : Int} (hr : M_impl_ParseYear fu p0 = some r) {w : World} {v0 : Value} (hA : AvOK A w) (hG : GTab w) (h0 : Rep eStr A w v0 p0) :
 Calls Tryz.prog 166 #[v0] w fun e w' => ∃ v, e = .returned v ∧ (v = .int .i64 r ∧ Fr w w') := by
 unfold M_impl_ParseYear at hr
 obtain ⟨w0, hw0⟩ : ∃ w0, w0 = w := ⟨_, rfl⟩
 have hF : Fr w0 w := hw0 ▸ Fr.refl _
 rw [show Fr w = Fr w0 from hw0 ▸ rfl]
 have hG0 : GTab w0 := hw0 ▸ hG
 clear hw0
 refine calls_of_HT2 [.tmp 2] Tryz.func166 Tryz.ntmps166 (by decide) rfl rfl (Nat.le_of_ble_eq_true rfl) ?_
 intro R hR
 have f_v0 := h0
 replace h0 : R 0 = v0 := hR 0 _ rfl
 clear hR
 refine HT.seq ?_
 refine HT.u hA hF (eI 0 :: []) ?_ ?_
 exact Obls.p (fun R' w' hw hs hd => of_assign rfl) <| Obls.nil
 intro R w hw hs hF' hA hF
 replace h0 := k1 hs h0
 replace f_v0 := f_v0.fr hw
 refine HT.seq ?_
 refine HT.seq ?_
 obtain ⟨x1, q2, hr⟩ := cl_some hr
 refine HT.u hA hF (eR v0 :: eF (.tup2 (.raw (.int .i64 x1.1)) (.raw (.bool x1.2))) :: eF (.tup2 (.raw (.int .i64 x1.1)) (.raw (.bool x1.2))) :: eI x1.1 :: eB x1.2 :: eI x1.1 :: eB x1.2 :: []) ?_ ?_
 exact Obls.m h0 <| Obls.p (fun R' w' hw hs hd => of_call Tryz.call216 (M_impl_ParseInt_ok (q2 rfl) (hA.fr hw.size) (hG0.fr (hF.trans hw)) ((f_v0.fr hw).eq (hd.g 0 rfl)))) <| Obls.p (fun R' w' hw hs hd => of_move (hd.g 0 rfl)) <| Obls.p (fun R' w' hw hs hd => of_extract2_0 (hd.g 0 rfl)) <| Obls.p (fun R' w' hw hs hd => of_extract2_1 (hd.g 0 rfl)) <| Obls.a <| Obls.a <| Obls.nil
 intro R w hw hs hF' hA hF
 have h3 := hF'.r 5 rfl
 have h4 := hF'.r 6 rfl
 refine HT.seq ?_
 obtain ⟨x3, q4, hr⟩ := cl_some hr
 obtain ⟨x5, q6, hr⟩ := bd_some hr
 refine HT.u hA hF (eB x1.2 :: eB x1.2 :: gI (true && (x1.2 == true)) x1.1 :: gB (true && (x1.2 == true)) x3 :: eB x5 :: []) ?_ ?_
 exact Obls.m h4 <| Obls.v <| Obls.g 1 true (fun hg R' w' hw hs hd => of_move ((hs 3 rfl).trans h3)) <| Obls.g 1 true (fun hg R' w' hw hs hd => of_call Tryz.call94 (M_impl_within_ok (q4 hg) (hA.fr hw.size) (hd.h 0 hg rfl) rfl rfl)) <| Obls.p (fun R' w' hw hs hd => of_pick x1.2 (hd.g 0 rfl) (fun hc => by have a1 : R' 13 = .bool x3 := hd 1 _ _ _ rfl rfl rfl rfl (g_and rfl (beq_of hc)); show _ = Value.bool x5; rw [q6, hc]; exact a1) (fun hc => by show _ = Value.bool x5; rw [q6, hc]; exact rfl)) <| Obls.nil
 intro R w hw hs hF' hA hF
 replace h3 := k1 hs h3
 have h14 := hF'.r 4 rfl
 refine HT.cond x5 h14 (fun c7 => ?_) (fun c7 => ?_)
 have hr := cnd_t c7 hr
 refine HT.seq ?_
 refine HT.u hA hF (eI x1.1 :: eI x1.1 :: []) ?_ ?_
 exact Obls.m h3 <| Obls.a <| Obls.nil
 intro R w hw hs hF' hA hF
 have h2 := hF'.r 1 rfl
 refine HT.ret ?_
 obtain rfl := Option.some.inj hr
 exact ⟨.inr rfl, [R 2], ⟨rfl, trivial⟩, h2, hF⟩
 have hr := cnd_f c7 hr
 refine HT.skip ?_
 refine HT.seq ?_
 refine HT.u hA hF (eI 0 :: []) ?_ ?_
 exact Obls.p (fun R' w' hw hs hd => of_assign rfl) <| Obls.nil
 intro R w hw hs hF' hA hF
 have h2 := hF'.r 0 rfl
 refine HT.ret ?_
 obtain rfl := Option.some.inj hr
 exact ⟨.inr rfl, [R 2], ⟨rfl, trivial⟩, h2, hF⟩
def M_impl_blockKeys_L0 (fu : Nat) (x4 : List (List UInt8)) : Nat → Int → (List (List UInt8)) → Option (List (List UInt8))
 | 0, _, _ => none
 | k + 1, y10, y11 =>
 bif (decide (y10 < (x4.length : Int))) then (
 ck (inR y10 x4.length) <|
 ck (lenOK (([115] : List UInt8) ++ (gtD x4 y10)).length) <|
 ck (lenOK (y11.length + ([(([115] : List UInt8) ++ (gtD x4 y10))] : List (List UInt8)).length)) <|
 ck (i64B (y10 + 1)) <|
 M_impl_blockKeys_L0 fu x4 k (y10 + 1) (y11 ++ ([(([115] : List UInt8) ++ (gtD x4 y10))] : List (List UInt8)))
 ) else (
 some y11
 )
def M_impl_blockKeys_L1 (fu : Nat) (x32 : Int) (x36 : List (List UInt8)) : Nat → Int → (List (List UInt8)) → Option (List (List UInt8))
 | 0, _, _ => none
 | k + 1, y42, y43 =>
 bif (decide (y42 < (x36.length : Int))) then (
 ck (inR y42 x36.length) <|
 cl true (M_impl_FormatInt fu x32) fun x47 =>
 ck (lenOK (([121] : List UInt8) ++ x47).length) <|
 ck (subR 0 1 (gtD x36 y42).length) <|
 ck (lenOK ((([121] : List UInt8) ++ x47) ++ (subL (gtD x36 y42) 0 1)).length) <|
 ck (lenOK (y43.length + ([((([121] : List UInt8) ++ x47) ++ (subL (gtD x36 y42) 0 1))] : List (List UInt8)).length)) <|
 ck (i64B (y42 + 1)) <|
 M_impl_blockKeys_L1 fu x32 x36 k (y42 + 1) (y43 ++ ([((([121] : List UInt8) ++ x47) ++ (subL (gtD x36 y42) 0 1))] : List (List UInt8)))
 ) else (
 some y43
 )
def M_impl_blockKeys_L2 (fu : Nat) (x65 : Int) (x69 : List (List UInt8)) : Nat → Int → (List (List UInt8)) → Option (List (List UInt8))
 | 0, _, _ => none
 | k + 1, y75, y76 =>
 bif (decide (y75 < (x69.length : Int))) then (
 ck (inR y75 x69.length) <|
 cl true (M_impl_FormatInt fu x65) fun x80 =>
 ck (lenOK (([121] : List UInt8) ++ x80).length) <|
 ck (subR 0 1 (gtD x69 y75).length) <|
 ck (lenOK ((([121] : List UInt8) ++ x80) ++ (subL (gtD x69 y75) 0 1)).length) <|
 ck (lenOK (y76.length + ([((([121] : List UInt8) ++ x80) ++ (subL (gtD x69 y75) 0 1))] : List (List UInt8)).length)) <|
 ck (i64B (y75 + 1)) <|
 M_impl_blockKeys_L2 fu x65 x69 k (y75 + 1) (y76 ++ ([((([121] : List UInt8) ++ x80) ++ (subL (gtD x69 y75) 0 1))] : List (List UInt8)))
 ) else (
 some y76
 )
def M_impl_blockKeys (fu : Nat) (p0 : T_impl_Record) : Option (List (List UInt8)) :=
 ck (inR 0 p0.2.2.2.length) <|
 cl true (M_impl_SoundKeys fu (gtD p0.2.2.2 0)) fun x4 =>
 cl true (M_impl_blockKeys_L0 fu x4 fu 0 ([] : List (List UInt8))) fun s9 =>
 ck (inR 3 p0.2.2.2.length) <|
 cl true (M_impl_DigitsOf fu (gtD p0.2.2.2 3)) fun x21 =>
 bif (decide (4 ≤ (x21.length : Int))) then (
 ck (i64B ((x21.length : Int) - 4)) <|
 ck (subR ((x21.length : Int) - 4) (x21.length : Int) x21.length) <|
 ck (lenOK (([112] : List UInt8) ++ (subL x21 ((x21.length : Int) - 4) (x21.length : Int))).length) <|
 ck (lenOK (s9.length + ([(([112] : List UInt8) ++ (subL x21 ((x21.length : Int) - 4) (x21.length : Int)))] : List (List UInt8)).length)) <|
 ck (inR 2 p0.2.2.2.length) <|
 cl true (M_impl_ParseYear fu (gtD p0.2.2.2 2)) fun x32 =>
 bif (decide (0 < x32)) then (
 ck (inR 0 p0.2.2.2.length) <|
 cl true (M_impl_Tokens fu (gtD p0.2.2.2 0)) fun x36 =>
 cl true (M_impl_blockKeys_L1 fu x32 x36 fu 0 (s9 ++ ([(([112] : List UInt8) ++ (subL x21 ((x21.length : Int) - 4) (x21.length : Int)))] : List (List UInt8)))) fun s41 =>
 cl true (M_impl_sortedSet fu s41) fun x55 =>
 some x55
 ) else (
 cl true (M_impl_sortedSet fu (s9 ++ ([(([112] : List UInt8) ++ (subL x21 ((x21.length : Int) - 4) (x21.length : Int)))] : List (List UInt8)))) fun x59 =>
 some x59
 )
 ) else (
 ck (inR 2 p0.2.2.2.length) <|
 cl true (M_impl_ParseYear fu (gtD p0.2.2.2 2)) fun x65 =>
 bif (decide (0 < x65)) then (
 ck (inR 0 p0.2.2.2.length) <|
 cl true (M_impl_Tokens fu (gtD p0.2.2.2 0)) fun x69 =>
 cl true (M_impl_blockKeys_L2 fu x65 x69 fu 0 s9) fun s74 =>
 cl true (M_impl_sortedSet fu s74) fun x88 =>
 some x88
 ) else (
 cl true (M_impl_sortedSet fu s9) fun x92 =>
 some x92
 )
 )
theorem M_impl_blockKeys_ok {fu : Nat} {A0 : Av} {p0 : T_impl_Record} {r : List (List UInt8)} (hr : M_impl_blockKeys fu p0 = some r) {w : World} {v0 : Value} (hA : AvOK A0 w) (hG : GTab w) (h0 : Rep E_impl_Record A0 w v0 p0) :
 Calls Tryz.prog 114 #[v0] w fun e w' => ∃ v, e = .returned v ∧ ((Res.vec w.heap.size 9 eStr r).ok (addA A0 v) v w' ∧ Fr w w') := by
 unfold M_impl_blockKeys at hr
 obtain ⟨w0, hw0⟩ : ∃ w0, w0 = w := ⟨_, rfl⟩
 have hF : Fr w0 w := hw0 ▸ Fr.refl _
 have hA0 : ∀ b o, A0 b o → b < w0.heap.size := fun b o h => hw0 ▸ hA b o h
 have hA00 : AvOK A0 w0 := hA0
 rw [show w.heap.size = w0.heap.size from hw0 ▸ rfl]
 rw [show Fr w = Fr w0 from hw0 ▸ rfl]
 have hG0 : GTab w0 := hw0 ▸ hG
 clear hw0
 obtain ⟨A, hAe⟩ : ∃ A, A = A0 := ⟨_, rfl⟩
 have hAA : ∀ b o, A0 b o → A b o := fun b o h => hAe ▸ h
 replace hA : AvOK A w := hAe ▸ hA
 have hO : IniOK [] A w := IniOK.nil
 refine calls_of_HT2 [.tmp 2] Tryz.func114 Tryz.ntmps114 (by decide) rfl rfl (Nat.le_of_ble_eq_true rfl) ?_
 intro R hR
 have f_v0 : Rep E_impl_Record A w v0 p0 := hAe ▸ h0
 replace h0 : R 0 = v0 := hR 0 _ rfl
 clear hR hAe
 refine HT.seq ?_
 refine HT.textR [] (⟨_, true, [], some (.box w0.heap.size 51 E_impl_Record p0), true, fun A => .any⟩ :: rA :: []) (by kernel_rfl) (by kernel_rfl) (Wf.mk' (by kernel_rfl) (ua (ua (UAll.nil))) (by kernel_rfl) (by kernel_rfl)) hO hA ?_ ?_
 exact OblsR.cons (OblR.made _ rfl rfl rfl rfl fun A' R' w' ho hd => by have a0 : R' 0 = v0 := (ho.old 0 rfl).trans h0; have ra0 := (f_v0.stp ho.stp).eq a0; exact made_box ra0 (Nat.le_trans hF.size ho.ch.size)) <| OblsR.p (fun A' R' w' ho hd => of_assign trivial) <| OblsR.nil
 intro done ρ σ A R w hdn hI
 obtain ⟨b1_0, e_b1_0⟩ := hI.boxv hdn 0 rfl rfl
 have h1 : R 1 = (.pointer (some ⟨b1_0, 0, none⟩)) := (hI.opvR hdn 0 0 rfl rfl rfl rfl rfl).symm.trans e_b1_0
 replace hAA := hI.low' hAA hA0 (hO.ge (trivial))
 replace hF : Fr w0 w := hF.tr hI.ch (hO.ge (trivial))
 replace hO := hI.left hdn [(0, ob (.pointer (some ⟨b1_0, 0, none⟩)) (.box w0.heap.size 51 E_impl_Record p0))] ⟨rfl, rfl, e_b1_0, rfl, rfl, trivial⟩
 replace hA := hI.avok
 clear hI
 refine HT.seq ?_
 refine HT.u hA hF (eR (.slice none 0 0) :: []) ?_ ?_
 exact Obls.p (fun R' w' hw hs hd => of_assign rfl) <| Obls.nil
 intro R w hw hs hF' hA hF
 replace h1 := k1 hs h1
 obtain ⟨u2, n_u2⟩ : ∃ u, u = Value.slice none 0 0 := ⟨_, rfl⟩
 have h3 : R 3 = u2 := (hF' 0 _ _ rfl rfl rfl).trans n_u2.symm
 replace hO := hO.fr hw
 replace hO := hO.nilcons (u := u2) n_u2 w0.heap.size 9 eStr
 refine HT.seq ?_
 refine HT.seq ?_
 obtain ⟨e3, hr⟩ := ck_some hr
 obtain ⟨x4, q5, hr⟩ := cl_some hr
 refine HT.u hA hF (eR (.pointer (some ⟨b1_0, 3, none⟩)) :: eF (.rep (eSl eStr) A p0.2.2.2) :: eF (.qtr eStr A (gtD p0.2.2.2 (0 : Int))) :: eF (.rep eStr A (gtD p0.2.2.2 (0 : Int))) :: eF (.rep (eSl eStr) A x4) :: eI (x4.length : Int) :: eI 0 :: []) ?_ ?_
 exact Obls.p (fun R' w' hw hs hd => of_fieldAddr_raw ((hs 1 rfl).trans h1) ff_51_3 Tryz.sizeOf46 (by decide) rfl) <| Obls.p (fun R' w' hw hs hd => (of_load_box ((hO.fr hw).ok 1 _ rfl).1 (hd.g 0 rfl) fl_impl_Record_3 rfl Tryz.isAgg46 Tryz.sizeOf46)) <| Obls.p (fun R' w' hw hs hd => of_indexAddr (hd.g 0 rfl) rfl Tryz.underlying46 Tryz.sizeOf9 e3) <| Obls.p (fun R' w' hw hs hd => (of_load (QRep.ptr (hd.g 0 rfl)) Tryz.isAgg9 Tryz.sizeOf9)) <| Obls.p (fun R' w' hw hs hd => of_call Tryz.call164 (M_impl_SoundKeys_okR (q5 rfl) (hA.fr hw.size) (hG0.fr (hF.trans hw)) (hd.g 0 rfl))) <| Obls.p (fun R' w' hw hs hd => of_len_sl (aT := #[]) (hd.g 0 rfl) Tryz.underlying46) <| Obls.p (fun R' w' hw hs hd => of_move rfl) <| Obls.nil
 intro R w hw hs hF' hA hF
 obtain ⟨h1, h3⟩ := k2 hs h1 h3
 obtain ⟨u6, h14, f_u6⟩ : ∃ u, R 14 = u ∧ Rep (eSl eStr) A w u x4 := ⟨_, rfl, hF' 4 _ _ rfl rfl rfl⟩
 have h15 := hF'.r 5 rfl
 have h16 := hF'.r 6 rfl
 replace hO := hO.fr hw
 obtain ⟨rl7, q8, hr⟩ := cl_some hr
 replace q8 := q8 rfl
 refine HT.cut0 (fun R w => ∃ A : Av, ∃ (s9 : (List (List UInt8))) (uo_u2 : Value), rl7 = s9 ∧ AvOK A w ∧ Fr w0 w ∧ (∀ b o, A0 b o → A b o) ∧ IniOK [ob uo_u2 (.vec w0.heap.size 9 eStr s9), ob (.pointer (some ⟨b1_0, 0, none⟩)) (.box w0.heap.size 51 E_impl_Record p0)] A w ∧ R 1 = (.pointer (some ⟨b1_0, 0, none⟩)) ∧ R 3 = uo_u2) ?_ ?_
 refine HT.block ?_
 refine HT.loop (fun k R w => ∃ A : Av, ∃ (y10 : Int) (y11 : List (List UInt8)) (ul_u2 : Value), M_impl_blockKeys_L0 fu x4 k y10 y11 = some rl7 ∧ AvOK A w ∧ Fr w0 w ∧ (∀ b o, A0 b o → A b o) ∧ IniOK [ob ul_u2 (.vec w0.heap.size 9 eStr y11), ob (.pointer (some ⟨b1_0, 0, none⟩)) (.box w0.heap.size 51 E_impl_Record p0)] A w ∧ R 1 = (.pointer (some ⟨b1_0, 0, none⟩)) ∧ R 3 = ul_u2 ∧ R 14 = u6 ∧ R 15 = .int .i64 (x4.length : Int) ∧ R 16 = .int .i64 y10 ∧ Rep (eSl eStr) A w u6 x4) fu ⟨_, _, _, u2, q8, hA, hF, hAA, hO, h1, h3, h14, h15, h16, f_u6⟩ ?_
 have hr0 := hr; clear hr q8
 rintro k R w ⟨A, y10, y11, ul_u2, hr, hA, hF, hAA, hO, h1, h3, h14, h15, h16, f_u6⟩
 rcases k with _ | k
 cases (show none = some _ from hr)
 rw [M_impl_blockKeys_L0] at hr
 refine HT.seq ?_
 refine HT.u hA hF (eB (decide (y10 < (x4.length : Int))) :: []) ?_ ?_
 exact Obls.p (fun R' w' hw hs hd => of_lss ((hs 16 rfl).trans h16) ((hs 15 rfl).trans h15)) <| Obls.nil
 intro R w hw hs hF' hA hF
 obtain ⟨h1, h3, h14, h15, h16⟩ := k5 hs h1 h3 h14 h15 h16
 have h17 := hF'.r 0 rfl
 replace f_u6 := f_u6.fr hw
 replace hO := hO.fr hw
 refine HT.seq ?_
 refine HT.cond (decide (y10 < (x4.length : Int))) h17 (fun c12 => ?_) (fun c12 => ?_)
 have hr := cnd_t c12 hr
 refine HT.skip ?_
 refine HT.seq ?_
 refine HT.block ?_
 refine HT.seq ?_
 obtain ⟨e13, hr⟩ := ck_some hr
 refine HT.u hA hF (eF (.qtr eStr A (gtD x4 y10)) :: eF (.rep eStr A (gtD x4 y10)) :: eF (.rep eStr A (gtD x4 y10)) :: []) ?_ ?_
 exact Obls.p (fun R' w' hw hs hd => of_indexAddr ((f_u6.fr hw).eq ((hs 14 rfl).trans h14)) ((hs 16 rfl).trans h16) Tryz.underlying46 Tryz.sizeOf9 e13) <| Obls.p (fun R' w' hw hs hd => (of_load (QRep.ptr (hd.g 0 rfl)) Tryz.isAgg9 Tryz.sizeOf9)) <| Obls.p (fun R' w' hw hs hd => of_assign (hd.g 0 rfl)) <| Obls.nil
 intro R w hw hs hF' hA hF
 obtain ⟨h1, h3, h14, h15, h16⟩ := k5 hs h1 h3 h14 h15 h16
 obtain ⟨u14, h5, f_u14⟩ : ∃ u, R 5 = u ∧ Rep eStr A w u (gtD x4 y10) := ⟨_, rfl, hF' 2 _ _ rfl rfl rfl⟩
 replace f_u6 := f_u6.fr hw
 replace hO := hO.fr hw
 obtain ⟨e15, hr⟩ := ck_some hr
 obtain ⟨e16, hr⟩ := ck_some hr
 refine HT.textR [ob ul_u2 (.vec w0.heap.size 9 eStr y11), ob (.pointer (some ⟨b1_0, 0, none⟩)) (.box w0.heap.size 51 E_impl_Record p0)] (rR ul_u2 :: rR u14 :: (rF fun A => .rep eStr A (([115] : List UInt8) ++ (gtD x4 y10))) :: (rF fun A => .rep (eSl eStr) A ([(([115] : List UInt8) ++ (gtD x4 y10))] : List (List UInt8))) :: ⟨_, true, [0], some (.vec w0.heap.size 9 eStr (y11 ++ ([(([115] : List UInt8) ++ (gtD x4 y10))] : List (List UInt8)))), true, fun A => .any⟩ :: ⟨_, true, [6], some (.vec w0.heap.size 9 eStr (y11 ++ ([(([115] : List UInt8) ++ (gtD x4 y10))] : List (List UInt8)))), true, fun A => .any⟩ :: []) (by kernel_rfl) (by kernel_rfl) (Wf.mk' (by kernel_rfl) (ur (ur (up (up (ua (ua (UAll.nil))))))) (by kernel_rfl) (by kernel_rfl)) hO hA ?_ ?_
 exact OblsR.m h3 <| OblsR.m h5 <| OblsR.p (fun A' R' w' ho hd => of_cat ⟨_, rfl, ⟨_, rfl, rfl, by decide⟩⟩ ((f_u14.stp ho.stp).eq (hd.g 0 rfl)) e15) <| OblsR.p (fun A' R' w' ho hd => of_build [_] (E := eStr) ⟨(hd.g 0 rfl), trivial⟩ Tryz.underlying46 Tryz.sizeOf9 Tryz.zeroValue9 rfl rfl rfl ho.av) <| OblsR.cons (OblR.took 0 _ _ rfl rfl rfl rfl rfl fun A' R' w' ho hd u hok hav hin hop hds => by have a0 : R' 20 = ul_u2 := hd.g 0 rfl; have a1 : Rep (eSl eStr) A' w' (R' 23) ([(([115] : List UInt8) ++ (gtD x4 y10))] : List (List UInt8)) := hd.g 1 rfl; exact took_append (a0.trans (hin _ rfl).symm) hok hav (Nat.le_trans hF.size ho.ch.size) a1 Tryz.underlying46 el_9 e16) <| OblsR.cons (OblR.took 6 _ _ rfl rfl rfl rfl rfl fun A' R' w' ho hd u hok hav hin hop hds => by exact took_assign (hop _ _ rfl rfl rfl rfl).symm hok hav) <| OblsR.nil
 intro done ρ σ A R w hdn hI
 obtain ⟨h1, h14, h15, h16⟩ := k4 hI.rg h1 h14 h15 h16
 obtain ⟨u17, e_u17⟩ : ∃ u, ρ 7 = u := ⟨_, rfl⟩
 have h3 : R 3 = u17 := (hI.opvR hdn 7 5 rfl rfl rfl rfl rfl).symm.trans e_u17
 have z18 := hI.inivR 1 rfl
 replace f_u6 := f_u6.stp hI.stp
 replace hAA := hI.low' hAA hA0 (hO.ge (⟨rfl, ⟨rfl, trivial⟩⟩))
 replace hF : Fr w0 w := hF.tr hI.ch (hO.ge (⟨rfl, ⟨rfl, trivial⟩⟩))
 replace hO := hI.left hdn [(7, ob u17 (.vec w0.heap.size 9 eStr (y11 ++ ([(([115] : List UInt8) ++ (gtD x4 y10))] : List (List UInt8))))), (1, ob (.pointer (some ⟨b1_0, 0, none⟩)) (.box w0.heap.size 51 E_impl_Record p0))] ⟨rfl, rfl, e_u17, rfl, rfl, ⟨rfl, rfl, z18, rfl, rfl, trivial⟩⟩
 replace hA := hI.avok
 clear hI
 obtain ⟨e19, hr⟩ := ck_some hr
 refine HT.u hA hF (eI (y10 + (1 : Int)) :: eI (y10 + (1 : Int)) :: []) ?_ ?_
 exact Obls.p (fun R' w' hw hs hd => of_add ((hs 16 rfl).trans h16) rfl e19) <| Obls.v <| Obls.nil
 intro R w hw hs hF' hA hF
 obtain ⟨h1, h3, h14, h15⟩ := k4 hs h1 h3 h14 h15
 have h16 := hF'.r 1 rfl
 replace f_u6 := f_u6.fr hw
 replace hO := hO.fr hw
 exact Exists.intro k (And.intro (Nat.lt_succ_self k) ⟨_, _, _, u17, hr, hA, hF, hAA, hO, h1, h3, h14, h15, h16, f_u6⟩)
 have hr := cnd_f c12 hr
 refine HT.exit ?_
 obtain rfl := Option.some.inj hr
 exact Exists.intro _ ⟨_, ul_u2, rfl, hA, hF, hAA, hO, h1, h3⟩
 rintro R w ⟨A, s9, uo_u2, es, hA, hF, hAA, hO, h1, h3⟩
 obtain rfl := es.symm
 refine HT.seq ?_
 refine HT.seq ?_
 obtain ⟨e20, hr⟩ := ck_some hr
 obtain ⟨x21, q22, hr⟩ := cl_some hr
 refine HT.u hA hF (eR (.pointer (some ⟨b1_0, 3, none⟩)) :: eF (.rep (eSl eStr) A p0.2.2.2) :: eF (.qtr eStr A (gtD p0.2.2.2 (3 : Int))) :: eF (.rep eStr A (gtD p0.2.2.2 (3 : Int))) :: eF (.rep eStr A x21) :: eF (.rep eStr A x21) :: []) ?_ ?_
 exact Obls.p (fun R' w' hw hs hd => of_fieldAddr_raw ((hs 1 rfl).trans h1) ff_51_3 Tryz.sizeOf46 (by decide) rfl) <| Obls.p (fun R' w' hw hs hd => (of_load_box ((hO.fr hw).ok 1 _ rfl).1 (hd.g 0 rfl) fl_impl_Record_3 rfl Tryz.isAgg46 Tryz.sizeOf46)) <| Obls.p (fun R' w' hw hs hd => of_indexAddr (hd.g 0 rfl) rfl Tryz.underlying46 Tryz.sizeOf9 e20) <| Obls.p (fun R' w' hw hs hd => (of_load (QRep.ptr (hd.g 0 rfl)) Tryz.isAgg9 Tryz.sizeOf9)) <| Obls.p (fun R' w' hw hs hd => of_call Tryz.call165 (M_impl_DigitsOf_ok (q22 rfl) (hA.fr hw.size) (hd.g 0 rfl))) <| Obls.p (fun R' w' hw hs hd => of_assign (hd.g 0 rfl)) <| Obls.nil
 intro R w hw hs hF' hA hF
 obtain ⟨h1, h3⟩ := k2 hs h1 h3
 obtain ⟨u23, h6, f_u23⟩ : ∃ u, R 6 = u ∧ Rep eStr A w u x21 := ⟨_, rfl, hF' 5 _ _ rfl rfl rfl⟩
 replace hO := hO.fr hw
 refine HT.seq ?_
 refine HT.u hA hF (eR u23 :: eI (x21.length : Int) :: eB (decide ((4 : Int) ≤ (x21.length : Int))) :: []) ?_ ?_
 exact Obls.m h6 <| Obls.p (fun R' w' hw hs hd => of_len_str ((f_u23.fr hw).eq (hd.g 0 rfl)) Tryz.underlying9) <| Obls.p (fun R' w' hw hs hd => of_geq (hd.g 0 rfl) rfl) <| Obls.nil
 intro R w hw hs hF' hA hF
 obtain ⟨h1, h3, h6⟩ := k3 hs h1 h3 h6
 have h33 := hF'.r 2 rfl
 replace f_u23 := f_u23.fr hw
 replace hO := hO.fr hw
 refine HT.cond (decide ((4 : Int) ≤ (x21.length : Int))) h33 (fun c24 => ?_) (fun c24 => ?_)
 have hr := cnd_t c24 hr
 obtain ⟨e25, hr⟩ := ck_some hr
 obtain ⟨e26, hr⟩ := ck_some hr
 obtain ⟨e27, hr⟩ := ck_some hr
 obtain ⟨e28, hr⟩ := ck_some hr
 refine HT.textR [ob uo_u2 (.vec w0.heap.size 9 eStr s9), ob (.pointer (some ⟨b1_0, 0, none⟩)) (.box w0.heap.size 51 E_impl_Record p0)] (rR uo_u2 :: rR u23 :: rR u23 :: rI (x21.length : Int) :: rI ((x21.length : Int) - (4 : Int)) :: (rF fun A => .rep eStr A (subL x21 ((x21.length : Int) - (4 : Int)) (x21.length : Int))) :: (rF fun A => .rep eStr A (([112] : List UInt8) ++ (subL x21 ((x21.length : Int) - (4 : Int)) (x21.length : Int)))) :: (rF fun A => .rep (eSl eStr) A ([(([112] : List UInt8) ++ (subL x21 ((x21.length : Int) - (4 : Int)) (x21.length : Int)))] : List (List UInt8))) :: ⟨_, true, [0], some (.vec w0.heap.size 9 eStr (s9 ++ ([(([112] : List UInt8) ++ (subL x21 ((x21.length : Int) - (4 : Int)) (x21.length : Int)))] : List (List UInt8)))), true, fun A => .any⟩ :: ⟨_, true, [10], some (.vec w0.heap.size 9 eStr (s9 ++ ([(([112] : List UInt8) ++ (subL x21 ((x21.length : Int) - (4 : Int)) (x21.length : Int)))] : List (List UInt8)))), true, fun A => .any⟩ :: []) (by kernel_rfl) (by kernel_rfl) (Wf.mk' (by kernel_rfl) (ur (ur (ur (ur (ur (up (up (up (ua (ua (UAll.nil))))))))))) (by kernel_rfl) (by kernel_rfl)) hO hA ?_ ?_
 exact OblsR.m h3 <| OblsR.m h6 <| OblsR.m h6 <| OblsR.p (fun A' R' w' ho hd => of_len_str ((f_u23.stp ho.stp).eq (hd.g 0 rfl)) Tryz.underlying9) <| OblsR.p (fun A' R' w' ho hd => of_sub (hd.g 0 rfl) rfl e25) <| OblsR.p (fun A' R' w' ho hd => of_slice_str_lo ((f_u23.stp ho.stp).eq (hd.g 0 rfl)) (hd.g 1 rfl) Tryz.underlying9  e26) <| OblsR.p (fun A' R' w' ho hd => of_cat ⟨_, rfl, ⟨_, rfl, rfl, by decide⟩⟩ (hd.g 0 rfl) e27) <| OblsR.p (fun A' R' w' ho hd => of_build [_] (E := eStr) ⟨(hd.g 0 rfl), trivial⟩ Tryz.underlying46 Tryz.sizeOf9 Tryz.zeroValue9 rfl rfl rfl ho.av) <| OblsR.cons (OblR.took 0 _ _ rfl rfl rfl rfl rfl fun A' R' w' ho hd u hok hav hin hop hds => by have a0 : R' 34 = uo_u2 := hd.g 0 rfl; have a1 : Rep (eSl eStr) A' w' (R' 41) ([(([112] : List UInt8) ++ (subL x21 ((x21.length : Int) - (4 : Int)) (x21.length : Int)))] : List (List UInt8)) := hd.g 1 rfl; exact took_append (a0.trans (hin _ rfl).symm) hok hav (Nat.le_trans hF.size ho.ch.size) a1 Tryz.underlying46 el_9 e28) <| OblsR.cons (OblR.took 10 _ _ rfl rfl rfl rfl rfl fun A' R' w' ho hd u hok hav hin hop hds => by exact took_assign (hop _ _ rfl rfl rfl rfl).symm hok hav) <| OblsR.nil
 intro done ρ σ A R w hdn hI
 replace h1 := k1 hI.rg h1
 obtain ⟨u29, e_u29⟩ : ∃ u, ρ 11 = u := ⟨_, rfl⟩
 have h3 : R 3 = u29 := (hI.opvR hdn 11 9 rfl rfl rfl rfl rfl).symm.trans e_u29
 have z30 := hI.inivR 1 rfl
 replace hAA := hI.low' hAA hA0 (hO.ge (⟨rfl, ⟨rfl, trivial⟩⟩))
 replace hF : Fr w0 w := hF.tr hI.ch (hO.ge (⟨rfl, ⟨rfl, trivial⟩⟩))
 replace hO := hI.left hdn [(11, ob u29 (.vec w0.heap.size 9 eStr (s9 ++ ([(([112] : List UInt8) ++ (subL x21 ((x21.length : Int) - (4 : Int)) (x21.length : Int)))] : List (List UInt8))))), (1, ob (.pointer (some ⟨b1_0, 0, none⟩)) (.box w0.heap.size 51 E_impl_Record p0))] ⟨rfl, rfl, e_u29, rfl, rfl, ⟨rfl, rfl, z30, rfl, rfl, trivial⟩⟩
 replace hA := hI.avok
 clear hI
 refine HT.seq ?_
 refine HT.seq ?_
 obtain ⟨e31, hr⟩ := ck_some hr
 obtain ⟨x32, q33, hr⟩ := cl_some hr
 refine HT.u hA hF (eR (.pointer (some ⟨b1_0, 3, none⟩)) :: eF (.rep (eSl eStr) A p0.2.2.2) :: eF (.qtr eStr A (gtD p0.2.2.2 (2 : Int))) :: eF (.rep eStr A (gtD p0.2.2.2 (2 : Int))) :: eI x32 :: eI x32 :: []) ?_ ?_
 exact Obls.p (fun R' w' hw hs hd => of_fieldAddr_raw ((hs 1 rfl).trans h1) ff_51_3 Tryz.sizeOf46 (by decide) rfl) <| Obls.p (fun R' w' hw hs hd => (of_load_box ((hO.fr hw).ok 1 _ rfl).1 (hd.g 0 rfl) fl_impl_Record_3 rfl Tryz.isAgg46 Tryz.sizeOf46)) <| Obls.p (fun R' w' hw hs hd => of_indexAddr (hd.g 0 rfl) rfl Tryz.underlying46 Tryz.sizeOf9 e31) <| Obls.p (fun R' w' hw hs hd => (of_load (QRep.ptr (hd.g 0 rfl)) Tryz.isAgg9 Tryz.sizeOf9)) <| Obls.p (fun R' w' hw hs hd => of_call Tryz.call166 (M_impl_ParseYear_ok (q33 rfl) (hA.fr hw.size) (hG0.fr (hF.trans hw)) (hd.g 0 rfl))) <| Obls.a <| Obls.nil
 intro R w hw hs hF' hA hF
 obtain ⟨h1, h3⟩ := k2 hs h1 h3
 have h7 := hF'.r 5 rfl
 replace hO := hO.fr hw
 refine HT.seq ?_
 refine HT.u hA hF (eI x32 :: eB (decide ((0 : Int) < x32)) :: []) ?_ ?_
 exact Obls.m h7 <| Obls.p (fun R' w' hw hs hd => of_gtr (hd.g 0 rfl) rfl) <| Obls.nil
 intro R w hw hs hF' hA hF
 obtain ⟨h1, h3, h7⟩ := k3 hs h1 h3 h7
 have h49 := hF'.r 1 rfl
 replace hO := hO.fr hw
 refine HT.cond (decide ((0 : Int) < x32)) h49 (fun c34 => ?_) (fun c34 => ?_)
 have hr := cnd_t c34 hr
 refine HT.seq ?_
 obtain ⟨e35, hr⟩ := ck_some hr
 obtain ⟨x36, q37, hr⟩ := cl_some hr
 refine HT.u hA hF (eR (.pointer (some ⟨b1_0, 3, none⟩)) :: eF (.rep (eSl eStr) A p0.2.2.2) :: eF (.qtr eStr A (gtD p0.2.2.2 (0 : Int))) :: eF (.rep eStr A (gtD p0.2.2.2 (0 : Int))) :: eF (.rep (eSl eStr) A x36) :: eI (x36.length : Int) :: eI 0 :: []) ?_ ?_
 exact Obls.p (fun R' w' hw hs hd => of_fieldAddr_raw ((hs 1 rfl).trans h1) ff_51_3 Tryz.sizeOf46 (by decide) rfl) <| Obls.p (fun R' w' hw hs hd => (of_load_box ((hO.fr hw).ok 1 _ rfl).1 (hd.g 0 rfl) fl_impl_Record_3 rfl Tryz.isAgg46 Tryz.sizeOf46)) <| Obls.p (fun R' w' hw hs hd => of_indexAddr (hd.g 0 rfl) rfl Tryz.underlying46 Tryz.sizeOf9 e35) <| Obls.p (fun R' w' hw hs hd => (of_load (QRep.ptr (hd.g 0 rfl)) Tryz.isAgg9 Tryz.sizeOf9)) <| Obls.p (fun R' w' hw hs hd => of_call Tryz.call167 (M_impl_Tokens_okR (q37 rfl) (hA.fr hw.size) (hG0.fr (hF.trans hw)) (hd.g 0 rfl))) <| Obls.p (fun R' w' hw hs hd => of_len_sl (aT := #[]) (hd.g 0 rfl) Tryz.underlying46) <| Obls.p (fun R' w' hw hs hd => of_move rfl) <| Obls.nil
 intro R w hw hs hF' hA hF
 obtain ⟨h3, h7⟩ := k2 hs h3 h7
 obtain ⟨u38, h54, f_u38⟩ : ∃ u, R 54 = u ∧ Rep (eSl eStr) A w u x36 := ⟨_, rfl, hF' 4 _ _ rfl rfl rfl⟩
 have h55 := hF'.r 5 rfl
 have h56 := hF'.r 6 rfl
 replace hO := hO.fr hw
 replace hO : IniOK [ob u29 (.vec w0.heap.size 9 eStr (s9 ++ ([(([112] : List UInt8) ++ (subL x21 ((x21.length : Int) - (4 : Int)) (x21.length : Int)))] : List (List UInt8))))] A w := hO.sub [(0, ob u29 (.vec w0.heap.size 9 eStr (s9 ++ ([(([112] : List UInt8) ++ (subL x21 ((x21.length : Int) - (4 : Int)) (x21.length : Int)))] : List (List UInt8)))))] ⟨rfl, rfl, trivial⟩
 obtain ⟨rl39, q40, hr⟩ := cl_some hr
 replace q40 := q40 rfl
 refine HT.cut0 (fun R w => ∃ A : Av, ∃ (s41 : (List (List UInt8))) (uo_u29 : Value), rl39 = s41 ∧ AvOK A w ∧ Fr w0 w ∧ (∀ b o, A0 b o → A b o) ∧ IniOK [ob uo_u29 (.vec w0.heap.size 9 eStr s41)] A w ∧ R 3 = uo_u29) ?_ ?_
 refine HT.block ?_
 refine HT.loop (fun k R w => ∃ A : Av, ∃ (y42 : Int) (y43 : List (List UInt8)) (ul_u29 : Value), M_impl_blockKeys_L1 fu x32 x36 k y42 y43 = some rl39 ∧ AvOK A w ∧ Fr w0 w ∧ (∀ b o, A0 b o → A b o) ∧ IniOK [ob ul_u29 (.vec w0.heap.size 9 eStr y43)] A w ∧ R 3 = ul_u29 ∧ R 7 = .int .i64 x32 ∧ R 54 = u38 ∧ R 55 = .int .i64 (x36.length : Int) ∧ R 56 = .int .i64 y42 ∧ Rep (eSl eStr) A w u38 x36) fu ⟨_, _, _, u29, q40, hA, hF, hAA, hO, h3, h7, h54, h55, h56, f_u38⟩ ?_
 have hr0 := hr; clear hr q40
 rintro k R w ⟨A, y42, y43, ul_u29, hr, hA, hF, hAA, hO, h3, h7, h54, h55, h56, f_u38⟩
 rcases k with _ | k
 cases (show none = some _ from hr)
 rw [M_impl_blockKeys_L1] at hr
 refine HT.seq ?_
 refine HT.u hA hF (eB (decide (y42 < (x36.length : Int))) :: []) ?_ ?_
 exact Obls.p (fun R' w' hw hs hd => of_lss ((hs 56 rfl).trans h56) ((hs 55 rfl).trans h55)) <| Obls.nil
 intro R w hw hs hF' hA hF
 obtain ⟨h3, h7, h54, h55, h56⟩ := k5 hs h3 h7 h54 h55 h56
 have h57 := hF'.r 0 rfl
 replace f_u38 := f_u38.fr hw
 replace hO := hO.fr hw
 refine HT.seq ?_
 refine HT.cond (decide (y42 < (x36.length : Int))) h57 (fun c44 => ?_) (fun c44 => ?_)
 have hr := cnd_t c44 hr
 refine HT.skip ?_
 refine HT.seq ?_
 refine HT.block ?_
 refine HT.seq ?_
 obtain ⟨e45, hr⟩ := ck_some hr
 refine HT.u hA hF (eF (.qtr eStr A (gtD x36 y42)) :: eF (.rep eStr A (gtD x36 y42)) :: eF (.rep eStr A (gtD x36 y42)) :: []) ?_ ?_
 exact Obls.p (fun R' w' hw hs hd => of_indexAddr ((f_u38.fr hw).eq ((hs 54 rfl).trans h54)) ((hs 56 rfl).trans h56) Tryz.underlying46 Tryz.sizeOf9 e45) <| Obls.p (fun R' w' hw hs hd => (of_load (QRep.ptr (hd.g 0 rfl)) Tryz.isAgg9 Tryz.sizeOf9)) <| Obls.p (fun R' w' hw hs hd => of_assign (hd.g 0 rfl)) <| Obls.nil
 intro R w hw hs hF' hA hF
 obtain ⟨h3, h7, h54, h55, h56⟩ := k5 hs h3 h7 h54 h55 h56
 obtain ⟨u46, h9, f_u46⟩ : ∃ u, R 9 = u ∧ Rep eStr A w u (gtD x36 y42) := ⟨_, rfl, hF' 2 _ _ rfl rfl rfl⟩
 replace f_u38 := f_u38.fr hw
 replace hO := hO.fr hw
 obtain ⟨x47, q48, hr⟩ := cl_some hr
 obtain ⟨e49, hr⟩ := ck_some hr
 obtain ⟨e50, hr⟩ := ck_some hr
 obtain ⟨e51, hr⟩ := ck_some hr
 obtain ⟨e52, hr⟩ := ck_some hr
 refine HT.drawR [ob ul_u29 (.vec w0.heap.size 9 eStr y43)] (rR ul_u29 :: rI x32 :: (rF fun A => .rep eStr A x47) :: (rF fun A => .rep eStr A (([121] : List UInt8) ++ x47)) :: rR u46 :: (rF fun A => .rep eStr A (subL (gtD x36 y42) 0 (1 : Int))) :: (rF fun A => .rep eStr A ((([121] : List UInt8) ++ x47) ++ (subL (gtD x36 y42) 0 (1 : Int)))) :: (rF fun A => .rep (eSl eStr) A ([((([121] : List UInt8) ++ x47) ++ (subL (gtD x36 y42) 0 (1 : Int)))] : List (List UInt8))) :: ⟨_, true, [0], some (.vec w0.heap.size 9 eStr (y43 ++ ([((([121] : List UInt8) ++ x47) ++ (subL (gtD x36 y42) 0 (1 : Int)))] : List (List UInt8)))), true, fun A => .any⟩ :: ⟨_, true, [9], some (.vec w0.heap.size 9 eStr (y43 ++ ([((([121] : List UInt8) ++ x47) ++ (subL (gtD x36 y42) 0 (1 : Int)))] : List (List UInt8)))), true, fun A => .any⟩ :: []) (by kernel_rfl) (by kernel_rfl) (by kernel_rfl) (Wf.mk' (by kernel_rfl) (ur (ur (up (up (ur (up (up (up (ua (ua (UAll.nil))))))))))) (by kernel_rfl) (by kernel_rfl)) hO hA ?_ ?_
 exact OblsR.m h3 <| OblsR.m h7 <| OblsR.p (fun A' R' w' ho hd => of_call Tryz.call86 (M_impl_FormatInt_ok (q48 rfl) ho.av (hG0.fr (hF.tr ho.ch (hO.ge (⟨rfl, trivial⟩)))) (hd.g 0 rfl))) <| OblsR.p (fun A' R' w' ho hd => of_cat ⟨_, rfl, ⟨_, rfl, rfl, by decide⟩⟩ (hd.g 0 rfl) e49) <| OblsR.m h9 <| OblsR.p (fun A' R' w' ho hd => of_slice_str_hi ((f_u46.stp ho.stp).eq (hd.g 0 rfl)) rfl Tryz.underlying9  e50) <| OblsR.p (fun A' R' w' ho hd => of_cat (hd.g 0 rfl) (hd.g 1 rfl) e51) <| OblsR.p (fun A' R' w' ho hd => of_build [_] (E := eStr) ⟨(hd.g 0 rfl), trivial⟩ Tryz.underlying46 Tryz.sizeOf9 Tryz.zeroValue9 rfl rfl rfl ho.av) <| OblsR.cons (OblR.took 0 _ _ rfl rfl rfl rfl rfl fun A' R' w' ho hd u hok hav hin hop hds => by have a0 : R' 60 = ul_u29 := hd.g 0 rfl; have a1 : Rep (eSl eStr) A' w' (R' 67) ([((([121] : List UInt8) ++ x47) ++ (subL (gtD x36 y42) 0 (1 : Int)))] : List (List UInt8)) := hd.g 1 rfl; exact took_append (a0.trans (hin _ rfl).symm) hok hav (Nat.le_trans hF.size ho.ch.size) a1 Tryz.underlying46 el_9 e52) <| OblsR.cons (OblR.took 9 _ _ rfl rfl rfl rfl rfl fun A' R' w' ho hd u hok hav hin hop hds => by exact took_assign (hop _ _ rfl rfl rfl rfl).symm hok hav) <| OblsR.nil
 intro done ρ σ A R w hdn hI
 obtain ⟨h7, h54, h55, h56⟩ := k4 hI.rg h7 h54 h55 h56
 obtain ⟨u53, e_u53⟩ : ∃ u, ρ 10 = u := ⟨_, rfl⟩
 have h3 : R 3 = u53 := (hI.opvR hdn 10 9 rfl rfl rfl rfl rfl).symm.trans e_u53
 replace f_u38 := f_u38.stp hI.stp
 replace hAA := hI.low' hAA hA0 (hO.ge (⟨rfl, trivial⟩))
 replace hF : Fr w0 w := hF.tr hI.ch (hO.ge (⟨rfl, trivial⟩))
 replace hO := hI.left hdn [(10, ob u53 (.vec w0.heap.size 9 eStr (y43 ++ ([((([121] : List UInt8) ++ x47) ++ (subL (gtD x36 y42) 0 (1 : Int)))] : List (List UInt8)))))] ⟨rfl, rfl, e_u53, rfl, rfl, trivial⟩
 replace hA := hI.avok
 clear hI
 obtain ⟨e54, hr⟩ := ck_some hr
 refine HT.u hA hF (eI (y42 + (1 : Int)) :: eI (y42 + (1 : Int)) :: []) ?_ ?_
 exact Obls.p (fun R' w' hw hs hd => of_add ((hs 56 rfl).trans h56) rfl e54) <| Obls.v <| Obls.nil
 intro R w hw hs hF' hA hF
 obtain ⟨h3, h7, h54, h55⟩ := k4 hs h3 h7 h54 h55
 have h56 := hF'.r 1 rfl
 replace f_u38 := f_u38.fr hw
 replace hO := hO.fr hw
 exact Exists.intro k (And.intro (Nat.lt_succ_self k) ⟨_, _, _, u53, hr, hA, hF, hAA, hO, h3, h7, h54, h55, h56, f_u38⟩)
 have hr := cnd_f c44 hr
 refine HT.exit ?_
 obtain rfl := Option.some.inj hr
 exact Exists.intro _ ⟨_, ul_u29, rfl, hA, hF, hAA, hO, h3⟩
 rintro R w ⟨A, s41, uo_u29, es, hA, hF, hAA, hO, h3⟩
 obtain rfl := es.symm
 refine HT.seq ?_
 obtain ⟨x55, q56, hr⟩ := cl_some hr
 refine HT.textR [ob uo_u29 (.vec w0.heap.size 9 eStr s41)] (rR uo_u29 :: ⟨_, true, [], some (.vec w0.heap.size 9 eStr x55), true, fun A => .any⟩ :: ⟨_, true, [2], some (.vec w0.heap.size 9 eStr x55), true, fun A => .any⟩ :: []) (by kernel_rfl) (by kernel_rfl) (Wf.mk' (by kernel_rfl) (ur (ua (ua (UAll.nil)))) (by kernel_rfl) (by kernel_rfl)) hO hA ?_ ?_
 exact OblsR.m h3 <| OblsR.cons (OblR.made _ rfl rfl rfl rfl fun A' R' w' ho hd => by have a0 : R' 70 = uo_u29 := hd.g 0 rfl; have ra0 := (vec_rep (ho.rd 0 _ rfl rfl) (ho.low' hAA hA0 (hO.ge (⟨rfl, trivial⟩))) hA0).eq a0; exact made_call0 Tryz.call122 (M_impl_sortedSet_ok (q56 rfl) (hA00.fr ((Nat.le_trans hF.size ho.ch.size))) ra0) (Nat.le_trans hF.size ho.ch.size) (ho.low' hAA hA0 (hO.ge (⟨rfl, trivial⟩))) (fun _ _ _ _ _ h => h)) <| OblsR.cons (OblR.took 2 _ _ rfl rfl rfl rfl rfl fun A' R' w' ho hd u hok hav hin hop hds => by exact took_assign (hop _ _ rfl rfl rfl rfl).symm hok hav) <| OblsR.nil
 intro done ρ σ A R w hdn hI
 have z57 := hI.inivR 0 rfl
 obtain ⟨u58, e_u58⟩ : ∃ u, ρ 3 = u := ⟨_, rfl⟩
 have h2 : R 2 = u58 := (hI.opvR hdn 3 2 rfl rfl rfl rfl rfl).symm.trans e_u58
 replace hAA := hI.low' hAA hA0 (hO.ge (⟨rfl, trivial⟩))
 replace hF : Fr w0 w := hF.tr hI.ch (hO.ge (⟨rfl, trivial⟩))
 replace hO := hI.left hdn [(3, ob u58 (.vec w0.heap.size 9 eStr x55))] ⟨rfl, rfl, e_u58, rfl, rfl, trivial⟩
 replace hA := hI.avok
 clear hI
 refine HT.ret ?_
 obtain rfl := Option.some.inj hr
 exact ⟨.inr rfl, [R 2], ⟨rfl, trivial⟩, (own_post (hO.ok 0 _ rfl) hAA h2), hF⟩
 have hr := cnd_f c34 hr
 refine HT.skip ?_
 refine HT.seq ?_
 obtain ⟨x59, q60, hr⟩ := cl_some hr
 refine HT.textR [ob u29 (.vec w0.heap.size 9 eStr (s9 ++ ([(([112] : List UInt8) ++ (subL x21 ((x21.length : Int) - (4 : Int)) (x21.length : Int)))] : List (List UInt8)))), ob (.pointer (some ⟨b1_0, 0, none⟩)) (.box w0.heap.size 51 E_impl_Record p0)] (rR u29 :: ⟨_, true, [], some (.vec w0.heap.size 9 eStr x59), true, fun A => .any⟩ :: ⟨_, true, [3], some (.vec w0.heap.size 9 eStr x59), true, fun A => .any⟩ :: []) (by kernel_rfl) (by kernel_rfl) (Wf.mk' (by kernel_rfl) (ur (ua (ua (UAll.nil)))) (by kernel_rfl) (by kernel_rfl)) hO hA ?_ ?_
 exact OblsR.m h3 <| OblsR.cons (OblR.made _ rfl rfl rfl rfl fun A' R' w' ho hd => by have a0 : R' 70 = u29 := hd.g 0 rfl; have ra0 := (vec_rep (ho.rd 0 _ rfl rfl) (ho.low' hAA hA0 (hO.ge (⟨rfl, ⟨rfl, trivial⟩⟩))) hA0).eq a0; exact made_call0 Tryz.call122 (M_impl_sortedSet_ok (q60 rfl) (hA00.fr ((Nat.le_trans hF.size ho.ch.size))) ra0) (Nat.le_trans hF.size ho.ch.size) (ho.low' hAA hA0 (hO.ge (⟨rfl, ⟨rfl, trivial⟩⟩))) (fun _ _ _ _ _ h => h)) <| OblsR.cons (OblR.took 3 _ _ rfl rfl rfl rfl rfl fun A' R' w' ho hd u hok hav hin hop hds => by exact took_assign (hop _ _ rfl rfl rfl rfl).symm hok hav) <| OblsR.nil
 intro done ρ σ A R w hdn hI
 have z61 := hI.inivR 0 rfl
 have z62 := hI.inivR 1 rfl
 obtain ⟨u63, e_u63⟩ : ∃ u, ρ 4 = u := ⟨_, rfl⟩
 have h2 : R 2 = u63 := (hI.opvR hdn 4 2 rfl rfl rfl rfl rfl).symm.trans e_u63
 replace hAA := hI.low' hAA hA0 (hO.ge (⟨rfl, ⟨rfl, trivial⟩⟩))
 replace hF : Fr w0 w := hF.tr hI.ch (hO.ge (⟨rfl, ⟨rfl, trivial⟩⟩))
 replace hO := hI.left hdn [(4, ob u63 (.vec w0.heap.size 9 eStr x59))] ⟨rfl, rfl, e_u63, rfl, rfl, trivial⟩
 replace hA := hI.avok
 clear hI
 refine HT.ret ?_
 obtain rfl := Option.some.inj hr
 exact ⟨.inr rfl, [R 2], ⟨rfl, trivial⟩, (own_post (hO.ok 0 _ rfl) hAA h2), hF⟩
 have hr := cnd_f c24 hr
 refine HT.skip ?_
 refine HT.seq ?_
 refine HT.seq ?_
 obtain ⟨e64, hr⟩ := ck_some hr
 obtain ⟨x65, q66, hr⟩ := cl_some hr
 refine HT.u hA hF (eR (.pointer (some ⟨b1_0, 3, none⟩)) :: eF (.rep (eSl eStr) A p0.2.2.2) :: eF (.qtr eStr A (gtD p0.2.2.2 (2 : Int))) :: eF (.rep eStr A (gtD p0.2.2.2 (2 : Int))) :: eI x65 :: eI x65 :: []) ?_ ?_
 exact Obls.p (fun R' w' hw hs hd => of_fieldAddr_raw ((hs 1 rfl).trans h1) ff_51_3 Tryz.sizeOf46 (by decide) rfl) <| Obls.p (fun R' w' hw hs hd => (of_load_box ((hO.fr hw).ok 1 _ rfl).1 (hd.g 0 rfl) fl_impl_Record_3 rfl Tryz.isAgg46 Tryz.sizeOf46)) <| Obls.p (fun R' w' hw hs hd => of_indexAddr (hd.g 0 rfl) rfl Tryz.underlying46 Tryz.sizeOf9 e64) <| Obls.p (fun R' w' hw hs hd => (of_load (QRep.ptr (hd.g 0 rfl)) Tryz.isAgg9 Tryz.sizeOf9)) <| Obls.p (fun R' w' hw hs hd => of_call Tryz.call166 (M_impl_ParseYear_ok (q66 rfl) (hA.fr hw.size) (hG0.fr (hF.trans hw)) (hd.g 0 rfl))) <| Obls.a <| Obls.nil
 intro R w hw hs hF' hA hF
 obtain ⟨h1, h3⟩ := k2 hs h1 h3
 have h7 := hF'.r 5 rfl
 replace hO := hO.fr hw
 refine HT.seq ?_
 refine HT.u hA hF (eI x65 :: eB (decide ((0 : Int) < x65)) :: []) ?_ ?_
 exact Obls.m h7 <| Obls.p (fun R' w' hw hs hd => of_gtr (hd.g 0 rfl) rfl) <| Obls.nil
 intro R w hw hs hF' hA hF
 obtain ⟨h1, h3, h7⟩ := k3 hs h1 h3 h7
 have h49 := hF'.r 1 rfl
 replace hO := hO.fr hw
 refine HT.cond (decide ((0 : Int) < x65)) h49 (fun c67 => ?_) (fun c67 => ?_)
 have hr := cnd_t c67 hr
 refine HT.seq ?_
 obtain ⟨e68, hr⟩ := ck_some hr
 obtain ⟨x69, q70, hr⟩ := cl_some hr
 refine HT.u hA hF (eR (.pointer (some ⟨b1_0, 3, none⟩)) :: eF (.rep (eSl eStr) A p0.2.2.2) :: eF (.qtr eStr A (gtD p0.2.2.2 (0 : Int))) :: eF (.rep eStr A (gtD p0.2.2.2 (0 : Int))) :: eF (.rep (eSl eStr) A x69) :: eI (x69.length : Int) :: eI 0 :: []) ?_ ?_
 exact Obls.p (fun R' w' hw hs hd => of_fieldAddr_raw ((hs 1 rfl).trans h1) ff_51_3 Tryz.sizeOf46 (by decide) rfl) <| Obls.p (fun R' w' hw hs hd => (of_load_box ((hO.fr hw).ok 1 _ rfl).1 (hd.g 0 rfl) fl_impl_Record_3 rfl Tryz.isAgg46 Tryz.sizeOf46)) <| Obls.p (fun R' w' hw hs hd => of_indexAddr (hd.g 0 rfl) rfl Tryz.underlying46 Tryz.sizeOf9 e68) <| Obls.p (fun R' w' hw hs hd => (of_load (QRep.ptr (hd.g 0 rfl)) Tryz.isAgg9 Tryz.sizeOf9)) <| Obls.p (fun R' w' hw hs hd => of_call Tryz.call167 (M_impl_Tokens_okR (q70 rfl) (hA.fr hw.size) (hG0.fr (hF.trans hw)) (hd.g 0 rfl))) <| Obls.p (fun R' w' hw hs hd => of_len_sl (aT := #[]) (hd.g 0 rfl) Tryz.underlying46) <| Obls.p (fun R' w' hw hs hd => of_move rfl) <| Obls.nil
 intro R w hw hs hF' hA hF
 obtain ⟨h3, h7⟩ := k2 hs h3 h7
 obtain ⟨u71, h54, f_u71⟩ : ∃ u, R 54 = u ∧ Rep (eSl eStr) A w u x69 := ⟨_, rfl, hF' 4 _ _ rfl rfl rfl⟩
 have h55 := hF'.r 5 rfl
 have h56 := hF'.r 6 rfl
 replace hO := hO.fr hw
 replace hO : IniOK [ob uo_u2 (.vec w0.heap.size 9 eStr s9)] A w := hO.sub [(0, ob uo_u2 (.vec w0.heap.size 9 eStr s9))] ⟨rfl, rfl, trivial⟩
 obtain ⟨rl72, q73, hr⟩ := cl_some hr
 replace q73 := q73 rfl
 refine HT.cut0 (fun R w => ∃ A : Av, ∃ (s74 : (List (List UInt8))) (uo_uo_u2 : Value), rl72 = s74 ∧ AvOK A w ∧ Fr w0 w ∧ (∀ b o, A0 b o → A b o) ∧ IniOK [ob uo_uo_u2 (.vec w0.heap.size 9 eStr s74)] A w ∧ R 3 = uo_uo_u2) ?_ ?_
 refine HT.block ?_
 refine HT.loop (fun k R w => ∃ A : Av, ∃ (y75 : Int) (y76 : List (List UInt8)) (ul_uo_u2 : Value), M_impl_blockKeys_L2 fu x65 x69 k y75 y76 = some rl72 ∧ AvOK A w ∧ Fr w0 w ∧ (∀ b o, A0 b o → A b o) ∧ IniOK [ob ul_uo_u2 (.vec w0.heap.size 9 eStr y76)] A w ∧ R 3 = ul_uo_u2 ∧ R 7 = .int .i64 x65 ∧ R 54 = u71 ∧ R 55 = .int .i64 (x69.length : Int) ∧ R 56 = .int .i64 y75 ∧ Rep (eSl eStr) A w u71 x69) fu ⟨_, _, _, uo_u2, q73, hA, hF, hAA, hO, h3, h7, h54, h55, h56, f_u71⟩ ?_
 have hr0 := hr; clear hr q73
 rintro k R w ⟨A, y75, y76, ul_uo_u2, hr, hA, hF, hAA, hO, h3, h7, h54, h55, h56, f_u71⟩
 rcases k with _ | k
 cases (show none = some _ from hr)
 rw [M_impl_blockKeys_L2] at hr
 refine HT.seq ?_
 refine HT.u hA hF (eB (decide (y75 < (x69.length : Int))) :: []) ?_ ?_
 exact Obls.p (fun R' w' hw hs hd => of_lss ((hs 56 rfl).trans h56) ((hs 55 rfl).trans h55)) <| Obls.nil
 intro R w hw hs hF' hA hF
 obtain ⟨h3, h7, h54, h55, h56⟩ := k5 hs h3 h7 h54 h55 h56
 have h57 := hF'.r 0 rfl
 replace f_u71 := f_u71.fr hw
 replace hO := hO.fr hw
 refine HT.seq ?_
 refine HT.cond (decide (y75 < (x69.length : Int))) h57 (fun c77 => ?_) (fun c77 => ?_)
 have hr := cnd_t c77 hr
 refine HT.skip ?_
 refine HT.seq ?_
 refine HT.block ?_
 refine HT.seq ?_
 obtain ⟨e78, hr⟩ := ck_some hr
 refine HT.u hA hF (eF (.qtr eStr A (gtD x69 y75)) :: eF (.rep eStr A (gtD x69 y75)) :: eF (.rep eStr A (gtD x69 y75)) :: []) ?_ ?_
 exact Obls.p (fun R' w' hw hs hd => of_indexAddr ((f_u71.fr hw).eq ((hs 54 rfl).trans h54)) ((hs 56 rfl).trans h56) Tryz.underlying46 Tryz.sizeOf9 e78) <| Obls.p (fun R' w' hw hs hd => (of_load (QRep.ptr (hd.g 0 rfl)) Tryz.isAgg9 Tryz.sizeOf9)) <| Obls.p (fun R' w' hw hs hd => of_assign (hd.g 0 rfl)) <| Obls.nil
 intro R w hw hs hF' hA hF
 obtain ⟨h3, h7, h54, h55, h56⟩ := k5 hs h3 h7 h54 h55 h56
 obtain ⟨u79, h9, f_u79⟩ : ∃ u, R 9 = u ∧ Rep eStr A w u (gtD x69 y75) := ⟨_, rfl, hF' 2 _ _ rfl rfl rfl⟩
 replace f_u71 := f_u71.fr hw
 replace hO := hO.fr hw
 obtain ⟨x80, q81, hr⟩ := cl_some hr
 obtain ⟨e82, hr⟩ := ck_some hr
 obtain ⟨e83, hr⟩ := ck_some hr
 obtain ⟨e84, hr⟩ := ck_some hr
 obtain ⟨e85, hr⟩ := ck_some hr
 refine HT.drawR [ob ul_uo_u2 (.vec w0.heap.size 9 eStr y76)] (rR ul_uo_u2 :: rI x65 :: (rF fun A => .rep eStr A x80) :: (rF fun A => .rep eStr A (([121] : List UInt8) ++ x80)) :: rR u79 :: (rF fun A => .rep eStr A (subL (gtD x69 y75) 0 (1 : Int))) :: (rF fun A => .rep eStr A ((([121] : List UInt8) ++ x80) ++ (subL (gtD x69 y75) 0 (1 : Int)))) :: (rF fun A => .rep (eSl eStr) A ([((([121] : List UInt8) ++ x80) ++ (subL (gtD x69 y75) 0 (1 : Int)))] : List (List UInt8))) :: ⟨_, true, [0], some (.vec w0.heap.size 9 eStr (y76 ++ ([((([121] : List UInt8) ++ x80) ++ (subL (gtD x69 y75) 0 (1 : Int)))] : List (List UInt8)))), true, fun A => .any⟩ :: ⟨_, true, [9], some (.vec w0.heap.size 9 eStr (y76 ++ ([((([121] : List UInt8) ++ x80) ++ (subL (gtD x69 y75) 0 (1 : Int)))] : List (List UInt8)))), true, fun A => .any⟩ :: []) (by kernel_rfl) (by kernel_rfl) (by kernel_rfl) (Wf.mk' (by kernel_rfl) (ur (ur (up (up (ur (up (up (up (ua (ua (UAll.nil))))))))))) (by kernel_rfl) (by kernel_rfl)) hO hA ?_ ?_
 exact OblsR.m h3 <| OblsR.m h7 <| OblsR.p (fun A' R' w' ho hd => of_call Tryz.call86 (M_impl_FormatInt_ok (q81 rfl) ho.av (hG0.fr (hF.tr ho.ch (hO.ge (⟨rfl, trivial⟩)))) (hd.g 0 rfl))) <| OblsR.p (fun A' R' w' ho hd => of_cat ⟨_, rfl, ⟨_, rfl, rfl, by decide⟩⟩ (hd.g 0 rfl) e82) <| OblsR.m h9 <| OblsR.p (fun A' R' w' ho hd => of_slice_str_hi ((f_u79.stp ho.stp).eq (hd.g 0 rfl)) rfl Tryz.underlying9  e83) <| OblsR.p (fun A' R' w' ho hd => of_cat (hd.g 0 rfl) (hd.g 1 rfl) e84) <| OblsR.p (fun A' R' w' ho hd => of_build [_] (E := eStr) ⟨(hd.g 0 rfl), trivial⟩ Tryz.underlying46 Tryz.sizeOf9 Tryz.zeroValue9 rfl rfl rfl ho.av) <| OblsR.cons (OblR.took 0 _ _ rfl rfl rfl rfl rfl fun A' R' w' ho hd u hok hav hin hop hds => by have a0 : R' 60 = ul_uo_u2 := hd.g 0 rfl; have a1 : Rep (eSl eStr) A' w' (R' 67) ([((([121] : List UInt8) ++ x80) ++ (subL (gtD x69 y75) 0 (1 : Int)))] : List (List UInt8)) := hd.g 1 rfl; exact took_append (a0.trans (hin _ rfl).symm) hok hav (Nat.le_trans hF.size ho.ch.size) a1 Tryz.underlying46 el_9 e85) <| OblsR.cons (OblR.took 9 _ _ rfl rfl rfl rfl rfl fun A' R' w' ho hd u hok hav hin hop hds => by exact took_assign (hop _ _ rfl rfl rfl rfl).symm hok hav) <| OblsR.nil
 intro done ρ σ A R w hdn hI
 obtain ⟨h7, h54, h55, h56⟩ := k4 hI.rg h7 h54 h55 h56
 obtain ⟨u86, e_u86⟩ : ∃ u, ρ 10 = u := ⟨_, rfl⟩
 have h3 : R 3 = u86 := (hI.opvR hdn 10 9 rfl rfl rfl rfl rfl).symm.trans e_u86
 replace f_u71 := f_u71.stp hI.stp
 replace hAA := hI.low' hAA hA0 (hO.ge (⟨rfl, trivial⟩))
 replace hF : Fr w0 w := hF.tr hI.ch (hO.ge (⟨rfl, trivial⟩))
 replace hO := hI.left hdn [(10, ob u86 (.vec w0.heap.size 9 eStr (y76 ++ ([((([121] : List UInt8) ++ x80) ++ (subL (gtD x69 y75) 0 (1 : Int)))] : List (List UInt8)))))] ⟨rfl, rfl, e_u86, rfl, rfl, trivial⟩
 replace hA := hI.avok
 clear hI
 obtain ⟨e87, hr⟩ := ck_some hr
 refine HT.u hA hF (eI (y75 + (1 : Int)) :: eI (y75 + (1 : Int)) :: []) ?_ ?_
 exact Obls.p (fun R' w' hw hs hd => of_add ((hs 56 rfl).trans h56) rfl e87) <| Obls.v <| Obls.nil
 intro R w hw hs hF' hA hF
 obtain ⟨h3, h7, h54, h55⟩ := k4 hs h3 h7 h54 h55
 have h56 := hF'.r 1 rfl
 replace f_u71 := f_u71.fr hw
 replace hO := hO.fr hw
 exact Exists.intro k (And.intro (Nat.lt_succ_self k) ⟨_, _, _, u86, hr, hA, hF, hAA, hO, h3, h7, h54, h55, h56, f_u71⟩)
 have hr := cnd_f c77 hr
 refine HT.exit ?_
 obtain rfl := Option.some.inj hr
 exact Exists.intro _ ⟨_, ul_uo_u2, rfl, hA, hF, hAA, hO, h3⟩
 rintro R w ⟨A, s74, uo_uo_u2, es, hA, hF, hAA, hO, h3⟩
 obtain rfl := es.symm
 refine HT.seq ?_
 obtain ⟨x88, q89, hr⟩ := cl_some hr
 refine HT.textR [ob uo_uo_u2 (.vec w0.heap.size 9 eStr s74)] (rR uo_uo_u2 :: ⟨_, true, [], some (.vec w0.heap.size 9 eStr x88), true, fun A => .any⟩ :: ⟨_, true, [2], some (.vec w0.heap.size 9 eStr x88), true, fun A => .any⟩ :: []) (by kernel_rfl) (by kernel_rfl) (Wf.mk' (by kernel_rfl) (ur (ua (ua (UAll.nil)))) (by kernel_rfl) (by kernel_rfl)) hO hA ?_ ?_
 exact OblsR.m h3 <| OblsR.cons (OblR.made _ rfl rfl rfl rfl fun A' R' w' ho hd => by have a0 : R' 70 = uo_uo_u2 := hd.g 0 rfl; have ra0 := (vec_rep (ho.rd 0 _ rfl rfl) (ho.low' hAA hA0 (hO.ge (⟨rfl, trivial⟩))) hA0).eq a0; exact made_call0 Tryz.call122 (M_impl_sortedSet_ok (q89 rfl) (hA00.fr ((Nat.le_trans hF.size ho.ch.size))) ra0) (Nat.le_trans hF.size ho.ch.size) (ho.low' hAA hA0 (hO.ge (⟨rfl, trivial⟩))) (fun _ _ _ _ _ h => h)) <| OblsR.cons (OblR.took 2 _ _ rfl rfl rfl rfl rfl fun A' R' w' ho hd u hok hav hin hop hds => by exact took_assign (hop _ _ rfl rfl rfl rfl).symm hok hav) <| OblsR.nil
 intro done ρ σ A R w hdn hI
 have z90 := hI.inivR 0 rfl
 obtain ⟨u91, e_u91⟩ : ∃ u, ρ 3 = u := ⟨_, rfl⟩
 have h2 : R 2 = u91 := (hI.opvR hdn 3 2 rfl rfl rfl rfl rfl).symm.trans e_u91
 replace hAA := hI.low' hAA hA0 (hO.ge (⟨rfl, trivial⟩))
 replace hF : Fr w0 w := hF.tr hI.ch (hO.ge (⟨rfl, trivial⟩))
 replace hO := hI.left hdn [(3, ob u91 (.vec w0.heap.size 9 eStr x88))] ⟨rfl, rfl, e_u91, rfl, rfl, trivial⟩
 replace hA := hI.avok
 clear hI
 refine HT.ret ?_
 obtain rfl := Option.some.inj hr
 exact ⟨.inr rfl, [R 2], ⟨rfl, trivial⟩, (own_post (hO.ok 0 _ rfl) hAA h2), hF⟩
 have hr := cnd_f c67 hr
 refine HT.skip ?_
 refine HT.seq ?_
 obtain ⟨x92, q93, hr⟩ := cl_some hr
 refine HT.textR [ob uo_u2 (.vec w0.heap.size 9 eStr s9), ob (.pointer (some ⟨b1_0, 0, none⟩)) (.box w0.heap.size 51 E_impl_Record p0)] (rR uo_u2 :: ⟨_, true, [], some (.vec w0.heap.size 9 eStr x92), true, fun A => .any⟩ :: ⟨_, true, [3], some (.vec w0.heap.size 9 eStr x92), true, fun A => .any⟩ :: []) (by kernel_rfl) (by kernel_rfl) (Wf.mk' (by kernel_rfl) (ur (ua (ua (UAll.nil)))) (by kernel_rfl) (by kernel_rfl)) hO hA ?_ ?_
 exact OblsR.m h3 <| OblsR.cons (OblR.made _ rfl rfl rfl rfl fun A' R' w' ho hd => by have a0 : R' 70 = uo_u2 := hd.g 0 rfl; have ra0 := (vec_rep (ho.rd 0 _ rfl rfl) (ho.low' hAA hA0 (hO.ge (⟨rfl, ⟨rfl, trivial⟩⟩))) hA0).eq a0; exact made_call0 Tryz.call122 (M_impl_sortedSet_ok (q93 rfl) (hA00.fr ((Nat.le_trans hF.size ho.ch.size))) ra0) (Nat.le_trans hF.size ho.ch.size) (ho.low' hAA hA0 (hO.ge (⟨rfl, ⟨rfl, trivial⟩⟩))) (fun _ _ _ _ _ h => h)) <| OblsR.cons (OblR.took 3 _ _ rfl rfl rfl rfl rfl fun A' R' w' ho hd u hok hav hin hop hds => by exact took_assign (hop _ _ rfl rfl rfl rfl).symm hok hav) <| OblsR.nil
 intro done ρ σ A R w hdn hI
 have z94 := hI.inivR 0 rfl
 have z95 := hI.inivR 1 rfl
 obtain ⟨u96, e_u96⟩ : ∃ u, ρ 4 = u := ⟨_, rfl⟩
 have h2 : R 2 = u96 := (hI.opvR hdn 4 2 rfl rfl rfl rfl rfl).symm.trans e_u96
 replace hAA := hI.low' hAA hA0 (hO.ge (⟨rfl, ⟨rfl, trivial⟩⟩))
 replace hF : Fr w0 w := hF.tr hI.ch (hO.ge (⟨rfl, ⟨rfl, trivial⟩⟩))
 replace hO := hI.left hdn [(4, ob u96 (.vec w0.heap.size 9 eStr x92))] ⟨rfl, rfl, e_u96, rfl, rfl, trivial⟩
 replace hA := hI.avok
 clear hI
 refine HT.ret ?_
 obtain rfl := Option.some.inj hr
 exact ⟨.inr rfl, [R 2], ⟨rfl, trivial⟩, (own_post (hO.ok 0 _ rfl) hAA h2), hF⟩
def M_impl_BlockKeys (fu : Nat) (p0 : T_impl_Record) : Option (List (List UInt8)) :=
 cl true (M_impl_IsValidRecord fu p0) fun x2 =>
 bif (!x2) then (
 some ([] : List (List UInt8))
 ) else (
 cl true (M_impl_blockKeys fu p0) fun x6 =>
 some x6
 )
theorem M_impl_BlockKeys_ok {fu : Nat} {A0 : Av} {p0 : T_impl_Record} {r : List (List UInt8)} (hr : M_impl_BlockKeys fu p0 = some r) {w : World} {v0 : Value} (hA : AvOK A0 w) (hG : GTab w) (h0 : Rep E_impl_Record A0 w v0 p0) :
 Calls Tryz.prog 34 #[v0] w fun e w' => ∃ v, e = .returned v ∧ ((Res.vec w.heap.size 9 eStr r).ok (addA A0 v) v w' ∧ Fr w w') := by
 unfold M_impl_BlockKeys at hr
 obtain ⟨w0, hw0⟩ : ∃ w0, w0 = w := ⟨_, rfl⟩
 have hF : Fr w0 w := hw0 ▸ Fr.refl _
 have hA0 : ∀ b o, A0 b o → b < w0.heap.size := fun b o h => hw0 ▸ hA b o h
 have hA00 : AvOK A0 w0 := hA0
 rw [show w.heap.size = w0.heap.size from hw0 ▸ rfl]
 rw [show Fr w = Fr w0 from hw0 ▸ rfl]
 have hG0 : GTab w0 := hw0 ▸ hG
 clear hw0
 obtain ⟨A, hAe⟩ : ∃ A, A = A0 := ⟨_, rfl⟩
 have hAA : ∀ b o, A0 b o → A b o := fun b o h => hAe ▸ h
 replace hA : AvOK A w := hAe ▸ hA
 have hO : IniOK [] A w := IniOK.nil
 refine calls_of_HT2 [.tmp 2] Tryz.func34 Tryz.ntmps34 (by decide) rfl rfl (Nat.le_of_ble_eq_true rfl) ?_
 intro R hR
 have f_v0 : Rep E_impl_Record A w v0 p0 := hAe ▸ h0
 replace h0 : R 0 = v0 := hR 0 _ rfl
 clear hR hAe
 refine HT.seq ?_
 refine HT.textR [] (⟨_, true, [], some (.box w0.heap.size 51 E_impl_Record p0), true, fun A => .any⟩ :: rA :: []) (by kernel_rfl) (by kernel_rfl) (Wf.mk' (by kernel_rfl) (ua (ua (UAll.nil))) (by kernel_rfl) (by kernel_rfl)) hO hA ?_ ?_
 exact OblsR.cons (OblR.made _ rfl rfl rfl rfl fun A' R' w' ho hd => by have a0 : R' 0 = v0 := (ho.old 0 rfl).trans h0; have ra0 := (f_v0.stp ho.stp).eq a0; exact made_box ra0 (Nat.le_trans hF.size ho.ch.size)) <| OblsR.p (fun A' R' w' ho hd => of_assign trivial) <| OblsR.nil
 intro done ρ σ A R w hdn hI
 obtain ⟨b1_0, e_b1_0⟩ := hI.boxv hdn 0 rfl rfl
 have h1 : R 1 = (.pointer (some ⟨b1_0, 0, none⟩)) := (hI.opvR hdn 0 0 rfl rfl rfl rfl rfl).symm.trans e_b1_0
 replace hAA := hI.low' hAA hA0 (hO.ge (trivial))
 replace hF : Fr w0 w := hF.tr hI.ch (hO.ge (trivial))
 replace hO := hI.left hdn [(0, ob (.pointer (some ⟨b1_0, 0, none⟩)) (.box w0.heap.size 51 E_impl_Record p0))] ⟨rfl, rfl, e_b1_0, rfl, rfl, trivial⟩
 replace hA := hI.avok
 clear hI
 refine HT.seq ?_
 refine HT.seq ?_
 obtain ⟨x2, q3, hr⟩ := cl_some hr
 refine HT.u hA hF (eF (.rep E_impl_Record A p0) :: eB x2 :: eB (!x2) :: []) ?_ ?_
 exact Obls.p (fun R' w' hw hs hd => (of_load_box ((hO.fr hw).ok 0 _ rfl).1 ((hs 1 rfl).trans h1) (Fld.id _) rfl Tryz.isAgg51 Tryz.sizeOf51)) <| Obls.p (fun R' w' hw hs hd => of_call Tryz.call113 (M_impl_IsValidRecord_ok (q3 rfl) (hA.fr hw.size) (hd.g 0 rfl))) <| Obls.p (fun R' w' hw hs hd => of_not (hd.g 0 rfl)) <| Obls.nil
 intro R w hw hs hF' hA hF
 replace h1 := k1 hs h1
 have h5 := hF'.r 2 rfl
 replace hO := hO.fr hw
 refine HT.cond (!x2) h5 (fun c4 => ?_) (fun c4 => ?_)
 have hr := cnd_t c4 hr
 refine HT.seq ?_
 refine HT.u hA hF (eR (.slice none 0 0) :: []) ?_ ?_
 exact Obls.p (fun R' w' hw hs hd => of_assign rfl) <| Obls.nil
 intro R w hw hs hF' hA hF
 obtain ⟨u5, n_u5⟩ : ∃ u, u = Value.slice none 0 0 := ⟨_, rfl⟩
 have h2 : R 2 = u5 := (hF' 0 _ _ rfl rfl rfl).trans n_u5.symm
 replace hO := hO.fr hw
 replace hO : IniOK [] A w := hO.sub [] trivial
 replace hO := hO.nilcons (u := u5) n_u5 w0.heap.size 9 eStr
 refine HT.ret ?_
 obtain rfl := Option.some.inj hr
 exact ⟨.inr rfl, [R 2], ⟨rfl, trivial⟩, (own_post (hO.ok 0 _ rfl) hAA h2), hF⟩
 have hr := cnd_f c4 hr
 refine HT.skip ?_
 refine HT.seq ?_
 obtain ⟨x6, q7, hr⟩ := cl_some hr
 refine HT.textR [ob (.pointer (some ⟨b1_0, 0, none⟩)) (.box w0.heap.size 51 E_impl_Record p0)] ((rF fun A => .rep E_impl_Record A p0) :: ⟨_, true, [], some (.vec w0.heap.size 9 eStr x6), true, fun A => .any⟩ :: ⟨_, true, [2], some (.vec w0.heap.size 9 eStr x6), true, fun A => .any⟩ :: []) (by kernel_rfl) (by kernel_rfl) (Wf.mk' (by kernel_rfl) (up (ua (ua (UAll.nil)))) (by kernel_rfl) (by kernel_rfl)) hO hA ?_ ?_
 exact OblsR.p (fun A' R' w' ho hd => (of_load_box (ho.rd 0 _ rfl rfl) ((ho.old 1 rfl).trans h1) (Fld.id _) rfl Tryz.isAgg51 Tryz.sizeOf51)) <| OblsR.cons (OblR.made _ rfl rfl rfl rfl fun A' R' w' ho hd => by have a0 : Rep E_impl_Record A' w' (R' 6) p0 := hd.g 0 rfl; exact made_call Tryz.call114 (M_impl_blockKeys_ok (q7 rfl) ho.av (hG0.fr (hF.tr ho.ch (hO.ge (⟨rfl, trivial⟩)))) a0) (Nat.le_trans hF.size ho.ch.size)) <| OblsR.cons (OblR.took 2 _ _ rfl rfl rfl rfl rfl fun A' R' w' ho hd u hok hav hin hop hds => by exact took_assign (hop _ _ rfl rfl rfl rfl).symm hok hav) <| OblsR.nil
 intro done ρ σ A R w hdn hI
 have z8 := hI.inivR 0 rfl
 obtain ⟨u9, e_u9⟩ : ∃ u, ρ 3 = u := ⟨_, rfl⟩
 have h2 : R 2 = u9 := (hI.opvR hdn 3 2 rfl rfl rfl rfl rfl).symm.trans e_u9
 replace hAA := hI.low' hAA hA0 (hO.ge (⟨rfl, trivial⟩))
 replace hF : Fr w0 w := hF.tr hI.ch (hO.ge (⟨rfl, trivial⟩))
 replace hO := hI.left hdn [(3, ob u9 (.vec w0.heap.size 9 eStr x6))] ⟨rfl, rfl, e_u9, rfl, rfl, trivial⟩
 replace hA := hI.avok
 clear hI
 refine HT.ret ?_
 obtain rfl := Option.some.inj hr
 exact ⟨.inr rfl, [R 2], ⟨rfl, trivial⟩, (own_post (hO.ok 0 _ rfl) hAA h2), hF⟩
theorem M_impl_BlockKeys_okR {fu : Nat} {A0 : Av} {p0 : T_impl_Record} {r : List (List UInt8)} (hr : M_impl_BlockKeys fu p0 = some r) {w : World} {v0 : Value} (hA : AvOK A0 w) (hG : GTab w) (h0 : Rep E_impl_Record A0 w v0 p0) :
 Calls Tryz.prog 34 #[v0] w fun e w' => ∃ v, e = .returned v ∧ (Rep (eSl eStr) A0 w' v r ∧ Fr w w') := by
 refine Calls.mono (M_impl_BlockKeys_ok hr hA hG h0) ?_
 rintro e w' ⟨v, he, hv, hf⟩
 exact ⟨v, he, vec_rep hv (fun b o h => .inl h) hA, hf⟩
def M_laws_eqStringS_L0 (fu : Nat) (p0 : List (List UInt8)) (p1 : List (List UInt8)) : Nat → Int → Option (Ex Bool Unit)
 | 0, _ => none
 | k + 1, y5 =>
 bif (decide (y5 < (p0.length : Int))) then (
 ck (inR y5 p0.length) <|
 ck (inR y5 p1.length) <|
 bif (!((gtD p0 y5) == (gtD p1 y5))) then (
 some (Ex.ret false)
 ) else (
 ck (i64B (y5 + 1)) <|
 M_laws_eqStringS_L0 fu p0 p1 k (y5 + 1)
 )
 ) else (
 some (Ex.go ())
 )
def M_laws_eqStringS (fu : Nat) (p0 : List (List UInt8)) (p1 : List (List UInt8)) : Option Bool :=
 bif ((p0.length : Int) != (p1.length : Int)) then (
 some false
 ) else (
 cl true (M_laws_eqStringS_L0 fu p0 p1 fu 0) fun rl2 =>
 exM rl2 (fun r => some r) fun s4 =>
 some true
 )
theorem M_laws_eqStringS_ok {fu : Nat} {A : Av} {p0 : List (List UInt8)} {p1 : List (List UInt8)} {r : Bool} (hr : M_laws_eqStringS fu p0 p1 = some r) {w : World} {v0 : Value} {v1 : Value} (hA : AvOK A w) (h0 : Rep (eSl eStr) A w v0 p0) (h1 : Rep (eSl eStr) A w v1 p1) :
 Calls Tryz.prog 35 #[v0, v1] w fun e w' => ∃ v, e = .returned v ∧ (v = .bool r ∧ Fr w w') := by
 unfold M_laws_eqStringS at hr
 obtain ⟨w0, hw0⟩ : ∃ w0, w0 = w := ⟨_, rfl⟩
 have hF : Fr w0 w := hw0 ▸ Fr.refl _
 rw [show Fr w = Fr w0 from hw0 ▸ rfl]
 clear hw0
 refine calls_of_HT2 [.tmp 4] Tryz.func35 Tryz.ntmps35 (by decide) rfl rfl (Nat.le_of_ble_eq_true rfl) ?_
 intro R hR
 have f_v0 := h0
 replace h0 : R 0 = v0 := hR 0 _ rfl
 have f_v1 := h1
 replace h1 : R 1 = v1 := hR 1 _ rfl
 clear hR
 refine HT.seq ?_
 refine HT.u hA hF (eB false :: []) ?_ ?_
 exact Obls.p (fun R' w' hw hs hd => of_assign rfl) <| Obls.nil
 intro R w hw hs hF' hA hF
 obtain ⟨h0, h1⟩ := k2 hs h0 h1
 replace f_v0 := f_v0.fr hw
 replace f_v1 := f_v1.fr hw
 refine HT.seq ?_
 refine HT.seq ?_
 refine HT.u hA hF (eR v0 :: eI (p0.length : Int) :: eR v1 :: eI (p1.length : Int) :: eB ((p0.length : Int) != (p1.length : Int)) :: []) ?_ ?_
 exact Obls.m h0 <| Obls.p (fun R' w' hw hs hd => of_len_sl (aT := #[]) ((f_v0.fr hw).eq (hd.g 0 rfl)) Tryz.underlying46) <| Obls.m h1 <| Obls.p (fun R' w' hw hs hd => of_len_sl (aT := #[]) ((f_v1.fr hw).eq (hd.g 0 rfl)) Tryz.underlying46) <| Obls.p (fun R' w' hw hs hd => of_neq (hd.g 0 rfl) (hd.g 1 rfl)) <| Obls.nil
 intro R w hw hs hF' hA hF
 obtain ⟨h0, h1⟩ := k2 hs h0 h1
 have h10 := hF'.r 4 rfl
 replace f_v0 := f_v0.fr hw
 replace f_v1 := f_v1.fr hw
 refine HT.cond ((p0.length : Int) != (p1.length : Int)) h10 (fun c1 => ?_) (fun c1 => ?_)
 have hr := cnd_t c1 hr
 refine HT.seq ?_
 refine HT.u hA hF (eB false :: []) ?_ ?_
 exact Obls.p (fun R' w' hw hs hd => of_assign rfl) <| Obls.nil
 intro R w hw hs hF' hA hF
 have h4 := hF'.r 0 rfl
 refine HT.ret ?_
 obtain rfl := Option.some.inj hr
 exact ⟨.inr rfl, [R 4], ⟨rfl, trivial⟩, h4, hF⟩
 have hr := cnd_f c1 hr
 refine HT.skip ?_
 refine HT.seq ?_
 refine HT.seq ?_
 refine HT.u hA hF (eI 0 :: []) ?_ ?_
 exact Obls.p (fun R' w' hw hs hd => of_assign rfl) <| Obls.nil
 intro R w hw hs hF' hA hF
 obtain ⟨h0, h1⟩ := k2 hs h0 h1
 have h5 := hF'.r 0 rfl
 replace f_v0 := f_v0.fr hw
 replace f_v1 := f_v1.fr hw
 obtain ⟨rl2, q3, hr⟩ := cl_some hr
 replace q3 := q3 rfl
 refine HT.cut0 (fun R w => ∃ (s4 : Unit), rl2 = Ex.go s4 ∧ AvOK A w ∧ Fr w0 w) ?_ ?_
 refine HT.block ?_
 refine HT.loop (fun k R w => ∃ (y5 : Int), M_laws_eqStringS_L0 fu p0 p1 k y5 = some rl2 ∧ AvOK A w ∧ Fr w0 w ∧ R 0 = v0 ∧ R 1 = v1 ∧ R 5 = .int .i64 y5 ∧ Rep (eSl eStr) A w v0 p0 ∧ Rep (eSl eStr) A w v1 p1) fu ⟨_, q3, hA, hF, h0, h1, h5, f_v0, f_v1⟩ ?_
 have hr0 := hr; clear hr q3
 rintro k R w ⟨y5, hr, hA, hF, h0, h1, h5, f_v0, f_v1⟩
 rcases k with _ | k
 cases (show none = some _ from hr)
 rw [M_laws_eqStringS_L0] at hr
 refine HT.seq ?_
 refine HT.seq ?_
 refine HT.u hA hF (eI y5 :: eR v0 :: eI (p0.length : Int) :: eB (decide (y5 < (p0.length : Int))) :: []) ?_ ?_
 exact Obls.m h5 <| Obls.m h0 <| Obls.p (fun R' w' hw hs hd => of_len_sl (aT := #[]) ((f_v0.fr hw).eq (hd.g 0 rfl)) Tryz.underlying46) <| Obls.p (fun R' w' hw hs hd => of_lss (hd.g 0 rfl) (hd.g 1 rfl)) <| Obls.nil
 intro R w hw hs hF' hA hF
 obtain ⟨h0, h1, h5⟩ := k3 hs h0 h1 h5
 have h14 := hF'.r 3 rfl
 replace f_v0 := f_v0.fr hw
 replace f_v1 := f_v1.fr hw
 refine HT.cond (decide (y5 < (p0.length : Int))) h14 (fun c6 => ?_) (fun c6 => ?_)
 have hr := cnd_t c6 hr
 refine HT.skip ?_
 refine HT.seq ?_
 refine HT.block ?_
 refine HT.seq ?_
 obtain ⟨e7, hr⟩ := ck_some hr
 obtain ⟨e8, hr⟩ := ck_some hr
 refine HT.draw (by kernel_rfl) (l := eR v0 :: eI y5 :: eF (.qtr eStr A (gtD p0 y5)) :: eF (.rep eStr A (gtD p0 y5)) :: eR v1 :: eI y5 :: eF (.qtr eStr A (gtD p1 y5)) :: eF (.rep eStr A (gtD p1 y5)) :: eB (!((gtD p0 y5) == (gtD p1 y5))) :: []) (tl := []) (by kernel_rfl) (by kernel_rfl) (by kernel_rfl) (by kernel_rfl) ?_ ?_
 exact Obls.m h0 <| Obls.m h5 <| Obls.p (fun R' w' hw hs hd => of_indexAddr ((f_v0.fr hw).eq (hd.g 0 rfl)) (hd.g 1 rfl) Tryz.underlying46 Tryz.sizeOf9 e7) <| Obls.p (fun R' w' hw hs hd => (of_load (QRep.ptr (hd.g 0 rfl)) Tryz.isAgg9 Tryz.sizeOf9)) <| Obls.m h1 <| Obls.m h5 <| Obls.p (fun R' w' hw hs hd => of_indexAddr ((f_v1.fr hw).eq (hd.g 0 rfl)) (hd.g 1 rfl) Tryz.underlying46 Tryz.sizeOf9 e8) <| Obls.p (fun R' w' hw hs hd => (of_load (QRep.ptr (hd.g 0 rfl)) Tryz.isAgg9 Tryz.sizeOf9)) <| Obls.p (fun R' w' hw hs hd => of_sneq (hd.g 0 rfl) (hd.g 1 rfl)) <| Obls.nil
 intro R w hw hs hF'
 obtain ⟨h0, h1, h5⟩ := k3 hs h0 h1 h5
 have h25 := hF'.r 8 rfl
 replace f_v0 := f_v0.fr hw
 replace f_v1 := f_v1.fr hw
 replace hA := hA.fr hw.size
 replace hF := hF.trans hw
 refine HT.cond (!((gtD p0 y5) == (gtD p1 y5))) h25 (fun c9 => ?_) (fun c9 => ?_)
 have hr := cnd_t c9 hr
 refine HT.seq ?_
 refine HT.u hA hF (eB false :: []) ?_ ?_
 exact Obls.p (fun R' w' hw hs hd => of_assign rfl) <| Obls.nil
 intro R w hw hs hF' hA hF
 have h4 := hF'.r 0 rfl
 refine HT.ret ?_
 obtain rfl := Option.some.inj hr
 have hr := hr0
 replace hr : some _ = some _ := hr
 obtain rfl := Option.some.inj hr
 exact ⟨.inr rfl, [R 4], ⟨rfl, trivial⟩, h4, hF⟩
 have hr := cnd_f c9 hr
 refine HT.skip ?_
 obtain ⟨e10, hr⟩ := ck_some hr
 refine HT.u hA hF (eI y5 :: eI (y5 + (1 : Int)) :: eI (y5 + (1 : Int)) :: []) ?_ ?_
 exact Obls.m h5 <| Obls.p (fun R' w' hw hs hd => of_add (hd.g 0 rfl) rfl e10) <| Obls.a <| Obls.nil
 intro R w hw hs hF' hA hF
 obtain ⟨h0, h1⟩ := k2 hs h0 h1
 have h5 := hF'.r 2 rfl
 replace f_v0 := f_v0.fr hw
 replace f_v1 := f_v1.fr hw
 exact Exists.intro k (And.intro (Nat.lt_succ_self k) ⟨_, hr, hA, hF, h0, h1, h5, f_v0, f_v1⟩)
 have hr := cnd_f c6 hr
 refine HT.exit ?_
 obtain rfl := Option.some.inj hr
 exact Exists.intro _ ⟨rfl, hA, hF⟩
 rintro R w ⟨s4, rfl, hA, hF⟩
 have hr := exM_go hr
 refine HT.seq ?_
 refine HT.u hA hF (eB true :: []) ?_ ?_
 exact Obls.p (fun R' w' hw hs hd => of_assign rfl) <| Obls.nil
 intro R w hw hs hF' hA hF
 have h4 := hF'.r 0 rfl
 refine HT.ret ?_
 obtain rfl := Option.some.inj hr
 exact ⟨.inr rfl, [R 4], ⟨rfl, trivial⟩, h4, hF⟩
def M_laws_eqRecord (fu : Nat) (p0 : T_impl_Record) (p1 : T_impl_Record) : Option Bool :=
 bif (p0.1 != p1.1) then (
 some false
 ) else (
 bif (p0.2.1 != p1.2.1) then (
 some false
 ) else (
 bif (p0.2.2.1 != p1.2.2.1) then (
 some false
 ) else (
 cl true (M_laws_eqStringS fu p0.2.2.2 p1.2.2.2) fun x6 =>
 bif (!x6) then (
 some false
 ) else (
 some true
 )
 )
 )
 )
theorem M_laws_eqRecord_ok {fu : Nat} {A0 : Av} {p0 : T_impl_Record} {p1 : T_impl_Record} {r : Bool} (hr : M_laws_eqRecord fu p0 p1 = some r) {w : World} {v0 : Value} {v1 : Value} (hA : AvOK A0 w) (h0 : Rep E_impl_Record A0 w v0 p0) (h1 : Rep E_impl_Record A0 w v1 p1) :
 Calls Tryz.prog 36 #[v0, v1] w fun e w' => ∃ v, e = .returned v ∧ (v = .bool r ∧ Fr w w') := by
 unfold M_laws_eqRecord at hr
 obtain ⟨w0, hw0⟩ : ∃ w0, w0 = w := ⟨_, rfl⟩
 have hF : Fr w0 w := hw0 ▸ Fr.refl _
 have hA0 : ∀ b o, A0 b o → b < w0.heap.size := fun b o h => hw0 ▸ hA b o h
 have hA00 : AvOK A0 w0 := hA0
 rw [show Fr w = Fr w0 from hw0 ▸ rfl]
 clear hw0
 obtain ⟨A, hAe⟩ : ∃ A, A = A0 := ⟨_, rfl⟩
 have hAA : ∀ b o, A0 b o → A b o := fun b o h => hAe ▸ h
 replace hA : AvOK A w := hAe ▸ hA
 have hO : IniOK [] A w := IniOK.nil
 refine calls_of_HT2 [.tmp 4] Tryz.func36 Tryz.ntmps36 (by decide) rfl rfl (Nat.le_of_ble_eq_true rfl) ?_
 intro R hR
 have f_v0 : Rep E_impl_Record A w v0 p0 := hAe ▸ h0
 replace h0 : R 0 = v0 := hR 0 _ rfl
 have f_v1 : Rep E_impl_Record A w v1 p1 := hAe ▸ h1
 replace h1 : R 1 = v1 := hR 1 _ rfl
 clear hR hAe
 refine HT.seq ?_
 refine HT.textR [] (⟨_, true, [], some (.box w0.heap.size 51 E_impl_Record p0), true, fun A => .any⟩ :: ⟨_, true, [], some (.box w0.heap.size 51 E_impl_Record p1), true, fun A => .any⟩ :: rB false :: []) (by kernel_rfl) (by kernel_rfl) (Wf.mk' (by kernel_rfl) (ua (ua (ur (UAll.nil)))) (by kernel_rfl) (by kernel_rfl)) hO hA ?_ ?_
 exact OblsR.cons (OblR.made _ rfl rfl rfl rfl fun A' R' w' ho hd => by have a0 : R' 0 = v0 := (ho.old 0 rfl).trans h0; have ra0 := (f_v0.stp ho.stp).eq a0; exact made_box ra0 (Nat.le_trans hF.size ho.ch.size)) <| OblsR.cons (OblR.made _ rfl rfl rfl rfl fun A' R' w' ho hd => by have a0 : R' 1 = v1 := (ho.old 1 rfl).trans h1; have ra0 := (f_v1.stp ho.stp).eq a0; exact made_box ra0 (Nat.le_trans hF.size ho.ch.size)) <| OblsR.p (fun A' R' w' ho hd => of_assign rfl) <| OblsR.nil
 intro done ρ σ A R w hdn hI
 obtain ⟨b2_0, e_b2_0⟩ := hI.boxv hdn 0 rfl rfl
 have h2 : R 2 = (.pointer (some ⟨b2_0, 0, none⟩)) := (hI.opvR hdn 0 0 rfl rfl rfl rfl rfl).symm.trans e_b2_0
 obtain ⟨b3_1, e_b3_1⟩ := hI.boxv hdn 1 rfl rfl
 have h3 : R 3 = (.pointer (some ⟨b3_1, 0, none⟩)) := (hI.opvR hdn 1 1 rfl rfl rfl rfl rfl).symm.trans e_b3_1
 replace hAA := hI.low' hAA hA0 (hO.ge (trivial))
 replace hF : Fr w0 w := hF.tr hI.ch (hO.ge (trivial))
 replace hO := hI.left hdn [(0, ob (.pointer (some ⟨b2_0, 0, none⟩)) (.box w0.heap.size 51 E_impl_Record p0)), (1, ob (.pointer (some ⟨b3_1, 0, none⟩)) (.box w0.heap.size 51 E_impl_Record p1))] ⟨rfl, rfl, e_b2_0, rfl, rfl, ⟨rfl, rfl, e_b3_1, rfl, rfl, trivial⟩⟩
 replace hA := hI.avok
 clear hI
 refine HT.seq ?_
 refine HT.seq ?_
 refine HT.u hA hF (eR (.pointer (some ⟨b2_0, 0, none⟩)) :: eI p0.1 :: eR (.pointer (some ⟨b3_1, 0, none⟩)) :: eI p1.1 :: eB (p0.1 != p1.1) :: []) ?_ ?_
 exact Obls.p (fun R' w' hw hs hd => of_fieldAddr_raw ((hs 2 rfl).trans h2) ff_51_0 Tryz.sizeOf3 (by decide) rfl) <| Obls.p (fun R' w' hw hs hd => OpF.int (of_load_box ((hO.fr hw).ok 0 _ rfl).1 (hd.g 0 rfl) fl_impl_Record_0 rfl Tryz.isAgg3 Tryz.sizeOf3)) <| Obls.p (fun R' w' hw hs hd => of_fieldAddr_raw ((hs 3 rfl).trans h3) ff_51_0 Tryz.sizeOf3 (by decide) rfl) <| Obls.p (fun R' w' hw hs hd => OpF.int (of_load_box ((hO.fr hw).ok 1 _ rfl).1 (hd.g 0 rfl) fl_impl_Record_0 rfl Tryz.isAgg3 Tryz.sizeOf3)) <| Obls.p (fun R' w' hw hs hd => of_neq (hd.g 0 rfl) (hd.g 1 rfl)) <| Obls.nil
 intro R w hw hs hF' hA hF
 obtain ⟨h2, h3⟩ := k2 hs h2 h3
 have h9 := hF'.r 4 rfl
 replace hO := hO.fr hw
 refine HT.cond (p0.1 != p1.1) h9 (fun c3 => ?_) (fun c3 => ?_)
 have hr := cnd_t c3 hr
 refine HT.seq ?_
 refine HT.u hA hF (eB false :: []) ?_ ?_
 exact Obls.p (fun R' w' hw hs hd => of_assign rfl) <| Obls.nil
 intro R w hw hs hF' hA hF
 have h4 := hF'.r 0 rfl
 replace hO := hO.fr hw
 replace hO : IniOK [] A w := hO.sub [] trivial
 refine HT.ret ?_
 obtain rfl := Option.some.inj hr
 exact ⟨.inr rfl, [R 4], ⟨rfl, trivial⟩, h4, hF⟩
 have hr := cnd_f c3 hr
 refine HT.skip ?_
 refine HT.seq ?_
 refine HT.seq ?_
 refine HT.u hA hF (eR (.pointer (some ⟨b2_0, 1, none⟩)) :: eI p0.2.1 :: eR (.pointer (some ⟨b3_1, 1, none⟩)) :: eI p1.2.1 :: eB (p0.2.1 != p1.2.1) :: []) ?_ ?_
 exact Obls.p (fun R' w' hw hs hd => of_fieldAddr_raw ((hs 2 rfl).trans h2) ff_51_1 Tryz.sizeOf3 (by decide) rfl) <| Obls.p (fun R' w' hw hs hd => OpF.int (of_load_box ((hO.fr hw).ok 0 _ rfl).1 (hd.g 0 rfl) fl_impl_Record_1 rfl Tryz.isAgg3 Tryz.sizeOf3)) <| Obls.p (fun R' w' hw hs hd => of_fieldAddr_raw ((hs 3 rfl).trans h3) ff_51_1 Tryz.sizeOf3 (by decide) rfl) <| Obls.p (fun R' w' hw hs hd => OpF.int (of_load_box ((hO.fr hw).ok 1 _ rfl).1 (hd.g 0 rfl) fl_impl_Record_1 rfl Tryz.isAgg3 Tryz.sizeOf3)) <| Obls.p (fun R' w' hw hs hd => of_neq (hd.g 0 rfl) (hd.g 1 rfl)) <| Obls.nil
 intro R w hw hs hF' hA hF
 obtain ⟨h2, h3⟩ := k2 hs h2 h3
 have h14 := hF'.r 4 rfl
 replace hO := hO.fr hw
 refine HT.cond (p0.2.1 != p1.2.1) h14 (fun c4 => ?_) (fun c4 => ?_)
 have hr := cnd_t c4 hr
 refine HT.seq ?_
 refine HT.u hA hF (eB false :: []) ?_ ?_
 exact Obls.p (fun R' w' hw hs hd => of_assign rfl) <| Obls.nil
 intro R w hw hs hF' hA hF
 have h4 := hF'.r 0 rfl
 replace hO := hO.fr hw
 replace hO : IniOK [] A w := hO.sub [] trivial
 refine HT.ret ?_
 obtain rfl := Option.some.inj hr
 exact ⟨.inr rfl, [R 4], ⟨rfl, trivial⟩, h4, hF⟩
 have hr := cnd_f c4 hr
 refine HT.skip ?_
 refine HT.seq ?_
 refine HT.seq ?_
 refine HT.u hA hF (eR (.pointer (some ⟨b2_0, 2, none⟩)) :: eI p0.2.2.1 :: eR (.pointer (some ⟨b3_1, 2, none⟩)) :: eI p1.2.2.1 :: eB (p0.2.2.1 != p1.2.2.1) :: []) ?_ ?_
 exact Obls.p (fun R' w' hw hs hd => of_fieldAddr_raw ((hs 2 rfl).trans h2) ff_51_2 Tryz.sizeOf3 (by decide) rfl) <| Obls.p (fun R' w' hw hs hd => OpF.int (of_load_box ((hO.fr hw).ok 0 _ rfl).1 (hd.g 0 rfl) fl_impl_Record_2 rfl Tryz.isAgg3 Tryz.sizeOf3)) <| Obls.p (fun R' w' hw hs hd => of_fieldAddr_raw ((hs 3 rfl).trans h3) ff_51_2 Tryz.sizeOf3 (by decide) rfl) <| Obls.p (fun R' w' hw hs hd => OpF.int (of_load_box ((hO.fr hw).ok 1 _ rfl).1 (hd.g 0 rfl) fl_impl_Record_2 rfl Tryz.isAgg3 Tryz.sizeOf3)) <| Obls.p (fun R' w' hw hs hd => of_neq (hd.g 0 rfl) (hd.g 1 rfl)) <| Obls.nil
 intro R w hw hs hF' hA hF
 obtain ⟨h2, h3⟩ := k2 hs h2 h3
 have h19 := hF'.r 4 rfl
 replace hO := hO.fr hw
 refine HT.cond (p0.2.2.1 != p1.2.2.1) h19 (fun c5 => ?_) (fun c5 => ?_)
 have hr := cnd_t c5 hr
 refine HT.seq ?_
 refine HT.u hA hF (eB false :: []) ?_ ?_
 exact Obls.p (fun R' w' hw hs hd => of_assign rfl) <| Obls.nil
 intro R w hw hs hF' hA hF
 have h4 := hF'.r 0 rfl
 replace hO := hO.fr hw
 replace hO : IniOK [] A w := hO.sub [] trivial
 refine HT.ret ?_
 obtain rfl := Option.some.inj hr
 exact ⟨.inr rfl, [R 4], ⟨rfl, trivial⟩, h4, hF⟩
 have hr := cnd_f c5 hr
 refine HT.skip ?_
 refine HT.seq ?_
 refine HT.seq ?_
 obtain ⟨x6, q7, hr⟩ := cl_some hr
 refine HT.u hA hF (eR (.pointer (some ⟨b2_0, 3, none⟩)) :: eF (.rep (eSl eStr) A p0.2.2.2) :: eR (.pointer (some ⟨b3_1, 3, none⟩)) :: eF (.rep (eSl eStr) A p1.2.2.2) :: eB x6 :: eB (!x6) :: []) ?_ ?_
 exact Obls.p (fun R' w' hw hs hd => of_fieldAddr_raw ((hs 2 rfl).trans h2) ff_51_3 Tryz.sizeOf46 (by decide) rfl) <| Obls.p (fun R' w' hw hs hd => (of_load_box ((hO.fr hw).ok 0 _ rfl).1 (hd.g 0 rfl) fl_impl_Record_3 rfl Tryz.isAgg46 Tryz.sizeOf46)) <| Obls.p (fun R' w' hw hs hd => of_fieldAddr_raw ((hs 3 rfl).trans h3) ff_51_3 Tryz.sizeOf46 (by decide) rfl) <| Obls.p (fun R' w' hw hs hd => (of_load_box ((hO.fr hw).ok 1 _ rfl).1 (hd.g 0 rfl) fl_impl_Record_3 rfl Tryz.isAgg46 Tryz.sizeOf46)) <| Obls.p (fun R' w' hw hs hd => of_call Tryz.call35 (M_laws_eqStringS_ok (q7 rfl) (hA.fr hw.size) (hd.g 0 rfl) (hd.g 1 rfl))) <| Obls.p (fun R' w' hw hs hd => of_not (hd.g 0 rfl)) <| Obls.nil
 intro R w hw hs hF' hA hF
 have h25 := hF'.r 5 rfl
 replace hO := hO.fr hw
 replace hO : IniOK [] A w := hO.sub [] trivial
 refine HT.cond (!x6) h25 (fun c8 => ?_) (fun c8 => ?_)
 have hr := cnd_t c8 hr
 refine HT.seq ?_
 refine HT.u hA hF (eB false :: []) ?_ ?_
 exact Obls.p (fun R' w' hw hs hd => of_assign rfl) <| Obls.nil
 intro R w hw hs hF' hA hF
 have h4 := hF'.r 0 rfl
 replace hO := hO.fr hw
 refine HT.ret ?_
 obtain rfl := Option.some.inj hr
 exact ⟨.inr rfl, [R 4], ⟨rfl, trivial⟩, h4, hF⟩
 have hr := cnd_f c8 hr
 refine HT.skip ?_
 refine HT.seq ?_
 refine HT.u hA hF (eB true :: []) ?_ ?_
 exact Obls.p (fun R' w' hw hs hd => of_assign rfl) <| Obls.nil
 intro R w hw hs hF' hA hF
 have h4 := hF'.r 0 rfl
 replace hO := hO.fr hw
 refine HT.ret ?_
 obtain rfl := Option.some.inj hr
 exact ⟨.inr rfl, [R 4], ⟨rfl, trivial⟩, h4, hF⟩
end Go.Proofs.YtcodfkieaoomnaaGreatDoor
/- Printed by dec.py: plain functions and the proofs that the code computes them. No statement of the seat is proved here. -/
namespace Go.Proofs.YtcodfkieaoomnaaGreatDoor
open Go.RowKit
set_option linter.unusedVariables false
set_option maxRecDepth 100000
set_option maxHeartbeats 4000000
end Go.Proofs.YtcodfkieaoomnaaGreatDoor
/- Printed by dec.py: plain functions and the proofs that the code computes them. No statement of the seat is proved here. -/
namespace Go.Proofs.YtcodfkieaoomnaaGreatDoor
open Go.RowKit
set_option linter.unusedVariables false
set_option maxRecDepth 100000
set_option maxHeartbeats 4000000
def M_spec_l3Has_L0 (fu : Nat) (p0 : List (List UInt8)) (p1 : List UInt8) : Nat → Int → Option (Ex Bool Unit)
 | 0, _ => none
 | k + 1, y4 =>
 bif (decide (y4 < (p0.length : Int))) then (
 ck (inR y4 p0.length) <|
 bif ((gtD p0 y4) == p1) then (
 some (Ex.ret true)
 ) else (
 ck (i64B (y4 + 1)) <|
 M_spec_l3Has_L0 fu p0 p1 k (y4 + 1)
 )
 ) else (
 some (Ex.go ())
 )
def M_spec_l3Has (fu : Nat) (p0 : List (List UInt8)) (p1 : List UInt8) : Option Bool :=
 cl true (M_spec_l3Has_L0 fu p0 p1 fu 0) fun rl1 =>
 exM rl1 (fun r => some r) fun s3 =>
 some false
theorem M_spec_l3Has_ok {fu : Nat} {A : Av} {p0 : List (List UInt8)} {p1 : List UInt8} {r : Bool} (hr : M_spec_l3Has fu p0 p1 = some r) {w : World} {v0 : Value} {v1 : Value} (hA : AvOK A w) (h0 : Rep (eSl eStr) A w v0 p0) (h1 : Rep eStr A w v1 p1) :
 Calls Tryz.prog 120 #[v0, v1] w fun e w' => ∃ v, e = .returned v ∧ (v = .bool r ∧ Fr w w') := by
 unfold M_spec_l3Has at hr
 obtain ⟨w0, hw0⟩ : ∃ w0, w0 = w := ⟨_, rfl⟩
 have hF : Fr w0 w := hw0 ▸ Fr.refl _
 rw [show Fr w = Fr w0 from hw0 ▸ rfl]
 clear hw0
 refine calls_of_HT2 [.tmp 4] Tryz.func120 Tryz.ntmps120 (by decide) rfl rfl (Nat.le_of_ble_eq_true rfl) ?_
 intro R hR
 have f_v0 := h0
 replace h0 : R 0 = v0 := hR 0 _ rfl
 have f_v1 := h1
 replace h1 : R 1 = v1 := hR 1 _ rfl
 clear hR
 refine HT.seq ?_
 refine HT.u hA hF (eB false :: []) ?_ ?_
 exact Obls.p (fun R' w' hw hs hd => of_assign rfl) <| Obls.nil
 intro R w hw hs hF' hA hF
 obtain ⟨h0, h1⟩ := k2 hs h0 h1
 replace f_v0 := f_v0.fr hw
 replace f_v1 := f_v1.fr hw
 refine HT.seq ?_
 refine HT.seq ?_
 refine HT.u hA hF (eI 0 :: []) ?_ ?_
 exact Obls.p (fun R' w' hw hs hd => of_assign rfl) <| Obls.nil
 intro R w hw hs hF' hA hF
 obtain ⟨h0, h1⟩ := k2 hs h0 h1
 have h5 := hF'.r 0 rfl
 replace f_v0 := f_v0.fr hw
 replace f_v1 := f_v1.fr hw
 obtain ⟨rl1, q2, hr⟩ := cl_some hr
 replace q2 := q2 rfl
 refine HT.cut0 (fun R w => ∃ (s3 : Unit), rl1 = Ex.go s3 ∧ AvOK A w ∧ Fr w0 w) ?_ ?_
 refine HT.block ?_
 refine HT.loop (fun k R w => ∃ (y4 : Int), M_spec_l3Has_L0 fu p0 p1 k y4 = some rl1 ∧ AvOK A w ∧ Fr w0 w ∧ R 0 = v0 ∧ R 1 = v1 ∧ R 5 = .int .i64 y4 ∧ Rep (eSl eStr) A w v0 p0 ∧ Rep eStr A w v1 p1) fu ⟨_, q2, hA, hF, h0, h1, h5, f_v0, f_v1⟩ ?_
 have hr0 := hr; clear hr q2
 rintro k R w ⟨y4, hr, hA, hF, h0, h1, h5, f_v0, f_v1⟩
 rcases k with _ | k
 cases (show none = some _ from hr)
 rw [M_spec_l3Has_L0] at hr
 refine HT.seq ?_
 refine HT.seq ?_
 refine HT.u hA hF (eI y4 :: eR v0 :: eI (p0.length : Int) :: eB (decide (y4 < (p0.length : Int))) :: []) ?_ ?_
 exact Obls.m h5 <| Obls.m h0 <| Obls.p (fun R' w' hw hs hd => of_len_sl (aT := #[]) ((f_v0.fr hw).eq (hd.g 0 rfl)) Tryz.underlying46) <| Obls.p (fun R' w' hw hs hd => of_lss (hd.g 0 rfl) (hd.g 1 rfl)) <| Obls.nil
 intro R w hw hs hF' hA hF
 obtain ⟨h0, h1, h5⟩ := k3 hs h0 h1 h5
 have h9 := hF'.r 3 rfl
 replace f_v0 := f_v0.fr hw
 replace f_v1 := f_v1.fr hw
 refine HT.cond (decide (y4 < (p0.length : Int))) h9 (fun c5 => ?_) (fun c5 => ?_)
 have hr := cnd_t c5 hr
 refine HT.skip ?_
 refine HT.seq ?_
 refine HT.block ?_
 refine HT.seq ?_
 obtain ⟨e6, hr⟩ := ck_some hr
 refine HT.u hA hF (eR v0 :: eI y4 :: eF (.qtr eStr A (gtD p0 y4)) :: eF (.rep eStr A (gtD p0 y4)) :: eR v1 :: eB ((gtD p0 y4) == p1) :: []) ?_ ?_
 exact Obls.m h0 <| Obls.m h5 <| Obls.p (fun R' w' hw hs hd => of_indexAddr ((f_v0.fr hw).eq (hd.g 0 rfl)) (hd.g 1 rfl) Tryz.underlying46 Tryz.sizeOf9 e6) <| Obls.p (fun R' w' hw hs hd => (of_load (QRep.ptr (hd.g 0 rfl)) Tryz.isAgg9 Tryz.sizeOf9)) <| Obls.m h1 <| Obls.p (fun R' w' hw hs hd => of_seql (hd.g 0 rfl) ((f_v1.fr hw).eq (hd.g 1 rfl))) <| Obls.nil
 intro R w hw hs hF' hA hF
 obtain ⟨h0, h1, h5⟩ := k3 hs h0 h1 h5
 have h17 := hF'.r 5 rfl
 replace f_v0 := f_v0.fr hw
 replace f_v1 := f_v1.fr hw
 refine HT.cond ((gtD p0 y4) == p1) h17 (fun c7 => ?_) (fun c7 => ?_)
 have hr := cnd_t c7 hr
 refine HT.seq ?_
 refine HT.u hA hF (eB true :: []) ?_ ?_
 exact Obls.p (fun R' w' hw hs hd => of_assign rfl) <| Obls.nil
 intro R w hw hs hF' hA hF
 have h4 := hF'.r 0 rfl
 refine HT.ret ?_
 obtain rfl := Option.some.inj hr
 have hr := hr0
 replace hr : some _ = some _ := hr
 obtain rfl := Option.some.inj hr
 exact ⟨.inr rfl, [R 4], ⟨rfl, trivial⟩, h4, hF⟩
 have hr := cnd_f c7 hr
 refine HT.skip ?_
 obtain ⟨e8, hr⟩ := ck_some hr
 refine HT.u hA hF (eI y4 :: eI (y4 + (1 : Int)) :: eI (y4 + (1 : Int)) :: []) ?_ ?_
 exact Obls.m h5 <| Obls.p (fun R' w' hw hs hd => of_add (hd.g 0 rfl) rfl e8) <| Obls.a <| Obls.nil
 intro R w hw hs hF' hA hF
 obtain ⟨h0, h1⟩ := k2 hs h0 h1
 have h5 := hF'.r 2 rfl
 replace f_v0 := f_v0.fr hw
 replace f_v1 := f_v1.fr hw
 exact Exists.intro k (And.intro (Nat.lt_succ_self k) ⟨_, hr, hA, hF, h0, h1, h5, f_v0, f_v1⟩)
 have hr := cnd_f c5 hr
 refine HT.exit ?_
 obtain rfl := Option.some.inj hr
 exact Exists.intro _ ⟨rfl, hA, hF⟩
 rintro R w ⟨s3, rfl, hA, hF⟩
 have hr := exM_go hr
 refine HT.seq ?_
 refine HT.u hA hF (eB false :: []) ?_ ?_
 exact Obls.p (fun R' w' hw hs hd => of_assign rfl) <| Obls.nil
 intro R w hw hs hF' hA hF
 have h4 := hF'.r 0 rfl
 refine HT.ret ?_
 obtain rfl := Option.some.inj hr
 exact ⟨.inr rfl, [R 4], ⟨rfl, trivial⟩, h4, hF⟩
def M_spec_CommonTokens_L0 (fu : Nat) (p0 : List (List UInt8)) (p1 : List (List UInt8)) : Nat → Int → (List (List UInt8)) → Option (List (List UInt8))
 | 0, _, _ => none
 | k + 1, y5, y6 =>
 bif (decide (y5 < (p0.length : Int))) then (
 ck (inR y5 p0.length) <|
 cl true (M_spec_l3Has fu p1 (gtD p0 y5)) fun x9 =>
 bif x9 then (
 ck (inR y5 p0.length) <|
 cl true (M_spec_l3Put fu y6 (gtD p0 y5) false) fun x13 =>
 ck (i64B (y5 + 1)) <|
 M_spec_CommonTokens_L0 fu p0 p1 k (y5 + 1) x13
 ) else (
 ck (i64B (y5 + 1)) <|
 M_spec_CommonTokens_L0 fu p0 p1 k (y5 + 1) y6
 )
 ) else (
 some y6
 )
def M_spec_CommonTokens (fu : Nat) (p0 : List (List UInt8)) (p1 : List (List UInt8)) : Option (List (List UInt8)) :=
 cl true (M_spec_CommonTokens_L0 fu p0 p1 fu 0 ([] : List (List UInt8))) fun s4 =>
 some s4
theorem M_spec_CommonTokens_ok {fu : Nat} {A0 : Av} {p0 : List (List UInt8)} {p1 : List (List UInt8)} {r : List (List UInt8)} (hr : M_spec_CommonTokens fu p0 p1 = some r) {w : World} {v0 : Value} {v1 : Value} (hA : AvOK A0 w) (h0 : Rep (eSl eStr) A0 w v0 p0) (h1 : Rep (eSl eStr) A0 w v1 p1) :
 Calls Tryz.prog 116 #[v0, v1] w fun e w' => ∃ v, e = .returned v ∧ ((Res.vec w.heap.size 9 eStr r).ok (addA A0 v) v w' ∧ Fr w w') := by
 unfold M_spec_CommonTokens at hr
 obtain ⟨w0, hw0⟩ : ∃ w0, w0 = w := ⟨_, rfl⟩
 have hF : Fr w0 w := hw0 ▸ Fr.refl _
 have hA0 : ∀ b o, A0 b o → b < w0.heap.size := fun b o h => hw0 ▸ hA b o h
 have hA00 : AvOK A0 w0 := hA0
 rw [show w.heap.size = w0.heap.size from hw0 ▸ rfl]
 rw [show Fr w = Fr w0 from hw0 ▸ rfl]
 clear hw0
 obtain ⟨A, hAe⟩ : ∃ A, A = A0 := ⟨_, rfl⟩
 have hAA : ∀ b o, A0 b o → A b o := fun b o h => hAe ▸ h
 replace hA : AvOK A w := hAe ▸ hA
 have hO : IniOK [] A w := IniOK.nil
 refine calls_of_HT2 [.tmp 4] Tryz.func116 Tryz.ntmps116 (by decide) rfl rfl (Nat.le_of_ble_eq_true rfl) ?_
 intro R hR
 have f_v0 : Rep (eSl eStr) A w v0 p0 := hAe ▸ h0
 replace h0 : R 0 = v0 := hR 0 _ rfl
 have f_v1 : Rep (eSl eStr) A w v1 p1 := hAe ▸ h1
 replace h1 : R 1 = v1 := hR 1 _ rfl
 clear hR hAe
 refine HT.seq ?_
 refine HT.u hA hF (eA :: []) ?_ ?_
 exact Obls.p (fun R' w' hw hs hd => of_assign trivial) <| Obls.nil
 intro R w hw hs hF' hA hF
 obtain ⟨h0, h1⟩ := k2 hs h0 h1
 replace f_v0 := f_v0.fr hw
 replace f_v1 := f_v1.fr hw
 replace hO := hO.fr hw
 refine HT.seq ?_
 refine HT.textR [] (⟨_, true, [], some (.vec w0.heap.size 9 eStr ([] : List (List UInt8))), true, fun A => .any⟩ :: ⟨_, true, [0], some (.vec w0.heap.size 9 eStr ([] : List (List UInt8))), true, fun A => .any⟩ :: []) (by kernel_rfl) (by kernel_rfl) (Wf.mk' (by kernel_rfl) (ua (ua (UAll.nil))) (by kernel_rfl) (by kernel_rfl)) hO hA ?_ ?_
 exact OblsR.cons (OblR.made _ rfl rfl rfl rfl fun A' R' w' ho hd => by exact made_build [] (E := eStr) trivial Tryz.underlying46 Tryz.sizeOf9 Tryz.zeroValue9 rfl rfl rfl (Nat.le_trans hF.size ho.ch.size)) <| OblsR.cons (OblR.took 0 _ _ rfl rfl rfl rfl rfl fun A' R' w' ho hd u hok hav hin hop hds => by exact took_assign (hop _ _ rfl rfl rfl rfl).symm hok hav) <| OblsR.nil
 intro done ρ σ A R w hdn hI
 obtain ⟨h0, h1⟩ := k2 hI.rg h0 h1
 obtain ⟨u1, e_u1⟩ : ∃ u, ρ 1 = u := ⟨_, rfl⟩
 have h5 : R 5 = u1 := (hI.opvR hdn 1 1 rfl rfl rfl rfl rfl).symm.trans e_u1
 replace f_v0 := f_v0.stp hI.stp
 replace f_v1 := f_v1.stp hI.stp
 replace hAA := hI.low' hAA hA0 (hO.ge (trivial))
 replace hF : Fr w0 w := hF.tr hI.ch (hO.ge (trivial))
 replace hO := hI.left hdn [(1, ob u1 (.vec w0.heap.size 9 eStr ([] : List (List UInt8))))] ⟨rfl, rfl, e_u1, rfl, rfl, trivial⟩
 replace hA := hI.avok
 clear hI
 refine HT.seq ?_
 refine HT.seq ?_
 refine HT.u hA hF (eI 0 :: []) ?_ ?_
 exact Obls.p (fun R' w' hw hs hd => of_assign rfl) <| Obls.nil
 intro R w hw hs hF' hA hF
 obtain ⟨h0, h1, h5⟩ := k3 hs h0 h1 h5
 have h6 := hF'.r 0 rfl
 replace f_v0 := f_v0.fr hw
 replace f_v1 := f_v1.fr hw
 replace hO := hO.fr hw
 obtain ⟨rl2, q3, hr⟩ := cl_some hr
 replace q3 := q3 rfl
 refine HT.cut0 (fun R w => ∃ A : Av, ∃ (s4 : (List (List UInt8))) (uo_u1 : Value), rl2 = s4 ∧ AvOK A w ∧ Fr w0 w ∧ (∀ b o, A0 b o → A b o) ∧ IniOK [ob uo_u1 (.vec w0.heap.size 9 eStr s4)] A w ∧ R 5 = uo_u1) ?_ ?_
 refine HT.block ?_
 refine HT.loop (fun k R w => ∃ A : Av, ∃ (y5 : Int) (y6 : List (List UInt8)) (ul_u1 : Value), M_spec_CommonTokens_L0 fu p0 p1 k y5 y6 = some rl2 ∧ AvOK A w ∧ Fr w0 w ∧ (∀ b o, A0 b o → A b o) ∧ IniOK [ob ul_u1 (.vec w0.heap.size 9 eStr y6)] A w ∧ R 0 = v0 ∧ R 1 = v1 ∧ R 5 = ul_u1 ∧ R 6 = .int .i64 y5 ∧ Rep (eSl eStr) A w v0 p0 ∧ Rep (eSl eStr) A w v1 p1) fu ⟨_, _, _, u1, q3, hA, hF, hAA, hO, h0, h1, h5, h6, f_v0, f_v1⟩ ?_
 have hr0 := hr; clear hr q3
 rintro k R w ⟨A, y5, y6, ul_u1, hr, hA, hF, hAA, hO, h0, h1, h5, h6, f_v0, f_v1⟩
 rcases k with _ | k
 cases (show none = some _ from hr)
 rw [M_spec_CommonTokens_L0] at hr
 refine HT.seq ?_
 refine HT.seq ?_
 refine HT.u hA hF (eI y5 :: eR v0 :: eI (p0.length : Int) :: eB (decide (y5 < (p0.length : Int))) :: []) ?_ ?_
 exact Obls.m h6 <| Obls.m h0 <| Obls.p (fun R' w' hw hs hd => of_len_sl (aT := #[]) ((f_v0.fr hw).eq (hd.g 0 rfl)) Tryz.underlying46) <| Obls.p (fun R' w' hw hs hd => of_lss (hd.g 0 rfl) (hd.g 1 rfl)) <| Obls.nil
 intro R w hw hs hF' hA hF
 obtain ⟨h0, h1, h5, h6⟩ := k4 hs h0 h1 h5 h6
 have h11 := hF'.r 3 rfl
 replace f_v0 := f_v0.fr hw
 replace f_v1 := f_v1.fr hw
 replace hO := hO.fr hw
 refine HT.cond (decide (y5 < (p0.length : Int))) h11 (fun c7 => ?_) (fun c7 => ?_)
 have hr := cnd_t c7 hr
 refine HT.skip ?_
 refine HT.seq ?_
 refine HT.block ?_
 refine HT.seq ?_
 obtain ⟨e8, hr⟩ := ck_some hr
 obtain ⟨x9, q10, hr⟩ := cl_some hr
 refine HT.u hA hF (eR v1 :: eR v0 :: eI y5 :: eF (.qtr eStr A (gtD p0 y5)) :: eF (.rep eStr A (gtD p0 y5)) :: eB x9 :: []) ?_ ?_
 exact Obls.m h1 <| Obls.m h0 <| Obls.m h6 <| Obls.p (fun R' w' hw hs hd => of_indexAddr ((f_v0.fr hw).eq (hd.g 0 rfl)) (hd.g 1 rfl) Tryz.underlying46 Tryz.sizeOf9 e8) <| Obls.p (fun R' w' hw hs hd => (of_load (QRep.ptr (hd.g 0 rfl)) Tryz.isAgg9 Tryz.sizeOf9)) <| Obls.p (fun R' w' hw hs hd => of_call Tryz.call120 (M_spec_l3Has_ok (q10 rfl) (hA.fr hw.size) ((f_v1.fr hw).eq (hd.g 0 rfl)) (hd.g 1 rfl))) <| Obls.nil
 intro R w hw hs hF' hA hF
 obtain ⟨h0, h1, h5, h6⟩ := k4 hs h0 h1 h5 h6
 have h19 := hF'.r 5 rfl
 replace f_v0 := f_v0.fr hw
 replace f_v1 := f_v1.fr hw
 replace hO := hO.fr hw
 refine HT.cond x9 h19 (fun c11 => ?_) (fun c11 => ?_)
 have hr := cnd_t c11 hr
 obtain ⟨e12, hr⟩ := ck_some hr
 obtain ⟨x13, q14, hr⟩ := cl_some hr
 refine HT.textR [ob ul_u1 (.vec w0.heap.size 9 eStr y6)] (rR ul_u1 :: rR v0 :: rI y5 :: (rF fun A => .qtr eStr A (gtD p0 y5)) :: (rF fun A => .rep eStr A (gtD p0 y5)) :: ⟨_, true, [0], some (.vec w0.heap.size 9 eStr x13), true, fun A => .any⟩ :: ⟨_, true, [6], some (.vec w0.heap.size 9 eStr x13), true, fun A => .any⟩ :: []) (by kernel_rfl) (by kernel_rfl) (Wf.mk' (by kernel_rfl) (ur (ur (ur (UAll.cons ust_qtr (up (ua (ua (UAll.nil)))))))) (by kernel_rfl) (by kernel_rfl)) hO hA ?_ ?_
 exact OblsR.m h5 <| OblsR.m h0 <| OblsR.m h6 <| OblsR.p (fun A' R' w' ho hd => of_indexAddr ((f_v0.stp ho.stp).eq (hd.g 0 rfl)) (hd.g 1 rfl) Tryz.underlying46 Tryz.sizeOf9 e12) <| OblsR.p (fun A' R' w' ho hd => (of_load (QRep.ptr (hd.g 0 rfl)) Tryz.isAgg9 Tryz.sizeOf9)) <| OblsR.cons (OblR.took 0 _ _ rfl rfl rfl rfl rfl fun A' R' w' ho hd u hok hav hin hop hds => by have a0 : R' 20 = ul_u1 := hd.g 0 rfl; have a1 : Rep eStr A' w' (R' 24) (gtD p0 y5) := hd.g 1 rfl; have hu0 : evalR R' (.tmp 20) = u := a0.trans (hin _ rfl).symm; exact took_callm Tryz.call109 hav (by simp only [List.map, hu0]; exact M_spec_l3Put_ok (q14 rfl) (ho.av.sub _) (fun b o h => h.2) (Nat.le_trans hF.size ho.ch.size) (Vec.flat hok (fun _ _ _ _ _ h => h)) (a1.less fun b o h => h.1) rfl)) <| OblsR.cons (OblR.took 6 _ _ rfl rfl rfl rfl rfl fun A' R' w' ho hd u hok hav hin hop hds => by exact took_assign (hop _ _ rfl rfl rfl rfl).symm hok hav) <| OblsR.nil
 intro done ρ σ A R w hdn hI
 obtain ⟨h0, h1, h6⟩ := k3 hI.rg h0 h1 h6
 obtain ⟨u15, e_u15⟩ : ∃ u, ρ 7 = u := ⟨_, rfl⟩
 have h5 : R 5 = u15 := (hI.opvR hdn 7 6 rfl rfl rfl rfl rfl).symm.trans e_u15
 replace f_v0 := f_v0.stp hI.stp
 replace f_v1 := f_v1.stp hI.stp
 replace hAA := hI.low' hAA hA0 (hO.ge (⟨rfl, trivial⟩))
 replace hF : Fr w0 w := hF.tr hI.ch (hO.ge (⟨rfl, trivial⟩))
 replace hO := hI.left hdn [(7, ob u15 (.vec w0.heap.size 9 eStr x13))] ⟨rfl, rfl, e_u15, rfl, rfl, trivial⟩
 replace hA := hI.avok
 clear hI
 obtain ⟨e16, hr⟩ := ck_some hr
 refine HT.u hA hF (eI y5 :: eI (y5 + (1 : Int)) :: eI (y5 + (1 : Int)) :: []) ?_ ?_
 exact Obls.m h6 <| Obls.p (fun R' w' hw hs hd => of_add (hd.g 0 rfl) rfl e16) <| Obls.a <| Obls.nil
 intro R w hw hs hF' hA hF
 obtain ⟨h0, h1, h5⟩ := k3 hs h0 h1 h5
 have h6 := hF'.r 2 rfl
 replace f_v0 := f_v0.fr hw
 replace f_v1 := f_v1.fr hw
 replace hO := hO.fr hw
 exact Exists.intro k (And.intro (Nat.lt_succ_self k) ⟨_, _, _, u15, hr, hA, hF, hAA, hO, h0, h1, h5, h6, f_v0, f_v1⟩)
 have hr := cnd_f c11 hr
 refine HT.skip ?_
 obtain ⟨e17, hr⟩ := ck_some hr
 refine HT.u hA hF (eI y5 :: eI (y5 + (1 : Int)) :: eI (y5 + (1 : Int)) :: []) ?_ ?_
 exact Obls.m h6 <| Obls.p (fun R' w' hw hs hd => of_add (hd.g 0 rfl) rfl e17) <| Obls.a <| Obls.nil
 intro R w hw hs hF' hA hF
 obtain ⟨h0, h1, h5⟩ := k3 hs h0 h1 h5
 have h6 := hF'.r 2 rfl
 replace f_v0 := f_v0.fr hw
 replace f_v1 := f_v1.fr hw
 replace hO := hO.fr hw
 exact Exists.intro k (And.intro (Nat.lt_succ_self k) ⟨_, _, _, ul_u1, hr, hA, hF, hAA, hO, h0, h1, h5, h6, f_v0, f_v1⟩)
 have hr := cnd_f c7 hr
 refine HT.exit ?_
 obtain rfl := Option.some.inj hr
 exact Exists.intro _ ⟨_, ul_u1, rfl, hA, hF, hAA, hO, h5⟩
 rintro R w ⟨A, s4, uo_u1, es, hA, hF, hAA, hO, h5⟩
 obtain rfl := es.symm
 refine HT.seq ?_
 refine HT.u hA hF (eR uo_u1 :: eR uo_u1 :: []) ?_ ?_
 exact Obls.m h5 <| Obls.a <| Obls.nil
 intro R w hw hs hF' hA hF
 have h4 := hF'.r 1 rfl
 replace hO := hO.fr hw
 refine HT.ret ?_
 obtain rfl := Option.some.inj hr
 exact ⟨.inr rfl, [R 4], ⟨rfl, trivial⟩, (own_post (hO.ok 0 _ rfl) hAA h4), hF⟩
theorem M_spec_CommonTokens_okR {fu : Nat} {A0 : Av} {p0 : List (List UInt8)} {p1 : List (List UInt8)} {r : List (List UInt8)} (hr : M_spec_CommonTokens fu p0 p1 = some r) {w : World} {v0 : Value} {v1 : Value} (hA : AvOK A0 w) (h0 : Rep (eSl eStr) A0 w v0 p0) (h1 : Rep (eSl eStr) A0 w v1 p1) :
 Calls Tryz.prog 116 #[v0, v1] w fun e w' => ∃ v, e = .returned v ∧ (Rep (eSl eStr) A0 w' v r ∧ Fr w w') := by
 refine Calls.mono (M_spec_CommonTokens_ok hr hA h0 h1) ?_
 rintro e w' ⟨v, he, hv, hf⟩
 exact ⟨v, he, vec_rep hv (fun b o h => .inl h) hA, hf⟩
def M_spec_ShareBlock (fu : Nat) (p0 : T_impl_Record) (p1 : T_impl_Record) : Option Bool :=
 cl true (M_spec_BlockKeys fu p0) fun x3 =>
 cl true (M_spec_BlockKeys fu p1) fun x5 =>
 cl true (M_spec_CommonTokens fu x3 x5) fun x7 =>
 some (decide (0 < (x7.length : Int)))
theorem M_spec_ShareBlock_ok {fu : Nat} {A0 : Av} {p0 : T_impl_Record} {p1 : T_impl_Record} {r : Bool} (hr : M_spec_ShareBlock fu p0 p1 = some r) {w : World} {v0 : Value} {v1 : Value} (hA : AvOK A0 w) (h0 : Rep E_impl_Record A0 w v0 p0) (h1 : Rep E_impl_Record A0 w v1 p1) :
 Calls Tryz.prog 40 #[v0, v1] w fun e w' => ∃ v, e = .returned v ∧ (v = .bool r ∧ Fr w w') := by
 unfold M_spec_ShareBlock at hr
 obtain ⟨w0, hw0⟩ : ∃ w0, w0 = w := ⟨_, rfl⟩
 have hF : Fr w0 w := hw0 ▸ Fr.refl _
 have hA0 : ∀ b o, A0 b o → b < w0.heap.size := fun b o h => hw0 ▸ hA b o h
 have hA00 : AvOK A0 w0 := hA0
 rw [show Fr w = Fr w0 from hw0 ▸ rfl]
 clear hw0
 obtain ⟨A, hAe⟩ : ∃ A, A = A0 := ⟨_, rfl⟩
 have hAA : ∀ b o, A0 b o → A b o := fun b o h => hAe ▸ h
 replace hA : AvOK A w := hAe ▸ hA
 have hO : IniOK [] A w := IniOK.nil
 refine calls_of_HT2 [.tmp 4] Tryz.func40 Tryz.ntmps40 (by decide) rfl rfl (Nat.le_of_ble_eq_true rfl) ?_
 intro R hR
 have f_v0 : Rep E_impl_Record A w v0 p0 := hAe ▸ h0
 replace h0 : R 0 = v0 := hR 0 _ rfl
 have f_v1 : Rep E_impl_Record A w v1 p1 := hAe ▸ h1
 replace h1 : R 1 = v1 := hR 1 _ rfl
 clear hR hAe
 refine HT.seq ?_
 refine HT.textR [] (⟨_, true, [], some (.box w0.heap.size 51 E_impl_Record p0), true, fun A => .any⟩ :: ⟨_, true, [], some (.box w0.heap.size 51 E_impl_Record p1), true, fun A => .any⟩ :: rB false :: []) (by kernel_rfl) (by kernel_rfl) (Wf.mk' (by kernel_rfl) (ua (ua (ur (UAll.nil)))) (by kernel_rfl) (by kernel_rfl)) hO hA ?_ ?_
 exact OblsR.cons (OblR.made _ rfl rfl rfl rfl fun A' R' w' ho hd => by have a0 : R' 0 = v0 := (ho.old 0 rfl).trans h0; have ra0 := (f_v0.stp ho.stp).eq a0; exact made_box ra0 (Nat.le_trans hF.size ho.ch.size)) <| OblsR.cons (OblR.made _ rfl rfl rfl rfl fun A' R' w' ho hd => by have a0 : R' 1 = v1 := (ho.old 1 rfl).trans h1; have ra0 := (f_v1.stp ho.stp).eq a0; exact made_box ra0 (Nat.le_trans hF.size ho.ch.size)) <| OblsR.p (fun A' R' w' ho hd => of_assign rfl) <| OblsR.nil
 intro done ρ σ A R w hdn hI
 obtain ⟨b2_0, e_b2_0⟩ := hI.boxv hdn 0 rfl rfl
 have h2 : R 2 = (.pointer (some ⟨b2_0, 0, none⟩)) := (hI.opvR hdn 0 0 rfl rfl rfl rfl rfl).symm.trans e_b2_0
 obtain ⟨b3_1, e_b3_1⟩ := hI.boxv hdn 1 rfl rfl
 have h3 : R 3 = (.pointer (some ⟨b3_1, 0, none⟩)) := (hI.opvR hdn 1 1 rfl rfl rfl rfl rfl).symm.trans e_b3_1
 replace hAA := hI.low' hAA hA0 (hO.ge (trivial))
 replace hF : Fr w0 w := hF.tr hI.ch (hO.ge (trivial))
 replace hO := hI.left hdn [(0, ob (.pointer (some ⟨b2_0, 0, none⟩)) (.box w0.heap.size 51 E_impl_Record p0)), (1, ob (.pointer (some ⟨b3_1, 0, none⟩)) (.box w0.heap.size 51 E_impl_Record p1))] ⟨rfl, rfl, e_b2_0, rfl, rfl, ⟨rfl, rfl, e_b3_1, rfl, rfl, trivial⟩⟩
 replace hA := hI.avok
 clear hI
 refine HT.seq ?_
 obtain ⟨x3, q4, hr⟩ := cl_some hr
 obtain ⟨x5, q6, hr⟩ := cl_some hr
 obtain ⟨x7, q8, hr⟩ := cl_some hr
 refine HT.draw (by kernel_rfl) (l := eF (.rep E_impl_Record A p0) :: eF (.rep (eSl eStr) A x3) :: eF (.rep E_impl_Record A p1) :: eF (.rep (eSl eStr) A x5) :: eF (.rep (eSl eStr) A x7) :: eI (x7.length : Int) :: eB (decide ((0 : Int) < (x7.length : Int))) :: eB (decide ((0 : Int) < (x7.length : Int))) :: []) (tl := []) (by kernel_rfl) (by kernel_rfl) (by kernel_rfl) (by kernel_rfl) ?_ ?_
 exact Obls.p (fun R' w' hw hs hd => (of_load_box ((hO.fr hw).ok 0 _ rfl).1 ((hs 2 rfl).trans h2) (Fld.id _) rfl Tryz.isAgg51 Tryz.sizeOf51)) <| Obls.p (fun R' w' hw hs hd => of_call Tryz.call32 (M_spec_BlockKeys_okR (q4 rfl) (hA.fr hw.size) (hd.g 0 rfl))) <| Obls.p (fun R' w' hw hs hd => (of_load_box ((hO.fr hw).ok 1 _ rfl).1 ((hs 3 rfl).trans h3) (Fld.id _) rfl Tryz.isAgg51 Tryz.sizeOf51)) <| Obls.p (fun R' w' hw hs hd => of_call Tryz.call32 (M_spec_BlockKeys_okR (q6 rfl) (hA.fr hw.size) (hd.g 0 rfl))) <| Obls.p (fun R' w' hw hs hd => of_call Tryz.call116 (M_spec_CommonTokens_okR (q8 rfl) (hA.fr hw.size) (hd.g 0 rfl) (hd.g 1 rfl))) <| Obls.p (fun R' w' hw hs hd => of_len_sl (aT := #[]) (hd.g 0 rfl) Tryz.underlying46) <| Obls.p (fun R' w' hw hs hd => of_gtr (hd.g 0 rfl) rfl) <| Obls.a <| Obls.nil
 intro R w hw hs hF'
 have h4 := hF'.r 7 rfl
 replace hO := hO.fr hw
 replace hO : IniOK [] A w := hO.sub [] trivial
 replace hA := hA.fr hw.size
 replace hF := hF.trans hw
 refine HT.ret ?_
 obtain rfl := Option.some.inj hr
 exact ⟨.inr rfl, [R 4], ⟨rfl, trivial⟩, h4, hF⟩
def M_slices_Index_string_string_L0 (fu : Nat) (p0 : List (List UInt8)) (p1 : List UInt8) : Nat → Int → Option (Ex Int Unit)
 | 0, _ => none
 | k + 1, y4 =>
 bif (decide (y4 < (p0.length : Int))) then (
 ck (inR y4 p0.length) <|
 bif (p1 == (gtD p0 y4)) then (
 some (Ex.ret y4)
 ) else (
 ck (i64B (y4 + 1)) <|
 M_slices_Index_string_string_L0 fu p0 p1 k (y4 + 1)
 )
 ) else (
 some (Ex.go ())
 )
def M_slices_Index_string_string (fu : Nat) (p0 : List (List UInt8)) (p1 : List UInt8) : Option Int :=
 cl true (M_slices_Index_string_string_L0 fu p0 p1 fu 0) fun rl1 =>
 exM rl1 (fun r => some r) fun s3 =>
 some (-1)
theorem M_slices_Index_string_string_ok {fu : Nat} {A : Av} {p0 : List (List UInt8)} {p1 : List UInt8} {r : Int} (hr : M_slices_Index_string_string fu p0 p1 = some r) {w : World} {v0 : Value} {v1 : Value} (hA : AvOK A w) (h0 : Rep (eSl eStr) A w v0 p0) (h1 : Rep eStr A w v1 p1) :
 Calls Tryz.prog 219 #[v0, v1] w fun e w' => ∃ v, e = .returned v ∧ (v = .int .i64 r ∧ Fr w w') := by
 unfold M_slices_Index_string_string at hr
 obtain ⟨w0, hw0⟩ : ∃ w0, w0 = w := ⟨_, rfl⟩
 have hF : Fr w0 w := hw0 ▸ Fr.refl _
 rw [show Fr w = Fr w0 from hw0 ▸ rfl]
 clear hw0
 refine calls_of_HT2 [.tmp 4] Tryz.func219 Tryz.ntmps219 (by decide) rfl rfl (Nat.le_of_ble_eq_true rfl) ?_
 intro R hR
 have f_v0 := h0
 replace h0 : R 0 = v0 := hR 0 _ rfl
 have f_v1 := h1
 replace h1 : R 1 = v1 := hR 1 _ rfl
 clear hR
 refine HT.seq ?_
 refine HT.u hA hF (eI 0 :: []) ?_ ?_
 exact Obls.p (fun R' w' hw hs hd => of_assign rfl) <| Obls.nil
 intro R w hw hs hF' hA hF
 obtain ⟨h0, h1⟩ := k2 hs h0 h1
 replace f_v0 := f_v0.fr hw
 replace f_v1 := f_v1.fr hw
 refine HT.seq ?_
 refine HT.seq ?_
 refine HT.u hA hF (eR v0 :: eI (p0.length : Int) :: eI 0 :: []) ?_ ?_
 exact Obls.m h0 <| Obls.p (fun R' w' hw hs hd => of_len_sl (aT := #[]) ((f_v0.fr hw).eq (hd.g 0 rfl)) Tryz.underlying46) <| Obls.p (fun R' w' hw hs hd => of_move rfl) <| Obls.nil
 intro R w hw hs hF' hA hF
 obtain ⟨h0, h1⟩ := k2 hs h0 h1
 have h7 := hF'.r 1 rfl
 have h8 := hF'.r 2 rfl
 replace f_v0 := f_v0.fr hw
 replace f_v1 := f_v1.fr hw
 obtain ⟨rl1, q2, hr⟩ := cl_some hr
 replace q2 := q2 rfl
 refine HT.cut0 (fun R w => ∃ (s3 : Unit), rl1 = Ex.go s3 ∧ AvOK A w ∧ Fr w0 w) ?_ ?_
 refine HT.block ?_
 refine HT.loop (fun k R w => ∃ (y4 : Int), M_slices_Index_string_string_L0 fu p0 p1 k y4 = some rl1 ∧ AvOK A w ∧ Fr w0 w ∧ R 0 = v0 ∧ R 1 = v1 ∧ R 7 = .int .i64 (p0.length : Int) ∧ R 8 = .int .i64 y4 ∧ Rep (eSl eStr) A w v0 p0 ∧ Rep eStr A w v1 p1) fu ⟨_, q2, hA, hF, h0, h1, h7, h8, f_v0, f_v1⟩ ?_
 have hr0 := hr; clear hr q2
 rintro k R w ⟨y4, hr, hA, hF, h0, h1, h7, h8, f_v0, f_v1⟩
 rcases k with _ | k
 cases (show none = some _ from hr)
 rw [M_slices_Index_string_string_L0] at hr
 refine HT.seq ?_
 refine HT.u hA hF (eB (decide (y4 < (p0.length : Int))) :: []) ?_ ?_
 exact Obls.p (fun R' w' hw hs hd => of_lss ((hs 8 rfl).trans h8) ((hs 7 rfl).trans h7)) <| Obls.nil
 intro R w hw hs hF' hA hF
 obtain ⟨h0, h1, h7, h8⟩ := k4 hs h0 h1 h7 h8
 have h9 := hF'.r 0 rfl
 replace f_v0 := f_v0.fr hw
 replace f_v1 := f_v1.fr hw
 refine HT.seq ?_
 refine HT.cond (decide (y4 < (p0.length : Int))) h9 (fun c5 => ?_) (fun c5 => ?_)
 have hr := cnd_t c5 hr
 refine HT.skip ?_
 refine HT.seq ?_
 refine HT.block ?_
 refine HT.seq ?_
 refine HT.u hA hF (eI y4 :: eI y4 :: []) ?_ ?_
 exact Obls.m h8 <| Obls.a <| Obls.nil
 intro R w hw hs hF' hA hF
 obtain ⟨h0, h1, h7, h8⟩ := k4 hs h0 h1 h7 h8
 have h5 := hF'.r 1 rfl
 replace f_v0 := f_v0.fr hw
 replace f_v1 := f_v1.fr hw
 refine HT.seq ?_
 obtain ⟨e6, hr⟩ := ck_some hr
 refine HT.u hA hF (eR v1 :: eR v0 :: eI y4 :: eF (.qtr eStr A (gtD p0 y4)) :: eF (.rep eStr A (gtD p0 y4)) :: eB (p1 == (gtD p0 y4)) :: []) ?_ ?_
 exact Obls.m h1 <| Obls.m h0 <| Obls.m h5 <| Obls.p (fun R' w' hw hs hd => of_indexAddr ((f_v0.fr hw).eq (hd.g 0 rfl)) (hd.g 1 rfl) Tryz.underlying46 Tryz.sizeOf9 e6) <| Obls.p (fun R' w' hw hs hd => (of_load (QRep.ptr (hd.g 0 rfl)) Tryz.isAgg9 Tryz.sizeOf9)) <| Obls.p (fun R' w' hw hs hd => of_seql ((f_v1.fr hw).eq (hd.g 0 rfl)) (hd.g 1 rfl)) <| Obls.nil
 intro R w hw hs hF' hA hF
 obtain ⟨h0, h1, h5, h7, h8⟩ := k5 hs h0 h1 h5 h7 h8
 have h16 := hF'.r 5 rfl
 replace f_v0 := f_v0.fr hw
 replace f_v1 := f_v1.fr hw
 refine HT.cond (p1 == (gtD p0 y4)) h16 (fun c7 => ?_) (fun c7 => ?_)
 have hr := cnd_t c7 hr
 refine HT.seq ?_
 refine HT.u hA hF (eI y4 :: eI y4 :: []) ?_ ?_
 exact Obls.m h5 <| Obls.a <| Obls.nil
 intro R w hw hs hF' hA hF
 have h4 := hF'.r 1 rfl
 refine HT.ret ?_
 obtain rfl := Option.some.inj hr
 have hr := hr0
 replace hr : some _ = some _ := hr
 obtain rfl := Option.some.inj hr
 exact ⟨.inr rfl, [R 4], ⟨rfl, trivial⟩, h4, hF⟩
 have hr := cnd_f c7 hr
 refine HT.skip ?_
 obtain ⟨e8, hr⟩ := ck_some hr
 refine HT.u hA hF (eI (y4 + (1 : Int)) :: eI (y4 + (1 : Int)) :: []) ?_ ?_
 exact Obls.p (fun R' w' hw hs hd => of_add ((hs 8 rfl).trans h8) rfl e8) <| Obls.v <| Obls.nil
 intro R w hw hs hF' hA hF
 obtain ⟨h0, h1, h7⟩ := k3 hs h0 h1 h7
 have h8 := hF'.r 1 rfl
 replace f_v0 := f_v0.fr hw
 replace f_v1 := f_v1.fr hw
 exact Exists.intro k (And.intro (Nat.lt_succ_self k) ⟨_, hr, hA, hF, h0, h1, h7, h8, f_v0, f_v1⟩)
 have hr := cnd_f c5 hr
 refine HT.exit ?_
 obtain rfl := Option.some.inj hr
 exact Exists.intro _ ⟨rfl, hA, hF⟩
 rintro R w ⟨s3, rfl, hA, hF⟩
 have hr := exM_go hr
 refine HT.seq ?_
 refine HT.u hA hF (eI (-1) :: []) ?_ ?_
 exact Obls.p (fun R' w' hw hs hd => of_assign rfl) <| Obls.nil
 intro R w hw hs hF' hA hF
 have h4 := hF'.r 0 rfl
 refine HT.ret ?_
 obtain rfl := Option.some.inj hr
 exact ⟨.inr rfl, [R 4], ⟨rfl, trivial⟩, h4, hF⟩
def M_slices_Contains_string_string (fu : Nat) (p0 : List (List UInt8)) (p1 : List UInt8) : Option Bool :=
 cl true (M_slices_Index_string_string fu p0 p1) fun x1 =>
 some (decide (0 ≤ x1))
theorem M_slices_Contains_string_string_ok {fu : Nat} {A : Av} {p0 : List (List UInt8)} {p1 : List UInt8} {r : Bool} (hr : M_slices_Contains_string_string fu p0 p1 = some r) {w : World} {v0 : Value} {v1 : Value} (hA : AvOK A w) (h0 : Rep (eSl eStr) A w v0 p0) (h1 : Rep eStr A w v1 p1) :
 Calls Tryz.prog 170 #[v0, v1] w fun e w' => ∃ v, e = .returned v ∧ (v = .bool r ∧ Fr w w') := by
 unfold M_slices_Contains_string_string at hr
 obtain ⟨w0, hw0⟩ : ∃ w0, w0 = w := ⟨_, rfl⟩
 have hF : Fr w0 w := hw0 ▸ Fr.refl _
 rw [show Fr w = Fr w0 from hw0 ▸ rfl]
 clear hw0
 refine calls_of_HT2 [.tmp 4] Tryz.func170 Tryz.ntmps170 (by decide) rfl rfl (Nat.le_of_ble_eq_true rfl) ?_
 intro R hR
 have f_v0 := h0
 replace h0 : R 0 = v0 := hR 0 _ rfl
 have f_v1 := h1
 replace h1 : R 1 = v1 := hR 1 _ rfl
 clear hR
 refine HT.seq ?_
 refine HT.u hA hF (eB false :: []) ?_ ?_
 exact Obls.p (fun R' w' hw hs hd => of_assign rfl) <| Obls.nil
 intro R w hw hs hF' hA hF
 obtain ⟨h0, h1⟩ := k2 hs h0 h1
 replace f_v0 := f_v0.fr hw
 replace f_v1 := f_v1.fr hw
 refine HT.seq ?_
 obtain ⟨x1, q2, hr⟩ := cl_some hr
 refine HT.u hA hF (eR v0 :: eR v1 :: eI x1 :: eB (decide ((0 : Int) ≤ x1)) :: eB (decide ((0 : Int) ≤ x1)) :: []) ?_ ?_
 exact Obls.m h0 <| Obls.m h1 <| Obls.p (fun R' w' hw hs hd => of_call Tryz.call219 (M_slices_Index_string_string_ok (q2 rfl) (hA.fr hw.size) ((f_v0.fr hw).eq (hd.g 0 rfl)) ((f_v1.fr hw).eq (hd.g 1 rfl)))) <| Obls.p (fun R' w' hw hs hd => of_geq (hd.g 0 rfl) rfl) <| Obls.a <| Obls.nil
 intro R w hw hs hF' hA hF
 have h4 := hF'.r 4 rfl
 refine HT.ret ?_
 obtain rfl := Option.some.inj hr
 exact ⟨.inr rfl, [R 4], ⟨rfl, trivial⟩, h4, hF⟩
def M_impl_CommonTokens_1 (fu : Nat) (p0 : List UInt8) (p1 : List (List UInt8)) : Option Bool :=
 cl true (M_slices_Contains_string_string fu p1 p0) fun x1 =>
 some (!x1)
theorem M_impl_CommonTokens_1_ok {fu : Nat} {A : Av} {p0 : List UInt8} {p1 : List (List UInt8)} {r : Bool} (hr : M_impl_CommonTokens_1 fu p0 p1 = some r) {w : World} {v0 : Value} {v1 : Value} (hA : AvOK A w) (h0 : Rep eStr A w v0 p0) (h1 : PRep (eSl eStr) A w v1 p1) :
 Calls Tryz.prog 169 #[v0, v1] w fun e w' => ∃ v, e = .returned v ∧ (v = .bool r ∧ Fr w w') := by
 unfold M_impl_CommonTokens_1 at hr
 obtain ⟨w0, hw0⟩ : ∃ w0, w0 = w := ⟨_, rfl⟩
 have hF : Fr w0 w := hw0 ▸ Fr.refl _
 rw [show Fr w = Fr w0 from hw0 ▸ rfl]
 have f_v1 : CRep (eSl eStr) A w w0.heap.size v1 p1 := by subst hw0; exact CRep.mk' h1
 clear hw0
 refine calls_of_HT2 [.tmp 3] Tryz.func169 Tryz.ntmps169 (by decide) rfl rfl (Nat.le_of_ble_eq_true rfl) ?_
 intro R hR
 have f_v0 := h0
 replace h0 : R 0 = v0 := hR 0 _ rfl
 replace h1 : R 1 = v1 := hR 1 _ rfl
 clear hR
 refine HT.seq ?_
 refine HT.u hA hF (eB false :: []) ?_ ?_
 exact Obls.p (fun R' w' hw hs hd => of_assign rfl) <| Obls.nil
 intro R w hw hs hF' hA hF
 obtain ⟨h0, h1⟩ := k2 hs h0 h1
 replace f_v1 := f_v1.fr hw
 replace f_v0 := f_v0.fr hw
 refine HT.seq ?_
 obtain ⟨x1, q2, hr⟩ := cl_some hr
 refine HT.u hA hF (eF (.rep (eSl eStr) A p1) :: eR v0 :: eB x1 :: eB (!x1) :: eB (!x1) :: []) ?_ ?_
 exact Obls.p (fun R' w' hw hs hd => (of_load ((f_v1.fr hw).ptr ((hs 1 rfl).trans h1)) Tryz.isAgg46 Tryz.sizeOf46)) <| Obls.m h0 <| Obls.p (fun R' w' hw hs hd => of_call Tryz.call170 (M_slices_Contains_string_string_ok (q2 rfl) (hA.fr hw.size) (hd.g 0 rfl) ((f_v0.fr hw).eq (hd.g 1 rfl)))) <| Obls.p (fun R' w' hw hs hd => of_not (hd.g 0 rfl)) <| Obls.a <| Obls.nil
 intro R w hw hs hF' hA hF
 have h3 := hF'.r 4 rfl
 refine HT.ret ?_
 obtain rfl := Option.some.inj hr
 exact ⟨.inr rfl, [R 3], ⟨rfl, trivial⟩, h3, hF⟩
def M_slices_DeleteFunc_string_string_L0 (fu : Nat) (p1 : (List UInt8) → Option Bool) : Nat → Int → Int → (List (List UInt8)) → Option (Int × (List (List UInt8)))
 | 0, _, _, _ => none
 | k + 1, y8, y9, y10 =>
 bif (decide (y9 < (y10.length : Int))) then (
 ck (inR y9 y10.length) <|
 cl true (p1 (gtD y10 y9)) fun x14 =>
 bif (!x14) then (
 ck (inR y8 y10.length) <|
 ck (i64B (y8 + 1)) <|
 ck (i64B (y9 + 1)) <|
 M_slices_DeleteFunc_string_string_L0 fu p1 k (y8 + 1) (y9 + 1) (y10.set y8.toNat (gtD y10 y9))
 ) else (
 ck (i64B (y9 + 1)) <|
 M_slices_DeleteFunc_string_string_L0 fu p1 k y8 (y9 + 1) y10
 )
 ) else (
 some (y8, y10)
 )
def M_slices_DeleteFunc_string_string (fu : Nat) (p0 : List (List UInt8)) (p1 : (List UInt8) → Option Bool) : Option (List (List UInt8)) :=
 cl true (M_slices_IndexFunc_string_string fu p0 p1) fun x1 =>
 bif (x1 == (-1)) then (
 some p0
 ) else (
 ck (i64B (x1 + 1)) <|
 cl true (M_slices_DeleteFunc_string_string_L0 fu p1 fu x1 (x1 + 1) p0) fun s7 =>
 ck (subR s7.1 (s7.2.length : Int) s7.2.length) <|
 bd ((s7.2.length : Int).toNat - s7.1.toNat) fun x24 =>
 ck (subR s7.1 s7.2.length s7.2.length) <|
 ck (x24 == s7.2.length - s7.1.toNat) <|
 ck (subR 0 s7.1 (s7.2.take s7.1.toNat ++ List.replicate (s7.2.length - s7.1.toNat) ([] : List UInt8)).length) <|
 some (subL (s7.2.take s7.1.toNat ++ List.replicate (s7.2.length - s7.1.toNat) ([] : List UInt8)) 0 s7.1)
 )
theorem M_slices_DeleteFunc_string_string_ok {fu : Nat} {A0 : Av} {p0 : List (List UInt8)} {p1 : (List UInt8) → Option Bool} {r : List (List UInt8)} (hr : M_slices_DeleteFunc_string_string fu p0 p1 = some r) {w : World} {v0 : Value} {v1 : Value} {B0 : Nat} (hA : AvOK A0 w) (hN : ∀ b o, A0 b o → ¬ ownsB v0 b) (h0 : (Res.vec B0 9 eStr p0).ok A0 v0 w) (h1 : FnK1 Tryz.prog eStr (fun r => .raw (.bool r)) A0 (ownsB v0) w v1 p1) :
 Calls Tryz.prog 168 #[v0, v1] w fun e w' => ∃ v, e = .returned v ∧ Took (addA A0 v0) true v0 (.vec B0 9 eStr r) (fun _ => .any) w v w' := by
 unfold M_slices_DeleteFunc_string_string at hr
 obtain ⟨w0, hw0⟩ : ∃ w0, w0 = w := ⟨_, rfl⟩
 have hF : Ch (ownsB v0) w0 w := hw0 ▸ Ch.refl _ _
 have hA0 : ∀ b o, A0 b o → b < w0.heap.size := fun b o h => hw0 ▸ hA b o h
 have hA00 : AvOK A0 w0 := hA0
 rw [show Took (addA A0 v0) true v0 (.vec B0 9 eStr r) (fun _ => .any) w = Took (addA A0 v0) true v0 (.vec B0 9 eStr r) (fun _ => .any) w0 from hw0 ▸ rfl]
 have f_v1 : FnK1 Tryz.prog eStr (fun r => .raw (.bool r)) A0 (ownsB v0) w0 v1 p1 := hw0 ▸ h1
 clear hw0
 obtain ⟨A, hAe⟩ : ∃ A, A = addA A0 v0 := ⟨_, rfl⟩
 have hAA : ∀ b o, A0 b o → A b o := fun b o h => hAe ▸ .inl h
 replace hA : AvOK A w := hAe ▸ hA.one h0
 have hO : IniOK [ob v0 (.vec B0 9 eStr p0)] A w := hAe ▸ IniOK.one h0 (fun _ _ _ _ _ h => h)
 refine calls_of_HT2 [.tmp 4] Tryz.func168 Tryz.ntmps168 (by decide) rfl rfl (Nat.le_of_ble_eq_true rfl) ?_
 intro R hR
 replace h0 : R 0 = v0 := hR 0 _ rfl
 replace h1 : R 1 = v1 := hR 1 _ rfl
 clear hR hAe
 refine HT.seq ?_
 refine HT.t (eA :: []) ?_ ?_
 exact Obls.p (fun R' w' hw hs hd => of_assign trivial) <| Obls.nil
 intro R w hw hs hF'
 obtain ⟨h0, h1⟩ := k2 hs h0 h1
 replace hO := hO.fr hw
 replace hA := hA.fr hw.size
 replace hF := hF.tr (hw.ch noB) fun _ h => False.elim h
 refine HT.seq ?_
 obtain ⟨x1, q2, hr⟩ := cl_some hr
 refine HT.t (eR v0 :: eR v1 :: eI x1 :: eI x1 :: []) ?_ ?_
 exact Obls.m h0 <| Obls.m h1 <| Obls.p (fun R' w' hw hs hd => of_call Tryz.call211 (M_slices_IndexFunc_string_string_ok (q2 rfl) (hA00.fr ((Nat.le_trans hF.size hw.size))) ((vec_repK ((hO.fr hw).ok 0 _ rfl).1 hAA hA0 hN (fun k h => .inr h)).eq (hd.g 0 rfl)) ((f_v1.on (hF.tr (hw.ch noB) fun _ h => False.elim h) (fun _ _ h => False.elim h) (fun _ _ h => h)).eq (hd.g 1 rfl)))) <| Obls.a <| Obls.nil
 intro R w hw hs hF'
 obtain ⟨h0, h1⟩ := k2 hs h0 h1
 have h5 := hF'.r 3 rfl
 replace hO := hO.fr hw
 replace hA := hA.fr hw.size
 replace hF := hF.tr (hw.ch noB) fun _ h => False.elim h
 refine HT.seq ?_
 refine HT.seq ?_
 refine HT.t (eI x1 :: eB (x1 == (-1 : Int)) :: []) ?_ ?_
 exact Obls.m h5 <| Obls.p (fun R' w' hw hs hd => of_eql (hd.g 0 rfl) rfl) <| Obls.nil
 intro R w hw hs hF'
 obtain ⟨h0, h1, h5⟩ := k3 hs h0 h1 h5
 have h12 := hF'.r 1 rfl
 replace hO := hO.fr hw
 replace hA := hA.fr hw.size
 replace hF := hF.tr (hw.ch noB) fun _ h => False.elim h
 refine HT.cond (x1 == (-1 : Int)) h12 (fun c3 => ?_) (fun c3 => ?_)
 have hr := cnd_t c3 hr
 refine HT.seq ?_
 refine HT.t (eR v0 :: eR v0 :: []) ?_ ?_
 exact Obls.m h0 <| Obls.a <| Obls.nil
 intro R w hw hs hF'
 have h4 := hF'.r 1 rfl
 replace hO := hO.fr hw
 replace hA := hA.fr hw.size
 replace hF := hF.tr (hw.ch noB) fun _ h => False.elim h
 refine HT.ret ?_
 obtain rfl := Option.some.inj hr
 exact ⟨.inr rfl, [R 4], ⟨rfl, trivial⟩, by show Took _ true _ _ _ w0 (R 4) w; rw [h4]; exact took_post (fun k h o => .inr h) hF (hO.ok 0 _ rfl).1 (hO.own_ge (⟨.inr (fun k h => .inr h), trivial⟩) (i := 0) rfl) (fun _ _ _ _ _ h => h)⟩
 have hr := cnd_f c3 hr
 refine HT.skip ?_
 refine HT.seq ?_
 refine HT.seq ?_
 obtain ⟨e4, hr⟩ := ck_some hr
 refine HT.t (eI x1 :: eI (x1 + (1 : Int)) :: eI (x1 + (1 : Int)) :: []) ?_ ?_
 exact Obls.m h5 <| Obls.p (fun R' w' hw hs hd => of_add (hd.g 0 rfl) rfl e4) <| Obls.a <| Obls.nil
 intro R w hw hs hF'
 obtain ⟨h0, h1, h5⟩ := k3 hs h0 h1 h5
 have h6 := hF'.r 2 rfl
 replace hO := hO.fr hw
 replace hA := hA.fr hw.size
 replace hF := hF.tr (hw.ch noB) fun _ h => False.elim h
 obtain ⟨rl5, q6, hr⟩ := cl_some hr
 replace q6 := q6 rfl
 refine HT.cut0 (fun R w => ∃ A : Av, ∃ (s7 : Int × (List (List UInt8))), rl5 = s7 ∧ AvOK A w ∧ Ch (ownsB v0) w0 w ∧ (∀ b o, A0 b o → A b o) ∧ IniOK [ob v0 (.vec B0 9 eStr s7.2)] A w ∧ R 0 = v0 ∧ R 5 = .int .i64 s7.1) ?_ ?_
 refine HT.block ?_
 refine HT.loop (fun k R w => ∃ A : Av, ∃ (y8 : Int) (y9 : Int) (y10 : List (List UInt8)), M_slices_DeleteFunc_string_string_L0 fu p1 k y8 y9 y10 = some rl5 ∧ AvOK A w ∧ Ch (ownsB v0) w0 w ∧ (∀ b o, A0 b o → A b o) ∧ IniOK [ob v0 (.vec B0 9 eStr y10)] A w ∧ R 0 = v0 ∧ R 1 = v1 ∧ R 5 = .int .i64 y8 ∧ R 6 = .int .i64 y9) fu ⟨_, _, _, _, q6, hA, hF, hAA, hO, h0, h1, h5, h6⟩ ?_
 have hr0 := hr; clear hr q6
 rintro k R w ⟨A, y8, y9, y10, hr, hA, hF, hAA, hO, h0, h1, h5, h6⟩
 rcases k with _ | k
 cases (show none = some _ from hr)
 rw [M_slices_DeleteFunc_string_string_L0] at hr
 refine HT.seq ?_
 refine HT.seq ?_
 refine HT.t (eI y9 :: eR v0 :: eI (y10.length : Int) :: eB (decide (y9 < (y10.length : Int))) :: []) ?_ ?_
 exact Obls.m h6 <| Obls.m h0 <| Obls.p (fun R' w' hw hs hd => of_len_vec (hO.ok 0 _ rfl).1 (hd.g 0 rfl) Tryz.underlying46) <| Obls.p (fun R' w' hw hs hd => of_lss (hd.g 0 rfl) (hd.g 1 rfl)) <| Obls.nil
 intro R w hw hs hF'
 obtain ⟨h0, h1, h5, h6⟩ := k4 hs h0 h1 h5 h6
 have h19 := hF'.r 3 rfl
 replace hO := hO.fr hw
 replace hA := hA.fr hw.size
 replace hF := hF.tr (hw.ch noB) fun _ h => False.elim h
 refine HT.cond (decide (y9 < (y10.length : Int))) h19 (fun c11 => ?_) (fun c11 => ?_)
 have hr := cnd_t c11 hr
 refine HT.skip ?_
 refine HT.seq ?_
 refine HT.block ?_
 refine HT.seq ?_
 obtain ⟨e12, hr⟩ := ck_some hr
 refine HT.t (eR v0 :: eI y9 :: eR (vptr v0 (y9.toNat * 1)) :: eF (.rep eStr A (gtD y10 y9)) :: eF (.rep eStr A (gtD y10 y9)) :: []) ?_ ?_
 exact Obls.m h0 <| Obls.m h6 <| Obls.p (fun R' w' hw hs hd => of_indexAddr_vec (hO.ok 0 _ rfl).1 (hd.g 0 rfl) (hd.g 1 rfl) Tryz.underlying46 Tryz.sizeOf9 e12 rfl) <| Obls.p (fun R' w' hw hs hd => (of_load_vec ((hO.fr hw).ok 0 _ rfl).1 (hd.g 0 rfl) e12 rfl (Fld.id _) rfl Tryz.isAgg9 Tryz.sizeOf9)) <| Obls.p (fun R' w' hw hs hd => of_assign (hd.g 0 rfl)) <| Obls.nil
 intro R w hw hs hF'
 obtain ⟨h0, h1, h5, h6⟩ := k4 hs h0 h1 h5 h6
 obtain ⟨u13, h7, f_u13⟩ : ∃ u, R 7 = u ∧ Rep eStr A w u (gtD y10 y9) := ⟨_, rfl, hF' 4 _ _ rfl rfl rfl⟩
 replace hO := hO.fr hw
 replace hA := hA.fr hw.size
 replace hF := hF.tr (hw.ch noB) fun _ h => False.elim h
 refine HT.seq ?_
 obtain ⟨x14, q15, hr⟩ := cl_some hr
 refine HT.t (eR v1 :: eR u13 :: eB x14 :: eB (!x14) :: []) ?_ ?_
 exact Obls.m h1 <| Obls.m h7 <| Obls.p (fun R' w' hw hs hd => by have ra1 := (f_u13.fr hw).eq (hd.g 1 rfl); exact of_callv (hd.g 0 rfl) (f_v1 _ _ (q15 rfl) _ _ (hF.tr (hw.ch noB) fun _ h => False.elim h) (hA00.fr (Nat.le_trans hF.size hw.size)) (ra1.less hAA))) <| Obls.p (fun R' w' hw hs hd => of_not (hd.g 0 rfl)) <| Obls.nil
 intro R w hw hs hF'
 obtain ⟨h0, h1, h5, h6, h7⟩ := k5 hs h0 h1 h5 h6 h7
 have h29 := hF'.r 3 rfl
 replace f_u13 := f_u13.fr hw
 replace hO := hO.fr hw
 replace hA := hA.fr hw.size
 replace hF := hF.tr (hw.ch noB) fun _ h => False.elim h
 refine HT.cond (!x14) h29 (fun c16 => ?_) (fun c16 => ?_)
 have hr := cnd_t c16 hr
 refine HT.seq ?_
 obtain ⟨e17, hr⟩ := ck_some hr
 refine HT.textR [ob v0 (.vec B0 9 eStr y10)] (rR v0 :: rI y8 :: rR u13 :: rR (vptr v0 (y8.toNat * 1)) :: ⟨_, true, [0], some (.vec B0 9 eStr (y10.set y8.toNat (gtD y10 y9))), false, fun A => .any⟩ :: []) (by kernel_rfl) (by kernel_rfl) (Wf.mk' (by kernel_rfl) (ur (ur (ur (ur (ua (UAll.nil)))))) (by kernel_rfl) (by kernel_rfl)) hO hA ?_ ?_
 exact OblsR.m h0 <| OblsR.m h5 <| OblsR.m h7 <| OblsR.p (fun A' R' w' ho hd => of_indexAddr_vec (hO.ok 0 _ rfl).1 (hd.g 0 rfl) (hd.g 1 rfl) Tryz.underlying46 Tryz.sizeOf9 e17 rfl) <| OblsR.cons (OblR.took 0 _ _ rfl rfl rfl rfl rfl fun A' R' w' ho hd u hok hav hin hop hds => by have a0 : R' 33 = (vptr v0 (y8.toNat * 1)) := hd.g 0 rfl; have a1 : R' 32 = u13 := hd.g 1 rfl; have ra1 := (f_u13.stp ho.stp).eq a1; obtain rfl := hin _ rfl; exact took_vstore ra1 hok hav a0 e17 rfl (FldS.id _) Tryz.sizeOf9 rfl) <| OblsR.nil
 intro done ρ σ A R w hdn hI
 obtain ⟨h0, h1, h5, h6⟩ := k4 hI.rg h0 h1 h5 h6
 have z18 := hI.inivR 0 rfl
 have z19 := (hI.opnR hdn 5 4 rfl rfl rfl rfl rfl).trans z18
 replace hAA := hI.lowK hAA hA0 hN (hO.geK (⟨.inr (fun k h => .inr h), trivial⟩))
 replace hF : Ch (ownsB v0) w0 w := hF.tr hI.ch (hO.geK (⟨.inr (fun k h => .inr h), trivial⟩))
 replace hO := hI.left hdn [(5, ob v0 (.vec B0 9 eStr (y10.set y8.toNat (gtD y10 y9))))] ⟨rfl, rfl, z19, rfl, rfl, trivial⟩
 replace hA := hI.avok
 clear hI
 obtain ⟨e20, hr⟩ := ck_some hr
 refine HT.t (eI y8 :: eI (y8 + (1 : Int)) :: eI (y8 + (1 : Int)) :: []) ?_ ?_
 exact Obls.m h5 <| Obls.p (fun R' w' hw hs hd => of_add (hd.g 0 rfl) rfl e20) <| Obls.a <| Obls.nil
 intro R w hw hs hF'
 obtain ⟨h0, h1, h6⟩ := k3 hs h0 h1 h6
 have h5 := hF'.r 2 rfl
 replace hO := hO.fr hw
 replace hA := hA.fr hw.size
 replace hF := hF.tr (hw.ch noB) fun _ h => False.elim h
 obtain ⟨e21, hr⟩ := ck_some hr
 refine HT.t (eI y9 :: eI (y9 + (1 : Int)) :: eI (y9 + (1 : Int)) :: []) ?_ ?_
 exact Obls.m h6 <| Obls.p (fun R' w' hw hs hd => of_add (hd.g 0 rfl) rfl e21) <| Obls.a <| Obls.nil
 intro R w hw hs hF'
 obtain ⟨h0, h1, h5⟩ := k3 hs h0 h1 h5
 have h6 := hF'.r 2 rfl
 replace hO := hO.fr hw
 replace hA := hA.fr hw.size
 replace hF := hF.tr (hw.ch noB) fun _ h => False.elim h
 exact Exists.intro k (And.intro (Nat.lt_succ_self k) ⟨_, _, _, _, hr, hA, hF, hAA, hO, h0, h1, h5, h6⟩)
 have hr := cnd_f c16 hr
 refine HT.skip ?_
 obtain ⟨e22, hr⟩ := ck_some hr
 refine HT.t (eI y9 :: eI (y9 + (1 : Int)) :: eI (y9 + (1 : Int)) :: []) ?_ ?_
 exact Obls.m h6 <| Obls.p (fun R' w' hw hs hd => of_add (hd.g 0 rfl) rfl e22) <| Obls.a <| Obls.nil
 intro R w hw hs hF'
 obtain ⟨h0, h1, h5⟩ := k3 hs h0 h1 h5
 have h6 := hF'.r 2 rfl
 replace hO := hO.fr hw
 replace hA := hA.fr hw.size
 replace hF := hF.tr (hw.ch noB) fun _ h => False.elim h
 exact Exists.intro k (And.intro (Nat.lt_succ_self k) ⟨_, _, _, _, hr, hA, hF, hAA, hO, h0, h1, h5, h6⟩)
 have hr := cnd_f c11 hr
 refine HT.exit ?_
 obtain rfl := Option.some.inj hr
 exact Exists.intro _ ⟨_, rfl, hA, hF, hAA, hO, h0, h5⟩
 rintro R w ⟨A, s7, es, hA, hF, hAA, hO, h0, h5⟩
 obtain rfl := es.symm
 refine HT.seq ?_
 obtain ⟨e23, hr⟩ := ck_some hr
 obtain ⟨x24, q25, hr⟩ := bd_some hr
 obtain ⟨e26, hr⟩ := ck_some hr
 obtain ⟨e27, hr⟩ := ck_some hr
 refine HT.textR [ob v0 (.vec B0 9 eStr s7.2)] (rR v0 :: rI s7.1 :: rR (vsub v0 s7.1.toNat x24 1) :: ⟨_, true, [0], some (.vec B0 9 eStr (s7.2.take s7.1.toNat ++ List.replicate (s7.2.length - s7.1.toNat) ([] : List UInt8))), false, fun A => .any⟩ :: []) (by kernel_rfl) (by kernel_rfl) (Wf.mk' (by kernel_rfl) (ur (ur (ur (ua (UAll.nil))))) (by kernel_rfl) (by kernel_rfl)) hO hA ?_ ?_
 exact OblsR.m h0 <| OblsR.m h5 <| OblsR.p (fun A' R' w' ho hd => (q25 ▸ of_view (hO.ok 0 _ rfl).1 (hd.g 0 rfl) (hd.g 1 rfl) Tryz.underlying46 Tryz.sizeOf9 e23)) <| OblsR.cons (OblR.took 0 _ _ rfl rfl rfl rfl rfl fun A' R' w' ho hd u hok hav hin hop hds => by have a0 : R' 38 = (vsub v0 s7.1.toNat x24 1) := hd.g 0 rfl; obtain rfl := hin _ rfl; exact took_clear a0 hok hav Tryz.underlying46 rfl Tryz.zeroValue9 (fun A w => (rep1_str rfl (by decide))) e26 e27 rfl) <| OblsR.nil
 intro done ρ σ A R w hdn hI
 obtain ⟨h0, h5⟩ := k2 hI.rg h0 h5
 have z28 := hI.inivR 0 rfl
 have z29 := (hI.opnR hdn 4 3 rfl rfl rfl rfl rfl).trans z28
 replace hAA := hI.lowK hAA hA0 hN (hO.geK (⟨.inr (fun k h => .inr h), trivial⟩))
 replace hF : Ch (ownsB v0) w0 w := hF.tr hI.ch (hO.geK (⟨.inr (fun k h => .inr h), trivial⟩))
 replace hO := hI.left hdn [(4, ob v0 (.vec B0 9 eStr (s7.2.take s7.1.toNat ++ List.replicate (s7.2.length - s7.1.toNat) ([] : List UInt8))))] ⟨rfl, rfl, z29, rfl, rfl, trivial⟩
 replace hA := hI.avok
 clear hI
 refine HT.seq ?_
 obtain ⟨e30, hr⟩ := ck_some hr
 refine HT.textR [ob v0 (.vec B0 9 eStr (s7.2.take s7.1.toNat ++ List.replicate (s7.2.length - s7.1.toNat) ([] : List UInt8)))] (rR v0 :: rI s7.1 :: ⟨_, true, [0], some (.vec B0 9 eStr (subL (s7.2.take s7.1.toNat ++ List.replicate (s7.2.length - s7.1.toNat) ([] : List UInt8)) 0 s7.1)), true, fun A => .any⟩ :: ⟨_, true, [3], some (.vec B0 9 eStr (subL (s7.2.take s7.1.toNat ++ List.replicate (s7.2.length - s7.1.toNat) ([] : List UInt8)) 0 s7.1)), true, fun A => .any⟩ :: []) (by kernel_rfl) (by kernel_rfl) (Wf.mk' (by kernel_rfl) (ur (ur (ua (ua (UAll.nil))))) (by kernel_rfl) (by kernel_rfl)) hO hA ?_ ?_
 exact OblsR.m h0 <| OblsR.m h5 <| OblsR.cons (OblR.took 0 _ _ rfl rfl rfl rfl rfl fun A' R' w' ho hd u hok hav hin hop hds => by have a0 : R' 39 = v0 := hd.g 0 rfl; have a1 : R' 40 = .int .i64 s7.1 := hd.g 1 rfl; exact took_prefix (a0.trans (hin _ rfl).symm) hok hav a1 Tryz.underlying46 Tryz.sizeOf9 e30 rfl) <| OblsR.cons (OblR.took 3 _ _ rfl rfl rfl rfl rfl fun A' R' w' ho hd u hok hav hin hop hds => by exact took_assign (hop _ _ rfl rfl rfl rfl).symm hok hav) <| OblsR.nil
 intro done ρ σ A R w hdn hI
 obtain ⟨u31, e_u31⟩ : ∃ u, ρ 4 = u := ⟨_, rfl⟩
 have h4 : R 4 = u31 := (hI.opvR hdn 4 3 rfl rfl rfl rfl rfl).symm.trans e_u31
 have hK_u31 : ∀ k, ownsB u31 k → w0.heap.size ≤ k ∨ (ownsB v0) k := hI.geK hdn 4 rfl rfl rfl e_u31 (hO.geK (⟨.inr (fun k h => .inr h), trivial⟩)) hF.size
 replace hAA := hI.lowK hAA hA0 hN (hO.geK (⟨.inr (fun k h => .inr h), trivial⟩))
 replace hF : Ch (ownsB v0) w0 w := hF.tr hI.ch (hO.geK (⟨.inr (fun k h => .inr h), trivial⟩))
 replace hO := hI.left hdn [(4, ob u31 (.vec B0 9 eStr (subL (s7.2.take s7.1.toNat ++ List.replicate (s7.2.length - s7.1.toNat) ([] : List UInt8)) 0 s7.1)))] ⟨rfl, rfl, e_u31, rfl, rfl, trivial⟩
 replace hA := hI.avok
 clear hI
 refine HT.ret ?_
 obtain rfl := Option.some.inj hr
 exact ⟨.inr rfl, [R 4], ⟨rfl, trivial⟩, by show Took _ true _ _ _ w0 (R 4) w; rw [h4]; exact took_post (fun k h o => .inr h) hF (hO.ok 0 _ rfl).1 (hO.own_ge (⟨.inr hK_u31, trivial⟩) (i := 0) rfl) (fun _ _ _ _ _ h => h)⟩
def M_impl_CommonTokens (fu : Nat) (p0 : List (List UInt8)) (p1 : List (List UInt8)) : Option (List (List UInt8)) :=
 cl true (M_impl_sortedSet fu p0) fun x2 =>
 cl true (M_slices_DeleteFunc_string_string fu x2 (fun x => M_impl_CommonTokens_1 fu x p1)) fun x4 =>
 some x4
theorem M_impl_CommonTokens_ok {fu : Nat} {A0 : Av} {p0 : List (List UInt8)} {p1 : List (List UInt8)} {r : List (List UInt8)} (hr : M_impl_CommonTokens fu p0 p1 = some r) {w : World} {v0 : Value} {v1 : Value} (hA : AvOK A0 w) (h0 : Rep (eSl eStr) A0 w v0 p0) (h1 : Rep (eSl eStr) A0 w v1 p1) :
 Calls Tryz.prog 117 #[v0, v1] w fun e w' => ∃ v, e = .returned v ∧ ((Res.vec w.heap.size 9 eStr r).ok (addA A0 v) v w' ∧ Fr w w') := by
 unfold M_impl_CommonTokens at hr
 obtain ⟨w0, hw0⟩ : ∃ w0, w0 = w := ⟨_, rfl⟩
 have hF : Fr w0 w := hw0 ▸ Fr.refl _
 have hA0 : ∀ b o, A0 b o → b < w0.heap.size := fun b o h => hw0 ▸ hA b o h
 have hA00 : AvOK A0 w0 := hA0
 rw [show w.heap.size = w0.heap.size from hw0 ▸ rfl]
 rw [show Fr w = Fr w0 from hw0 ▸ rfl]
 clear hw0
 obtain ⟨A, hAe⟩ : ∃ A, A = A0 := ⟨_, rfl⟩
 have hAA : ∀ b o, A0 b o → A b o := fun b o h => hAe ▸ h
 replace hA : AvOK A w := hAe ▸ hA
 have hO : IniOK [] A w := IniOK.nil
 refine calls_of_HT2 [.tmp 4] Tryz.func117 Tryz.ntmps117 (by decide) rfl rfl (Nat.le_of_ble_eq_true rfl) ?_
 intro R hR
 have f_v0 : Rep (eSl eStr) A w v0 p0 := hAe ▸ h0
 replace h0 : R 0 = v0 := hR 0 _ rfl
 have f_v1 : Rep (eSl eStr) A w v1 p1 := hAe ▸ h1
 replace h1 : R 1 = v1 := hR 1 _ rfl
 clear hR hAe
 refine HT.seq ?_
 refine HT.textR [] (⟨_, true, [], some (.box w0.heap.size 46 (eSl eStr) p1), true, fun A => .any⟩ :: rA :: []) (by kernel_rfl) (by kernel_rfl) (Wf.mk' (by kernel_rfl) (ua (ua (UAll.nil))) (by kernel_rfl) (by kernel_rfl)) hO hA ?_ ?_
 exact OblsR.cons (OblR.made _ rfl rfl rfl rfl fun A' R' w' ho hd => by have a0 : R' 1 = v1 := (ho.old 1 rfl).trans h1; have ra0 := (f_v1.stp ho.stp).eq a0; exact made_box ra0 (Nat.le_trans hF.size ho.ch.size)) <| OblsR.p (fun A' R' w' ho hd => of_assign trivial) <| OblsR.nil
 intro done ρ σ A R w hdn hI
 replace h0 := k1 hI.rg h0
 obtain ⟨b3_0, e_b3_0⟩ := hI.boxv hdn 0 rfl rfl
 have h3 : R 3 = (.pointer (some ⟨b3_0, 0, none⟩)) := (hI.opvR hdn 0 0 rfl rfl rfl rfl rfl).symm.trans e_b3_0
 replace f_v0 := f_v0.stp hI.stp
 replace hAA := hI.low' hAA hA0 (hO.ge (trivial))
 replace hF : Fr w0 w := hF.tr hI.ch (hO.ge (trivial))
 replace hO := hI.left hdn [(0, ob (.pointer (some ⟨b3_0, 0, none⟩)) (.box w0.heap.size 46 (eSl eStr) p1))] ⟨rfl, rfl, e_b3_0, rfl, rfl, trivial⟩
 replace hA := hI.avok
 clear hI
 refine HT.seq ?_
 obtain ⟨x2, q3, hr⟩ := cl_some hr
 obtain ⟨x4, q5, hr⟩ := cl_some hr
 refine HT.textR [ob (.pointer (some ⟨b3_0, 0, none⟩)) (.box w0.heap.size 46 (eSl eStr) p1)] (rR v0 :: ⟨_, true, [], some (.vec w0.heap.size 9 eStr x2), true, fun A => .any⟩ :: rR (.func (.func 169) #[] #[(.pointer (some ⟨b3_0, 0, none⟩))]) :: ⟨_, true, [2], some (.vec w0.heap.size 9 eStr x4), true, fun A => .any⟩ :: ⟨_, true, [4], some (.vec w0.heap.size 9 eStr x4), true, fun A => .any⟩ :: []) (by kernel_rfl) (by kernel_rfl) (Wf.mk' (by kernel_rfl) (ur (ua (ur (ua (ua (UAll.nil)))))) (by kernel_rfl) (by kernel_rfl)) hO hA ?_ ?_
 exact OblsR.m h0 <| OblsR.cons (OblR.made _ rfl rfl rfl rfl fun A' R' w' ho hd => by have a0 : R' 5 = v0 := hd.g 0 rfl; have ra0 := (f_v0.stp ho.stp).eq a0; exact made_call Tryz.call122 (M_impl_sortedSet_ok (q3 rfl) ho.av ra0) (Nat.le_trans hF.size ho.ch.size)) <| OblsR.p (fun A' R' w' ho hd => of_makeFunc (c := [(.pointer (some ⟨b3_0, 0, none⟩))]) (by simp only [List.map, evalR]; rw [((ho.old 3 rfl).trans h3)])) <| OblsR.cons (OblR.took 2 _ _ rfl rfl rfl rfl rfl fun A' R' w' ho hd u hok hav hin hop hds => by have a1 : R' 7 = (.func (.func 169) #[] #[(.pointer (some ⟨b3_0, 0, none⟩))]) := hd.g 1 rfl; have hu0 : evalR R' (.tmp 6) = u := (hop _ _ rfl rfl rfl rfl).symm; exact took_callm Tryz.call168 hav (by simp only [List.map, hu0]; exact M_slices_DeleteFunc_string_string_ok (q5 rfl) (ho.av.sub _) (fun b o h => h.2) (Vec.flat hok (fun _ _ _ _ _ h => h)) (fnk1_of [(.pointer (some ⟨b3_0, 0, none⟩))] a1 Tryz.call169 (fun x r hr' w'' a hF' hA' ha => M_impl_CommonTokens_1_ok hr' hA' ha (box_prepK (ho.rd 0 _ rfl rfl) hF' hav fun h => hds 0 _ rfl (by decide) rfl _ h rfl))))) <| OblsR.cons (OblR.took 4 _ _ rfl rfl rfl rfl rfl fun A' R' w' ho hd u hok hav hin hop hds => by exact took_assign (hop _ _ rfl rfl rfl rfl).symm hok hav) <| OblsR.nil
 intro done ρ σ A R w hdn hI
 have z6 := hI.inivR 0 rfl
 obtain ⟨u7, e_u7⟩ : ∃ u, ρ 5 = u := ⟨_, rfl⟩
 have h4 : R 4 = u7 := (hI.opvR hdn 5 4 rfl rfl rfl rfl rfl).symm.trans e_u7
 replace hAA := hI.low' hAA hA0 (hO.ge (⟨rfl, trivial⟩))
 replace hF : Fr w0 w := hF.tr hI.ch (hO.ge (⟨rfl, trivial⟩))
 replace hO := hI.left hdn [(5, ob u7 (.vec w0.heap.size 9 eStr x4))] ⟨rfl, rfl, e_u7, rfl, rfl, trivial⟩
 replace hA := hI.avok
 clear hI
 refine HT.ret ?_
 obtain rfl := Option.some.inj hr
 exact ⟨.inr rfl, [R 4], ⟨rfl, trivial⟩, (own_post (hO.ok 0 _ rfl) hAA h4), hF⟩
theorem M_impl_CommonTokens_okR {fu : Nat} {A0 : Av} {p0 : List (List UInt8)} {p1 : List (List UInt8)} {r : List (List UInt8)} (hr : M_impl_CommonTokens fu p0 p1 = some r) {w : World} {v0 : Value} {v1 : Value} (hA : AvOK A0 w) (h0 : Rep (eSl eStr) A0 w v0 p0) (h1 : Rep (eSl eStr) A0 w v1 p1) :
 Calls Tryz.prog 117 #[v0, v1] w fun e w' => ∃ v, e = .returned v ∧ (Rep (eSl eStr) A0 w' v r ∧ Fr w w') := by
 refine Calls.mono (M_impl_CommonTokens_ok hr hA h0 h1) ?_
 rintro e w' ⟨v, he, hv, hf⟩
 exact ⟨v, he, vec_rep hv (fun b o h => .inl h) hA, hf⟩
def M_impl_ShareBlock (fu : Nat) (p0 : T_impl_Record) (p1 : T_impl_Record) : Option Bool :=
 cl true (M_impl_BlockKeys fu p0) fun x3 =>
 cl true (M_impl_BlockKeys fu p1) fun x5 =>
 cl true (M_impl_CommonTokens fu x3 x5) fun x7 =>
 some (decide (0 < (x7.length : Int)))
theorem M_impl_ShareBlock_ok {fu : Nat} {A0 : Av} {p0 : T_impl_Record} {p1 : T_impl_Record} {r : Bool} (hr : M_impl_ShareBlock fu p0 p1 = some r) {w : World} {v0 : Value} {v1 : Value} (hA : AvOK A0 w) (hG : GTab w) (h0 : Rep E_impl_Record A0 w v0 p0) (h1 : Rep E_impl_Record A0 w v1 p1) :
 Calls Tryz.prog 41 #[v0, v1] w fun e w' => ∃ v, e = .returned v ∧ (v = .bool r ∧ Fr w w') := by
 unfold M_impl_ShareBlock at hr
 obtain ⟨w0, hw0⟩ : ∃ w0, w0 = w := ⟨_, rfl⟩
 have hF : Fr w0 w := hw0 ▸ Fr.refl _
 have hA0 : ∀ b o, A0 b o → b < w0.heap.size := fun b o h => hw0 ▸ hA b o h
 have hA00 : AvOK A0 w0 := hA0
 rw [show Fr w = Fr w0 from hw0 ▸ rfl]
 have hG0 : GTab w0 := hw0 ▸ hG
 clear hw0
 obtain ⟨A, hAe⟩ : ∃ A, A = A0 := ⟨_, rfl⟩
 have hAA : ∀ b o, A0 b o → A b o := fun b o h => hAe ▸ h
 replace hA : AvOK A w := hAe ▸ hA
 have hO : IniOK [] A w := IniOK.nil
 refine calls_of_HT2 [.tmp 4] Tryz.func41 Tryz.ntmps41 (by decide) rfl rfl (Nat.le_of_ble_eq_true rfl) ?_
 intro R hR
 have f_v0 : Rep E_impl_Record A w v0 p0 := hAe ▸ h0
 replace h0 : R 0 = v0 := hR 0 _ rfl
 have f_v1 : Rep E_impl_Record A w v1 p1 := hAe ▸ h1
 replace h1 : R 1 = v1 := hR 1 _ rfl
 clear hR hAe
 refine HT.seq ?_
 refine HT.textR [] (⟨_, true, [], some (.box w0.heap.size 51 E_impl_Record p0), true, fun A => .any⟩ :: ⟨_, true, [], some (.box w0.heap.size 51 E_impl_Record p1), true, fun A => .any⟩ :: rB false :: []) (by kernel_rfl) (by kernel_rfl) (Wf.mk' (by kernel_rfl) (ua (ua (ur (UAll.nil)))) (by kernel_rfl) (by kernel_rfl)) hO hA ?_ ?_
 exact OblsR.cons (OblR.made _ rfl rfl rfl rfl fun A' R' w' ho hd => by have a0 : R' 0 = v0 := (ho.old 0 rfl).trans h0; have ra0 := (f_v0.stp ho.stp).eq a0; exact made_box ra0 (Nat.le_trans hF.size ho.ch.size)) <| OblsR.cons (OblR.made _ rfl rfl rfl rfl fun A' R' w' ho hd => by have a0 : R' 1 = v1 := (ho.old 1 rfl).trans h1; have ra0 := (f_v1.stp ho.stp).eq a0; exact made_box ra0 (Nat.le_trans hF.size ho.ch.size)) <| OblsR.p (fun A' R' w' ho hd => of_assign rfl) <| OblsR.nil
 intro done ρ σ A R w hdn hI
 obtain ⟨b2_0, e_b2_0⟩ := hI.boxv hdn 0 rfl rfl
 have h2 : R 2 = (.pointer (some ⟨b2_0, 0, none⟩)) := (hI.opvR hdn 0 0 rfl rfl rfl rfl rfl).symm.trans e_b2_0
 obtain ⟨b3_1, e_b3_1⟩ := hI.boxv hdn 1 rfl rfl
 have h3 : R 3 = (.pointer (some ⟨b3_1, 0, none⟩)) := (hI.opvR hdn 1 1 rfl rfl rfl rfl rfl).symm.trans e_b3_1
 replace hAA := hI.low' hAA hA0 (hO.ge (trivial))
 replace hF : Fr w0 w := hF.tr hI.ch (hO.ge (trivial))
 replace hO := hI.left hdn [(0, ob (.pointer (some ⟨b2_0, 0, none⟩)) (.box w0.heap.size 51 E_impl_Record p0)), (1, ob (.pointer (some ⟨b3_1, 0, none⟩)) (.box w0.heap.size 51 E_impl_Record p1))] ⟨rfl, rfl, e_b2_0, rfl, rfl, ⟨rfl, rfl, e_b3_1, rfl, rfl, trivial⟩⟩
 replace hA := hI.avok
 clear hI
 refine HT.seq ?_
 obtain ⟨x3, q4, hr⟩ := cl_some hr
 obtain ⟨x5, q6, hr⟩ := cl_some hr
 obtain ⟨x7, q8, hr⟩ := cl_some hr
 refine HT.draw (by kernel_rfl) (l := eF (.rep E_impl_Record A p0) :: eF (.rep (eSl eStr) A x3) :: eF (.rep E_impl_Record A p1) :: eF (.rep (eSl eStr) A x5) :: eF (.rep (eSl eStr) A x7) :: eI (x7.length : Int) :: eB (decide ((0 : Int) < (x7.length : Int))) :: eB (decide ((0 : Int) < (x7.length : Int))) :: []) (tl := []) (by kernel_rfl) (by kernel_rfl) (by kernel_rfl) (by kernel_rfl) ?_ ?_
 exact Obls.p (fun R' w' hw hs hd => (of_load_box ((hO.fr hw).ok 0 _ rfl).1 ((hs 2 rfl).trans h2) (Fld.id _) rfl Tryz.isAgg51 Tryz.sizeOf51)) <| Obls.p (fun R' w' hw hs hd => of_call Tryz.call34 (M_impl_BlockKeys_okR (q4 rfl) (hA.fr hw.size) (hG0.fr (hF.trans hw)) (hd.g 0 rfl))) <| Obls.p (fun R' w' hw hs hd => (of_load_box ((hO.fr hw).ok 1 _ rfl).1 ((hs 3 rfl).trans h3) (Fld.id _) rfl Tryz.isAgg51 Tryz.sizeOf51)) <| Obls.p (fun R' w' hw hs hd => of_call Tryz.call34 (M_impl_BlockKeys_okR (q6 rfl) (hA.fr hw.size) (hG0.fr (hF.trans hw)) (hd.g 0 rfl))) <| Obls.p (fun R' w' hw hs hd => of_call Tryz.call117 (M_impl_CommonTokens_okR (q8 rfl) (hA.fr hw.size) (hd.g 0 rfl) (hd.g 1 rfl))) <| Obls.p (fun R' w' hw hs hd => of_len_sl (aT := #[]) (hd.g 0 rfl) Tryz.underlying46) <| Obls.p (fun R' w' hw hs hd => of_gtr (hd.g 0 rfl) rfl) <| Obls.a <| Obls.nil
 intro R w hw hs hF'
 have h4 := hF'.r 7 rfl
 replace hO := hO.fr hw
 replace hO : IniOK [] A w := hO.sub [] trivial
 replace hA := hA.fr hw.size
 replace hF := hF.trans hw
 refine HT.ret ?_
 obtain rfl := Option.some.inj hr
 exact ⟨.inr rfl, [R 4], ⟨rfl, trivial⟩, h4, hF⟩
def M_laws_FnExactShareBlock (fu : Nat) (p0 : T_impl_Record) (p1 : T_impl_Record) : Option Bool :=
 cl true (M_laws_szRecord fu p0 1048576) fun x3 =>
 bif (decide (x3 < 0)) then (
 some true
 ) else (
 cl true (M_laws_szRecord fu p1 x3) fun x6 =>
 bif (decide (x6 < 0)) then (
 some true
 ) else (
 cl true (M_laws_toRecord fu p0) fun x9 =>
 cl true (M_laws_toRecord fu p1) fun x11 =>
 cl true (M_spec_ShareBlock fu x9 x11) fun x13 =>
 cl true (M_laws_toRecord fu p0) fun x15 =>
 cl true (M_laws_toRecord fu p1) fun x21 =>
 cl true (M_impl_ShareBlock fu x15 x21) fun x28 =>
 bif (x28 != x13) then (
 some false
 ) else (
 cl true (M_laws_toRecord fu p0) fun x31 =>
 cl true (M_laws_eqRecord fu x15 x31) fun x33 =>
 bif (!x33) then (
 some false
 ) else (
 cl true (M_laws_toRecord fu p1) fun x36 =>
 cl true (M_laws_eqRecord fu x21 x36) fun x38 =>
 bif (!x38) then (
 some false
 ) else (
 some true
 )
 )
 )
 )
 )
theorem M_laws_FnExactShareBlock_ok {fu : Nat} {A0 : Av} {p0 : T_impl_Record} {p1 : T_impl_Record} {r : Bool} (hr : M_laws_FnExactShareBlock fu p0 p1 = some r) {w : World} {v0 : Value} {v1 : Value} (hA : AvOK A0 w) (hG : GTab w) (h0 : Rep E_impl_Record A0 w v0 p0) (h1 : Rep E_impl_Record A0 w v1 p1) :
 Calls Tryz.prog 5 #[v0, v1] w fun e w' => ∃ v, e = .returned v ∧ (v = .bool r ∧ Fr w w') := by
 unfold M_laws_FnExactShareBlock at hr
 obtain ⟨w0, hw0⟩ : ∃ w0, w0 = w := ⟨_, rfl⟩
 have hF : Fr w0 w := hw0 ▸ Fr.refl _
 have hA0 : ∀ b o, A0 b o → b < w0.heap.size := fun b o h => hw0 ▸ hA b o h
 have hA00 : AvOK A0 w0 := hA0
 rw [show Fr w = Fr w0 from hw0 ▸ rfl]
 have hG0 : GTab w0 := hw0 ▸ hG
 clear hw0
 obtain ⟨A, hAe⟩ : ∃ A, A = A0 := ⟨_, rfl⟩
 have hAA : ∀ b o, A0 b o → A b o := fun b o h => hAe ▸ h
 replace hA : AvOK A w := hAe ▸ hA
 have hO : IniOK [] A w := IniOK.nil
 refine calls_of_HT2 [.tmp 4] Tryz.func5 Tryz.ntmps5 (by decide) rfl rfl (Nat.le_of_ble_eq_true rfl) ?_
 intro R hR
 have f_v0 : Rep E_impl_Record A w v0 p0 := hAe ▸ h0
 replace h0 : R 0 = v0 := hR 0 _ rfl
 have f_v1 : Rep E_impl_Record A w v1 p1 := hAe ▸ h1
 replace h1 : R 1 = v1 := hR 1 _ rfl
 clear hR hAe
 refine HT.seq ?_
 refine HT.textR [] (⟨_, true, [], some (.box w0.heap.size 48 E_impl_Record p0), true, fun A => .any⟩ :: ⟨_, true, [], some (.box w0.heap.size 48 E_impl_Record p1), true, fun A => .any⟩ :: rB false :: []) (by kernel_rfl) (by kernel_rfl) (Wf.mk' (by kernel_rfl) (ua (ua (ur (UAll.nil)))) (by kernel_rfl) (by kernel_rfl)) hO hA ?_ ?_
 exact OblsR.cons (OblR.made _ rfl rfl rfl rfl fun A' R' w' ho hd => by have a0 : R' 0 = v0 := (ho.old 0 rfl).trans h0; have ra0 := (f_v0.stp ho.stp).eq a0; exact made_box ra0 (Nat.le_trans hF.size ho.ch.size)) <| OblsR.cons (OblR.made _ rfl rfl rfl rfl fun A' R' w' ho hd => by have a0 : R' 1 = v1 := (ho.old 1 rfl).trans h1; have ra0 := (f_v1.stp ho.stp).eq a0; exact made_box ra0 (Nat.le_trans hF.size ho.ch.size)) <| OblsR.p (fun A' R' w' ho hd => of_assign rfl) <| OblsR.nil
 intro done ρ σ A R w hdn hI
 obtain ⟨b2_0, e_b2_0⟩ := hI.boxv hdn 0 rfl rfl
 have h2 : R 2 = (.pointer (some ⟨b2_0, 0, none⟩)) := (hI.opvR hdn 0 0 rfl rfl rfl rfl rfl).symm.trans e_b2_0
 obtain ⟨b3_1, e_b3_1⟩ := hI.boxv hdn 1 rfl rfl
 have h3 : R 3 = (.pointer (some ⟨b3_1, 0, none⟩)) := (hI.opvR hdn 1 1 rfl rfl rfl rfl rfl).symm.trans e_b3_1
 replace hAA := hI.low' hAA hA0 (hO.ge (trivial))
 replace hF : Fr w0 w := hF.tr hI.ch (hO.ge (trivial))
 replace hO := hI.left hdn [(0, ob (.pointer (some ⟨b2_0, 0, none⟩)) (.box w0.heap.size 48 E_impl_Record p0)), (1, ob (.pointer (some ⟨b3_1, 0, none⟩)) (.box w0.heap.size 48 E_impl_Record p1))] ⟨rfl, rfl, e_b2_0, rfl, rfl, ⟨rfl, rfl, e_b3_1, rfl, rfl, trivial⟩⟩
 replace hA := hI.avok
 clear hI
 refine HT.seq ?_
 refine HT.u hA hF (eI 1048576 :: []) ?_ ?_
 exact Obls.p (fun R' w' hw hs hd => of_assign rfl) <| Obls.nil
 intro R w hw hs hF' hA hF
 obtain ⟨h2, h3⟩ := k2 hs h2 h3
 have h5 := hF'.r 0 rfl
 replace hO := hO.fr hw
 refine HT.seq ?_
 obtain ⟨x3, q4, hr⟩ := cl_some hr
 refine HT.u hA hF (eF (.rep E_impl_Record A p0) :: eI 1048576 :: eI x3 :: eI x3 :: []) ?_ ?_
 exact Obls.p (fun R' w' hw hs hd => (of_load_box ((hO.fr hw).ok 0 _ rfl).1 ((hs 2 rfl).trans h2) (Fld.id _) rfl Tryz.isAgg48 Tryz.sizeOf48)) <| Obls.m h5 <| Obls.p (fun R' w' hw hs hd => of_call Tryz.call31 (M_laws_szRecord_ok (q4 rfl) (hA.fr hw.size) (hd.g 0 rfl) (hd.g 1 rfl))) <| Obls.a <| Obls.nil
 intro R w hw hs hF' hA hF
 obtain ⟨h2, h3⟩ := k2 hs h2 h3
 have h5 := hF'.r 3 rfl
 replace hO := hO.fr hw
 refine HT.seq ?_
 refine HT.seq ?_
 refine HT.u hA hF (eI x3 :: eB (decide (x3 < (0 : Int))) :: []) ?_ ?_
 exact Obls.m h5 <| Obls.p (fun R' w' hw hs hd => of_lss (hd.g 0 rfl) rfl) <| Obls.nil
 intro R w hw hs hF' hA hF
 obtain ⟨h2, h3, h5⟩ := k3 hs h2 h3 h5
 have h14 := hF'.r 1 rfl
 replace hO := hO.fr hw
 refine HT.cond (decide (x3 < (0 : Int))) h14 (fun c5 => ?_) (fun c5 => ?_)
 have hr := cnd_t c5 hr
 refine HT.seq ?_
 refine HT.u hA hF (eB true :: []) ?_ ?_
 exact Obls.p (fun R' w' hw hs hd => of_assign rfl) <| Obls.nil
 intro R w hw hs hF' hA hF
 have h4 := hF'.r 0 rfl
 replace hO := hO.fr hw
 replace hO : IniOK [] A w := hO.sub [] trivial
 refine HT.ret ?_
 obtain rfl := Option.some.inj hr
 exact ⟨.inr rfl, [R 4], ⟨rfl, trivial⟩, h4, hF⟩
 have hr := cnd_f c5 hr
 refine HT.skip ?_
 refine HT.seq ?_
 obtain ⟨x6, q7, hr⟩ := cl_some hr
 refine HT.u hA hF (eF (.rep E_impl_Record A p1) :: eI x3 :: eI x6 :: eI x6 :: []) ?_ ?_
 exact Obls.p (fun R' w' hw hs hd => (of_load_box ((hO.fr hw).ok 1 _ rfl).1 ((hs 3 rfl).trans h3) (Fld.id _) rfl Tryz.isAgg48 Tryz.sizeOf48)) <| Obls.m h5 <| Obls.p (fun R' w' hw hs hd => of_call Tryz.call31 (M_laws_szRecord_ok (q7 rfl) (hA.fr hw.size) (hd.g 0 rfl) (hd.g 1 rfl))) <| Obls.a <| Obls.nil
 intro R w hw hs hF' hA hF
 obtain ⟨h2, h3⟩ := k2 hs h2 h3
 have h5 := hF'.r 3 rfl
 replace hO := hO.fr hw
 refine HT.seq ?_
 refine HT.seq ?_
 refine HT.u hA hF (eI x6 :: eB (decide (x6 < (0 : Int))) :: []) ?_ ?_
 exact Obls.m h5 <| Obls.p (fun R' w' hw hs hd => of_lss (hd.g 0 rfl) rfl) <| Obls.nil
 intro R w hw hs hF' hA hF
 obtain ⟨h2, h3⟩ := k2 hs h2 h3
 have h19 := hF'.r 1 rfl
 replace hO := hO.fr hw
 refine HT.cond (decide (x6 < (0 : Int))) h19 (fun c8 => ?_) (fun c8 => ?_)
 have hr := cnd_t c8 hr
 refine HT.seq ?_
 refine HT.u hA hF (eB true :: []) ?_ ?_
 exact Obls.p (fun R' w' hw hs hd => of_assign rfl) <| Obls.nil
 intro R w hw hs hF' hA hF
 have h4 := hF'.r 0 rfl
 replace hO := hO.fr hw
 replace hO : IniOK [] A w := hO.sub [] trivial
 refine HT.ret ?_
 obtain rfl := Option.some.inj hr
 exact ⟨.inr rfl, [R 4], ⟨rfl, trivial⟩, h4, hF⟩
 have hr := cnd_f c8 hr
 refine HT.skip ?_
 refine HT.seq ?_
 obtain ⟨x9, q10, hr⟩ := cl_some hr
 obtain ⟨x11, q12, hr⟩ := cl_some hr
 obtain ⟨x13, q14, hr⟩ := cl_some hr
 refine HT.draw (by kernel_rfl) (l := eF (.rep E_impl_Record A p0) :: eF (.rep E_impl_Record A x9) :: eF (.rep E_impl_Record A p1) :: eF (.rep E_impl_Record A x11) :: eB x13 :: eB x13 :: []) (tl := []) (by kernel_rfl) (by kernel_rfl) (by kernel_rfl) (by kernel_rfl) ?_ ?_
 exact Obls.p (fun R' w' hw hs hd => (of_load_box ((hO.fr hw).ok 0 _ rfl).1 ((hs 2 rfl).trans h2) (Fld.id _) rfl Tryz.isAgg48 Tryz.sizeOf48)) <| Obls.p (fun R' w' hw hs hd => of_call Tryz.call33 (M_laws_toRecord_okR (q10 rfl) (hA.fr hw.size) (hd.g 0 rfl))) <| Obls.p (fun R' w' hw hs hd => (of_load_box ((hO.fr hw).ok 1 _ rfl).1 ((hs 3 rfl).trans h3) (Fld.id _) rfl Tryz.isAgg48 Tryz.sizeOf48)) <| Obls.p (fun R' w' hw hs hd => of_call Tryz.call33 (M_laws_toRecord_okR (q12 rfl) (hA.fr hw.size) (hd.g 0 rfl))) <| Obls.p (fun R' w' hw hs hd => of_call Tryz.call40 (M_spec_ShareBlock_ok (q14 rfl) (hA.fr hw.size) (hd.g 0 rfl) (hd.g 1 rfl))) <| Obls.a <| Obls.nil
 intro R w hw hs hF'
 obtain ⟨h2, h3⟩ := k2 hs h2 h3
 have h6 := hF'.r 5 rfl
 replace hO := hO.fr hw
 replace hA := hA.fr hw.size
 replace hF := hF.trans hw
 refine HT.seq ?_
 obtain ⟨x15, q16, hr⟩ := cl_some hr
 refine HT.textR [ob (.pointer (some ⟨b2_0, 0, none⟩)) (.box w0.heap.size 48 E_impl_Record p0), ob (.pointer (some ⟨b3_1, 0, none⟩)) (.box w0.heap.size 48 E_impl_Record p1)] ((rF fun A => .rep E_impl_Record A p0) :: (rF fun A => .rep E_impl_Record A x15) :: ⟨_, true, [], some (.box w0.heap.size 51 E_impl_Record ((0 : Int), ((0 : Int), ((0 : Int), ([] : List (List UInt8)))))), true, fun A => .any⟩ :: ⟨_, true, [4], some (.box w0.heap.size 51 E_impl_Record x15), false, fun A => .any⟩ :: []) (by kernel_rfl) (by kernel_rfl) (Wf.mk' (by kernel_rfl) (up (up (ua (ua (UAll.nil))))) (by kernel_rfl) (by kernel_rfl)) hO hA ?_ ?_
 exact OblsR.p (fun A' R' w' ho hd => (of_load_box (ho.rd 0 _ rfl rfl) ((ho.old 2 rfl).trans h2) (Fld.id _) rfl Tryz.isAgg48 Tryz.sizeOf48)) <| OblsR.p (fun A' R' w' ho hd => of_call Tryz.call33 (M_laws_toRecord_okR (q16 rfl) ho.av (hd.g 0 rfl))) <| OblsR.cons (OblR.made _ rfl rfl rfl rfl fun A' R' w' ho hd => by exact made_alloc Tryz.zeroValue51 (fun A w => rep_pr rep1_int (rep_pr rep1_int (rep_pr rep1_int rep1_nil))) (Nat.le_trans hF.size ho.ch.size)) <| OblsR.cons (OblR.took 4 _ _ rfl rfl rfl rfl rfl fun A' R' w' ho hd u hok hav hin hop hds => by have a1 : Rep E_impl_Record A' w' (R' 26) x15 := hd.g 1 rfl; obtain ⟨b, hb, hB', hbx⟩ := hok; have hop' := hop _ _ rfl rfl rfl rfl; exact took_store a1 (hop'.symm.trans hb) hb ⟨b, hb, hB', hbx⟩ hav (FldS.id _) Tryz.sizeOf51 rfl) <| OblsR.nil
 intro done ρ σ A R w hdn hI
 obtain ⟨h2, h3, h6⟩ := k3 hI.rg h2 h3 h6
 have z17 := hI.inivR 0 rfl
 have z18 := hI.inivR 1 rfl
 obtain ⟨b7_18, e_b7_18⟩ := hI.boxv hdn 5 rfl rfl
 have z20 := (hI.opnR hdn 5 3 rfl rfl rfl rfl rfl).symm.trans e_b7_18
 have h7 : R 7 = (.pointer (some ⟨b7_18, 0, none⟩)) := (hI.opvR hdn 4 2 rfl rfl rfl rfl rfl).symm.trans z20
 replace hAA := hI.low' hAA hA0 (hO.ge (⟨rfl, ⟨rfl, trivial⟩⟩))
 replace hF : Fr w0 w := hF.tr hI.ch (hO.ge (⟨rfl, ⟨rfl, trivial⟩⟩))
 replace hO := hI.left hdn [(0, ob (.pointer (some ⟨b2_0, 0, none⟩)) (.box w0.heap.size 48 E_impl_Record p0)), (1, ob (.pointer (some ⟨b3_1, 0, none⟩)) (.box w0.heap.size 48 E_impl_Record p1)), (5, ob (.pointer (some ⟨b7_18, 0, none⟩)) (.box w0.heap.size 51 E_impl_Record x15))] ⟨rfl, rfl, z17, rfl, rfl, ⟨rfl, rfl, z18, rfl, rfl, ⟨rfl, rfl, e_b7_18, rfl, rfl, trivial⟩⟩⟩
 replace hA := hI.avok
 clear hI
 refine HT.seq ?_
 obtain ⟨x21, q22, hr⟩ := cl_some hr
 refine HT.textR [ob (.pointer (some ⟨b2_0, 0, none⟩)) (.box w0.heap.size 48 E_impl_Record p0), ob (.pointer (some ⟨b3_1, 0, none⟩)) (.box w0.heap.size 48 E_impl_Record p1), ob (.pointer (some ⟨b7_18, 0, none⟩)) (.box w0.heap.size 51 E_impl_Record x15)] ((rF fun A => .rep E_impl_Record A p1) :: (rF fun A => .rep E_impl_Record A x21) :: ⟨_, true, [], some (.box w0.heap.size 51 E_impl_Record ((0 : Int), ((0 : Int), ((0 : Int), ([] : List (List UInt8)))))), true, fun A => .any⟩ :: ⟨_, true, [5], some (.box w0.heap.size 51 E_impl_Record x21), false, fun A => .any⟩ :: []) (by kernel_rfl) (by kernel_rfl) (Wf.mk' (by kernel_rfl) (up (up (ua (ua (UAll.nil))))) (by kernel_rfl) (by kernel_rfl)) hO hA ?_ ?_
 exact OblsR.p (fun A' R' w' ho hd => (of_load_box (ho.rd 1 _ rfl rfl) ((ho.old 3 rfl).trans h3) (Fld.id _) rfl Tryz.isAgg48 Tryz.sizeOf48)) <| OblsR.p (fun A' R' w' ho hd => of_call Tryz.call33 (M_laws_toRecord_okR (q22 rfl) ho.av (hd.g 0 rfl))) <| OblsR.cons (OblR.made _ rfl rfl rfl rfl fun A' R' w' ho hd => by exact made_alloc Tryz.zeroValue51 (fun A w => rep_pr rep1_int (rep_pr rep1_int (rep_pr rep1_int rep1_nil))) (Nat.le_trans hF.size ho.ch.size)) <| OblsR.cons (OblR.took 5 _ _ rfl rfl rfl rfl rfl fun A' R' w' ho hd u hok hav hin hop hds => by have a1 : Rep E_impl_Record A' w' (R' 28) x21 := hd.g 1 rfl; obtain ⟨b, hb, hB', hbx⟩ := hok; have hop' := hop _ _ rfl rfl rfl rfl; exact took_store a1 (hop'.symm.trans hb) hb ⟨b, hb, hB', hbx⟩ hav (FldS.id _) Tryz.sizeOf51 rfl) <| OblsR.nil
 intro done ρ σ A R w hdn hI
 obtain ⟨h2, h3, h6, h7⟩ := k4 hI.rg h2 h3 h6 h7
 have z23 := hI.inivR 0 rfl
 have z24 := hI.inivR 1 rfl
 have z25 := hI.inivR 2 rfl
 obtain ⟨b8_25, e_b8_25⟩ := hI.boxv hdn 6 rfl rfl
 have z27 := (hI.opnR hdn 6 3 rfl rfl rfl rfl rfl).symm.trans e_b8_25
 have h8 : R 8 = (.pointer (some ⟨b8_25, 0, none⟩)) := (hI.opvR hdn 5 2 rfl rfl rfl rfl rfl).symm.trans z27
 replace hAA := hI.low' hAA hA0 (hO.ge (⟨rfl, ⟨rfl, ⟨rfl, trivial⟩⟩⟩))
 replace hF : Fr w0 w := hF.tr hI.ch (hO.ge (⟨rfl, ⟨rfl, ⟨rfl, trivial⟩⟩⟩))
 replace hO := hI.left hdn [(0, ob (.pointer (some ⟨b2_0, 0, none⟩)) (.box w0.heap.size 48 E_impl_Record p0)), (1, ob (.pointer (some ⟨b3_1, 0, none⟩)) (.box w0.heap.size 48 E_impl_Record p1)), (2, ob (.pointer (some ⟨b7_18, 0, none⟩)) (.box w0.heap.size 51 E_impl_Record x15)), (6, ob (.pointer (some ⟨b8_25, 0, none⟩)) (.box w0.heap.size 51 E_impl_Record x21))] ⟨rfl, rfl, z23, rfl, rfl, ⟨rfl, rfl, z24, rfl, rfl, ⟨rfl, rfl, z25, rfl, rfl, ⟨rfl, rfl, e_b8_25, rfl, rfl, trivial⟩⟩⟩⟩
 replace hA := hI.avok
 clear hI
 refine HT.seq ?_
 obtain ⟨x28, q29, hr⟩ := cl_some hr
 refine HT.u hA hF (eF (.rep E_impl_Record A x15) :: eF (.rep E_impl_Record A x21) :: eB x28 :: eB x28 :: []) ?_ ?_
 exact Obls.p (fun R' w' hw hs hd => (of_load_box ((hO.fr hw).ok 2 _ rfl).1 ((hs 7 rfl).trans h7) (Fld.id _) rfl Tryz.isAgg51 Tryz.sizeOf51)) <| Obls.p (fun R' w' hw hs hd => (of_load_box ((hO.fr hw).ok 3 _ rfl).1 ((hs 8 rfl).trans h8) (Fld.id _) rfl Tryz.isAgg51 Tryz.sizeOf51)) <| Obls.p (fun R' w' hw hs hd => of_call Tryz.call41 (M_impl_ShareBlock_ok (q29 rfl) (hA.fr hw.size) (hG0.fr (hF.trans hw)) (hd.g 0 rfl) (hd.g 1 rfl))) <| Obls.a <| Obls.nil
 intro R w hw hs hF' hA hF
 obtain ⟨h2, h3, h6, h7, h8⟩ := k5 hs h2 h3 h6 h7 h8
 have h9 := hF'.r 3 rfl
 replace hO := hO.fr hw
 refine HT.seq ?_
 refine HT.seq ?_
 refine HT.u hA hF (eB x28 :: eB x13 :: eB (x28 != x13) :: []) ?_ ?_
 exact Obls.m h9 <| Obls.m h6 <| Obls.p (fun R' w' hw hs hd => of_bneq Tryz.underlying4 (hd.g 0 rfl) (hd.g 1 rfl)) <| Obls.nil
 intro R w hw hs hF' hA hF
 obtain ⟨h2, h3, h7, h8⟩ := k4 hs h2 h3 h7 h8
 have h34 := hF'.r 2 rfl
 replace hO := hO.fr hw
 refine HT.cond (x28 != x13) h34 (fun c30 => ?_) (fun c30 => ?_)
 have hr := cnd_t c30 hr
 refine HT.seq ?_
 refine HT.u hA hF (eB false :: []) ?_ ?_
 exact Obls.p (fun R' w' hw hs hd => of_assign rfl) <| Obls.nil
 intro R w hw hs hF' hA hF
 have h4 := hF'.r 0 rfl
 replace hO := hO.fr hw
 replace hO : IniOK [] A w := hO.sub [] trivial
 refine HT.ret ?_
 obtain rfl := Option.some.inj hr
 exact ⟨.inr rfl, [R 4], ⟨rfl, trivial⟩, h4, hF⟩
 have hr := cnd_f c30 hr
 refine HT.skip ?_
 refine HT.seq ?_
 refine HT.seq ?_
 obtain ⟨x31, q32, hr⟩ := cl_some hr
 obtain ⟨x33, q34, hr⟩ := cl_some hr
 refine HT.draw (by kernel_rfl) (l := eF (.rep E_impl_Record A x15) :: eF (.rep E_impl_Record A p0) :: eF (.rep E_impl_Record A x31) :: eB x33 :: eB (!x33) :: []) (tl := []) (by kernel_rfl) (by kernel_rfl) (by kernel_rfl) (by kernel_rfl) ?_ ?_
 exact Obls.p (fun R' w' hw hs hd => (of_load_box ((hO.fr hw).ok 2 _ rfl).1 ((hs 7 rfl).trans h7) (Fld.id _) rfl Tryz.isAgg51 Tryz.sizeOf51)) <| Obls.p (fun R' w' hw hs hd => (of_load_box ((hO.fr hw).ok 0 _ rfl).1 ((hs 2 rfl).trans h2) (Fld.id _) rfl Tryz.isAgg48 Tryz.sizeOf48)) <| Obls.p (fun R' w' hw hs hd => of_call Tryz.call33 (M_laws_toRecord_okR (q32 rfl) (hA.fr hw.size) (hd.g 0 rfl))) <| Obls.p (fun R' w' hw hs hd => of_call Tryz.call36 (M_laws_eqRecord_ok (q34 rfl) (hA.fr hw.size) (hd.g 0 rfl) (hd.g 1 rfl))) <| Obls.p (fun R' w' hw hs hd => of_not (hd.g 0 rfl)) <| Obls.nil
 intro R w hw hs hF'
 obtain ⟨h3, h8⟩ := k2 hs h3 h8
 have h39 := hF'.r 4 rfl
 replace hO := hO.fr hw
 replace hO : IniOK [ob (.pointer (some ⟨b3_1, 0, none⟩)) (.box w0.heap.size 48 E_impl_Record p1), ob (.pointer (some ⟨b8_25, 0, none⟩)) (.box w0.heap.size 51 E_impl_Record x21)] A w := hO.sub [(1, ob (.pointer (some ⟨b3_1, 0, none⟩)) (.box w0.heap.size 48 E_impl_Record p1)), (3, ob (.pointer (some ⟨b8_25, 0, none⟩)) (.box w0.heap.size 51 E_impl_Record x21))] ⟨rfl, rfl, ⟨rfl, rfl, trivial⟩⟩
 replace hA := hA.fr hw.size
 replace hF := hF.trans hw
 refine HT.cond (!x33) h39 (fun c35 => ?_) (fun c35 => ?_)
 have hr := cnd_t c35 hr
 refine HT.seq ?_
 refine HT.u hA hF (eB false :: []) ?_ ?_
 exact Obls.p (fun R' w' hw hs hd => of_assign rfl) <| Obls.nil
 intro R w hw hs hF' hA hF
 have h4 := hF'.r 0 rfl
 replace hO := hO.fr hw
 replace hO : IniOK [] A w := hO.sub [] trivial
 refine HT.ret ?_
 obtain rfl := Option.some.inj hr
 exact ⟨.inr rfl, [R 4], ⟨rfl, trivial⟩, h4, hF⟩
 have hr := cnd_f c35 hr
 refine HT.skip ?_
 refine HT.seq ?_
 refine HT.seq ?_
 obtain ⟨x36, q37, hr⟩ := cl_some hr
 obtain ⟨x38, q39, hr⟩ := cl_some hr
 refine HT.draw (by kernel_rfl) (l := eF (.rep E_impl_Record A x21) :: eF (.rep E_impl_Record A p1) :: eF (.rep E_impl_Record A x36) :: eB x38 :: eB (!x38) :: []) (tl := []) (by kernel_rfl) (by kernel_rfl) (by kernel_rfl) (by kernel_rfl) ?_ ?_
 exact Obls.p (fun R' w' hw hs hd => (of_load_box ((hO.fr hw).ok 1 _ rfl).1 ((hs 8 rfl).trans h8) (Fld.id _) rfl Tryz.isAgg51 Tryz.sizeOf51)) <| Obls.p (fun R' w' hw hs hd => (of_load_box ((hO.fr hw).ok 0 _ rfl).1 ((hs 3 rfl).trans h3) (Fld.id _) rfl Tryz.isAgg48 Tryz.sizeOf48)) <| Obls.p (fun R' w' hw hs hd => of_call Tryz.call33 (M_laws_toRecord_okR (q37 rfl) (hA.fr hw.size) (hd.g 0 rfl))) <| Obls.p (fun R' w' hw hs hd => of_call Tryz.call36 (M_laws_eqRecord_ok (q39 rfl) (hA.fr hw.size) (hd.g 0 rfl) (hd.g 1 rfl))) <| Obls.p (fun R' w' hw hs hd => of_not (hd.g 0 rfl)) <| Obls.nil
 intro R w hw hs hF'
 have h44 := hF'.r 4 rfl
 replace hO := hO.fr hw
 replace hO : IniOK [] A w := hO.sub [] trivial
 replace hA := hA.fr hw.size
 replace hF := hF.trans hw
 refine HT.cond (!x38) h44 (fun c40 => ?_) (fun c40 => ?_)
 have hr := cnd_t c40 hr
 refine HT.seq ?_
 refine HT.u hA hF (eB false :: []) ?_ ?_
 exact Obls.p (fun R' w' hw hs hd => of_assign rfl) <| Obls.nil
 intro R w hw hs hF' hA hF
 have h4 := hF'.r 0 rfl
 replace hO := hO.fr hw
 refine HT.ret ?_
 obtain rfl := Option.some.inj hr
 exact ⟨.inr rfl, [R 4], ⟨rfl, trivial⟩, h4, hF⟩
 have hr := cnd_f c40 hr
 refine HT.skip ?_
 refine HT.seq ?_
 refine HT.u hA hF (eB true :: []) ?_ ?_
 exact Obls.p (fun R' w' hw hs hd => of_assign rfl) <| Obls.nil
 intro R w hw hs hF' hA hF
 have h4 := hF'.r 0 rfl
 replace hO := hO.fr hw
 refine HT.ret ?_
 obtain rfl := Option.some.inj hr
 exact ⟨.inr rfl, [R 4], ⟨rfl, trivial⟩, h4, hF⟩
end Go.Proofs.YtcodfkieaoomnaaGreatDoor
/- Printed by dec.py: plain functions and the proofs that the code computes them. No statement of the seat is proved here. -/
namespace Go.Proofs.YtcodfkieaoomnaaGreatDoor
open Go.RowKit
set_option linter.unusedVariables false
set_option maxRecDepth 100000
set_option maxHeartbeats 4000000
end Go.Proofs.YtcodfkieaoomnaaGreatDoor
/- Printed by dec.py: plain functions and the proofs that the code computes them. No statement of the seat is proved here. -/
namespace Go.Proofs.YtcodfkieaoomnaaGreatDoor
open Go.RowKit
set_option linter.unusedVariables false
set_option maxRecDepth 100000
set_option maxHeartbeats 4000000
end Go.Proofs.YtcodfkieaoomnaaGreatDoor
/- Printed by dec.py: plain functions and the proofs that the code computes them. No statement of the seat is proved here. -/
namespace Go.Proofs.YtcodfkieaoomnaaGreatDoor
open Go.RowKit
set_option linter.unusedVariables false
set_option maxRecDepth 100000
set_option maxHeartbeats 4000000
end Go.Proofs.YtcodfkieaoomnaaGreatDoor
/- The last of the printed texts. No statement of the seat is proved here. -/
/- Words of the plain part: the printed functions' own words computed, loops that look for something. No program in sight. No statement of the seat is proved here. -/
namespace Go.Proofs.YtcodfkieaoomnaaGreatDoor
open Go.RowKit
set_option linter.unusedVariables false

theorem cl_true {α β : Type} [Inhabited α] {x : α} {k : α → Option β} : cl true (some x) k = k x := rfl
theorem cl_false {α β : Type} [Inhabited α] {o : Option α} {k : α → Option β} : cl false o k = k default := rfl
theorem cl_if {α β : Type} [Inhabited α] {g : Bool} {x : α} {k : α → Option β} : cl g (some x) k = k (bif g then x else default) := by cases g <;> rfl
theorem bd_eq {α β : Type} {e : α} {k : α → Option β} : bd e k = k e := rfl
theorem ck_t {α : Type} {b : Bool} {k : Option α} (h : b = true) : ck b k = k := by rw [h]; rfl
theorem ck_tt {α : Type} {k : Option α} : ck true k = k := rfl
theorem exM_go' {ρ σ γ : Type} {s : σ} {f : ρ → Option γ} {g : σ → Option γ} : exM (.go s) f g = g s := rfl
theorem inR_t {i : Nat} {n : Nat} (h : i < n) : inR (i : Int) n = true := inR_iff.2 ⟨by omega, by omega⟩
theorem inR_i {i : Int} {n : Nat} (h0 : 0 ≤ i) (h : i < n) : inR i n = true := inR_iff.2 ⟨h0, h⟩
theorem i64B_t {x : Int} (h0 : -9223372036854775808 ≤ x) (h1 : x ≤ 9223372036854775807) : i64B x = true := by simp [i64B, h0, h1]
/-- a loop that fills a row of the list's length, element by element -/
theorem loop_fill {α : Type} {xs : List α} {L : Nat → Int → List α → Option (List α)} 
    (hs : ∀ k i ys x, i < xs.length → ys.length = xs.length → xs[i]? = some x → L (k + 1) ((i : Nat) : Int) ys = L k ((i + 1 : Nat) : Int) (ys.set i x)) (he : ∀ k ys, L (k + 1) ((xs.length : Nat) : Int) ys = some ys) :
    ∀ m i k ys, i + m = xs.length → m < k → ys.length = xs.length → ys.take i = xs.take i → L k ((i : Nat) : Int) ys = some xs := by
  intro m
  induction m with
  | zero =>
    intro i k ys hi hk hy ht
    obtain ⟨k, rfl⟩ : ∃ q, k = q + 1 := ⟨k - 1, by omega⟩
    obtain rfl : i = xs.length := by omega
    rw [he]
    rw [List.take_of_length_le (by omega), List.take_of_length_le (by omega)] at ht
    rw [ht]
  | succ m ih =>
    intro i k ys hi hk hy ht
    obtain ⟨k, rfl⟩ : ∃ q, k = q + 1 := ⟨k - 1, by omega⟩
    have hlt : i < xs.length := by omega
    rw [hs k i ys _ hlt hy (List.getElem?_eq_getElem hlt)]
    refine ih (i + 1) k _ (by omega) (by omega) (by rw [List.length_set, hy]) ?_
    apply List.ext_getElem?
    intro j
    rw [List.getElem?_take, List.getElem?_take]
    split
    · rename_i hj
      rcases Nat.lt_or_ge j i with h | h
      · have := congrArg (fun l => l[j]?) ht
        simp only [List.getElem?_take, if_pos h] at this
        rw [List.getElem?_set_ne (by omega)]
        exact this
      · obtain rfl : j = i := by omega
        rw [List.getElem?_set_self (by omega), List.getElem?_eq_getElem hlt]
    · rfl
theorem gtD_get {α : Type} [Inhabited α] {xs : List α} {i : Nat} {x : α} (h : xs[i]? = some x) : gtD xs (i : Int) = x := by
  unfold gtD
  rw [Int.toNat_natCast, List.getD_eq_getElem?_getD, h]
  rfl
end Go.Proofs.YtcodfkieaoomnaaGreatDoor
/- Plain words: loops of the laws' own helpers, orders, sorted lists. No program in sight. No statement of the seat is proved here. -/
namespace Go.Proofs.YtcodfkieaoomnaaGreatDoor
open Go.RowKit
set_option linter.unusedVariables false

/-! ### loops -/
theorem lenOK_t {n : Nat} (h : n ≤ 4294967296) : lenOK n = true := Nat.ble_eq_true_of_le h
theorem mkOK_t {n : Nat} (h : n ≤ 1048577) : mkOK (n : Int) = true := by simp [mkOK]; omega
/-! ### the order of strings -/
theorem bLt_irrefl : ∀ (a : List UInt8), bLt a a = false
  | [] => rfl
  | a :: x => by
    unfold bLt Op.bytesLess
    rw [show Op.bytesLess x x = false from bLt_irrefl x]
    simp
theorem bLt_trans : ∀ {a b c : List UInt8}, bLt a b = true → bLt b c = true → bLt a c = true
  | _, _, [], _, h => by cases ‹List UInt8› <;> simp [bLt, Op.bytesLess] at h
  | _, [], _ :: _, h, _ => by cases ‹List UInt8› <;> simp [bLt, Op.bytesLess] at h
  | [], _ :: _, _ :: _, _, _ => rfl
  | a :: x, b :: y, c :: z, h, k => by
    unfold bLt Op.bytesLess at h k ⊢
    simp only [Bool.or_eq_true, Bool.and_eq_true, decide_eq_true_eq, beq_iff_eq] at h k ⊢
    rcases h with h | ⟨rfl, h⟩
    · rcases k with k | ⟨rfl, k⟩
      · exact .inl (UInt8.lt_trans h k)
      · exact .inl h
    · rcases k with k | ⟨rfl, k⟩
      · exact .inl k
      · exact .inr ⟨rfl, bLt_trans h k⟩
theorem bLt_tri : ∀ {a b : List UInt8}, bLt a b = false → bLt b a = false → a = b
  | [], [], _, _ => rfl
  | [], _ :: _, h, _ => by simp [bLt, Op.bytesLess] at h
  | _ :: _, [], _, h => by simp [bLt, Op.bytesLess] at h
  | a :: x, b :: y, h, k => by
    unfold bLt Op.bytesLess at h k
    simp only [Bool.or_eq_false_iff, Bool.and_eq_false_imp, decide_eq_false_iff_not, beq_iff_eq] at h k
    have e : a = b := by
      rcases UInt8.lt_or_lt_of_ne (a := a) (b := b) |> fun f => Classical.em (a = b) |>.imp id f with e | e | e
      · exact e
      · exact absurd e h.1
      · exact absurd e k.1
    subst e
    rw [bLt_tri (h.2 rfl) (k.2 rfl)]
theorem le_bLt (a b : List UInt8) : decide (a ≤ b) = !(bLt b a) := by
  have h := Go.Proofs.bytesLess_eq b a
  unfold bLt
  rw [h]
  by_cases hlt : b < a
  · have : ¬ a ≤ b := List.not_le.2 hlt
    rw [decide_eq_true hlt, decide_eq_false this]
    rfl
  · have : a ≤ b := List.not_lt.1 hlt
    rw [decide_eq_false hlt, decide_eq_true this]
    rfl
/-! ### sorted lists -/
end Go.Proofs.YtcodfkieaoomnaaGreatDoor
/- Plain words for the laws' own helpers: sizes, copies, comparisons, marks. No program in sight. No statement of the seat is proved here. -/
namespace Go.Proofs.YtcodfkieaoomnaaGreatDoor
open Go.RowKit
set_option linter.unusedVariables false

theorem lt_t {i n : Nat} (h : i < n) : decide ((i : Int) < (n : Int)) = true := by simpa using h
theorem lt_f (n : Nat) : decide ((n : Int) < (n : Int)) = false := decide_eq_false (Int.lt_irrefl _)
theorem i64B_n {i : Nat} (hn : i ≤ 4294967296) : i64B ((i : Int) + 1) = true := i64B_t (by omega) (by omega)
theorem at_lt {α : Type} {xs : List α} {i : Nat} {x : α} (h : xs[i]? = some x) : i < xs.length := (List.getElem?_eq_some_iff.1 h).1
theorem at_mem {α : Type} {xs : List α} {i : Nat} {x : α} (h : xs[i]? = some x) : x ∈ xs := List.mem_of_getElem? h
theorem succ_i (i : Nat) : (i : Int) + 1 = ((i + 1 : Nat) : Int) := rfl
theorem set_nat {α : Type} (xs : List α) (i : Nat) (x : α) : xs.set ((i : Nat) : Int).toNat x = xs.set i x := by rw [Int.toNat_natCast]
/-! ### sizes -/
def szR (n : Int) (w : Nat) : Int := if (w : Int) ≤ n then n - w else -1
theorem szR_lt {n : Int} {w : Nat} (h : (w : Int) ≤ n) : decide (szR n w < 0) = false := by
  unfold szR
  rw [if_pos h]
  exact decide_eq_false (by omega)
theorem szR_ge {n : Int} {w : Nat} (h : ¬ (w : Int) ≤ n) : decide (szR n w < 0) = true := by
  unfold szR
  rw [if_neg h]
  rfl
theorem szR_v {n : Int} {w : Nat} (h : (w : Int) ≤ n) : szR n w = n - w := if_pos h
theorem szR_add {n : Int} {w v : Nat} (h : (w : Int) ≤ n) : szR (n - w) v = szR n (w + v) := by
  unfold szR
  by_cases h2 : (v : Int) ≤ n - w
  · rw [if_pos h2, if_pos (by omega)]
    omega
  · rw [if_neg h2, if_neg (by omega)]
theorem szR_add_n {n : Int} {w v : Nat} (h : ¬ (w : Int) ≤ n) : szR n (w + v) = -1 := if_neg (by omega)
/-- the first step of a measure: a length is taken off -/
theorem sz_off {n : Int} {l : Nat} (hn : 0 ≤ n) (hn1 : n ≤ 1048576) (hl : l ≤ maxLen) {c : Option Int} {r : Int} (h1 : ¬ (l : Int) ≤ n → r = -1) (h2 : (l : Int) ≤ n → c = some r) :
    (ck (i64B (n - (l : Int))) <| bif (decide ((n - (l : Int)) < (0 : Int))) then some (-1 : Int) else c) = some r := by
  unfold maxLen at hl
  rw [ck_t (i64B_t (by omega) (by omega))]
  by_cases h : (l : Int) ≤ n
  · rw [decide_eq_false (by omega), cond_false]
    exact h2 h
  · rw [decide_eq_true (by omega), cond_true, h1 h]
def wL {α : Type} (f : α → Nat) (xs : List α) : Nat := xs.length + (xs.map f).sum
theorem drop_cons {α : Type} {xs : List α} {i : Nat} {x : α} (h : xs[i]? = some x) : xs.drop i = x :: xs.drop (i + 1) := by
  obtain ⟨h1, rfl⟩ := List.getElem?_eq_some_iff.1 h
  exact List.drop_eq_getElem_cons h1
theorem loop_szW {α : Type} {xs : List α} {f : α → Nat} {L : Nat → Int → Int → Option (Ex Int Int)}
    (hs : ∀ k y (i : Nat) x, xs[i]? = some x → 0 ≤ y → y ≤ 1048576 → L (k + 1) y (i : Int) = bif decide (szR y (f x) < 0) then some (.ret (-1)) else L k (szR y (f x)) ((i + 1 : Nat) : Int))
    (he : ∀ k y, L (k + 1) y (xs.length : Int) = some (.go y)) :
    ∀ m i k y, i + m = xs.length → m < k → 0 ≤ y → y ≤ 1048576 → L k y ((i : Nat) : Int) = some (if ((((xs.drop i).map f).sum : Nat) : Int) ≤ y then .go (szR y ((xs.drop i).map f).sum) else .ret (-1)) := by
  intro m
  induction m with
  | zero =>
    intro i k y hi hk h0 h1
    obtain ⟨k, rfl⟩ : ∃ q, k = q + 1 := ⟨k - 1, by omega⟩
    obtain rfl : i = xs.length := by omega
    rw [he, List.drop_length]
    simp [szR, h0]
  | succ m ih =>
    intro i k y hi hk h0 h1
    obtain ⟨k, rfl⟩ : ∃ q, k = q + 1 := ⟨k - 1, by omega⟩
    have hlt : i < xs.length := by omega
    have hx := List.getElem?_eq_getElem hlt
    rw [hs k y i _ hx h0 h1, drop_cons hx, List.map_cons, List.sum_cons]
    by_cases h : (f xs[i] : Int) ≤ y
    · rw [szR_lt h, cond_false, szR_v h, ih (i + 1) k _ (by omega) (by omega) (by omega) (by omega), szR_add h]
      congr 1
      by_cases h2 : ((((xs.drop (i + 1)).map f).sum : Nat) : Int) ≤ y - (f xs[i] : Int)
      · rw [if_pos h2, if_pos (by omega)]
      · rw [if_neg h2, if_neg (by omega)]
    · rw [szR_ge h, cond_true, if_neg (by omega)]
theorem sz_list {α : Type} {xs : List α} {f : α → Nat} {L : Nat → Int → Int → Option (Ex Int Int)} {n : Int} {fu : Nat} (hn : 0 ≤ n) (hn1 : n ≤ 1048576) (hl : xs.length ≤ maxLen) (hf : 1048577 ≤ fu)
    (hs : ∀ k y (i : Nat) x, xs.length ≤ 1048576 → xs[i]? = some x → 0 ≤ y → y ≤ 1048576 → L (k + 1) y (i : Int) = bif decide (szR y (f x) < 0) then some (.ret (-1)) else L k (szR y (f x)) ((i + 1 : Nat) : Int))
    (he : ∀ k y, L (k + 1) y (xs.length : Int) = some (.go y)) :
    (ck (i64B (n - (xs.length : Int))) <| bif (decide ((n - (xs.length : Int)) < (0 : Int))) then some (-1 : Int) else cl true (L fu (n - (xs.length : Int)) (0 : Int)) fun rl => exM rl (fun r => some r) fun s => some s) = some (szR n (wL f xs)) := by
  refine sz_off hn hn1 hl (fun h => szR_add_n h) fun h => ?_
  have := loop_szW (fun k y i x => hs k y i x (by omega)) he xs.length 0 fu (n - (xs.length : Int)) (by omega) (by omega) (by omega) (by omega)
  rw [show ((0 : Nat) : Int) = 0 from rfl] at this
  rw [this, cl_true, List.drop_zero]
  by_cases h2 : (((xs.map f).sum : Nat) : Int) ≤ n - (xs.length : Int)
  · rw [if_pos h2, szR_add h]
    rfl
  · rw [if_neg h2]
    unfold wL szR
    rw [if_neg (by omega)]
    rfl
theorem sz_mem {α : Type} {f : α → Nat} {x : α} : ∀ {xs : List α}, x ∈ xs → f x ≤ (xs.map f).sum
  | y :: ys, h => by
    rw [List.map_cons, List.sum_cons]
    rcases List.mem_cons.1 h with rfl | h
    · omega
    · have := sz_mem (f := f) h
      omega
/-! ### copies -/
theorem to_list {α : Type} [Inhabited α] {xs : List α} {z : α} {L : Nat → Int → List α → Option (List α)} {fu : Nat} (hl : xs.length ≤ 1048576) (hf : 1048577 ≤ fu)
    (hs : ∀ k (i : Nat) ys x, i < xs.length → ys.length = xs.length → xs[i]? = some x → L (k + 1) ((i : Nat) : Int) ys = L k ((i + 1 : Nat) : Int) (ys.set i x)) (he : ∀ k ys, L (k + 1) (xs.length : Int) ys = some ys) :
    (ck (mkOK (xs.length : Int)) <| cl true (L fu (0 : Int) (List.replicate (xs.length : Int).toNat z)) fun s => some s) = some xs := by
  rw [ck_t (mkOK_t (by omega))]
  have := loop_fill hs he xs.length 0 fu (List.replicate (xs.length : Int).toNat z) (by omega) (by omega) (by simp) (by simp)
  rw [show ((0 : Nat) : Int) = 0 from rfl] at this
  rw [this]
  rfl
/-! ### comparisons -/
theorem loop_eq {α : Type} [BEq α] {xs ys : List α} (hl : xs.length = ys.length) {L : Nat → Int → Option (Ex Bool Unit)}
    (hs : ∀ k (i : Nat) x y, xs[i]? = some x → ys[i]? = some y → L (k + 1) (i : Int) = bif !(x == y) then some (.ret false) else L k ((i + 1 : Nat) : Int))
    (he : ∀ k, L (k + 1) (xs.length : Int) = some (.go ())) :
    ∀ m i k, i + m = xs.length → m < k → L k ((i : Nat) : Int) = some (bif xs.drop i == ys.drop i then .go () else .ret false) := by
  intro m
  induction m with
  | zero =>
    intro i k hi hk
    obtain ⟨k, rfl⟩ : ∃ q, k = q + 1 := ⟨k - 1, by omega⟩
    obtain rfl : i = xs.length := by omega
    rw [he, List.drop_length, hl, List.drop_length]
    rfl
  | succ m ih =>
    intro i k hi hk
    obtain ⟨k, rfl⟩ : ∃ q, k = q + 1 := ⟨k - 1, by omega⟩
    have hx := List.getElem?_eq_getElem (show i < xs.length by omega)
    have hy := List.getElem?_eq_getElem (show i < ys.length by omega)
    rw [hs k i _ _ hx hy, drop_cons hx, drop_cons hy, List.cons_beq_cons]
    cases xs[i] == ys[i]
    · rfl
    · rw [Bool.not_true, cond_false, Bool.true_and]
      exact ih (i + 1) k (by omega) (by omega)
theorem beq_len {α : Type} [BEq α] : ∀ {xs ys : List α}, xs.length ≠ ys.length → (xs == ys) = false
  | [], [], h => absurd rfl h
  | [], _ :: _, _ => rfl
  | _ :: _, [], _ => rfl
  | x :: xs, y :: ys, h => by
    rw [List.cons_beq_cons, beq_len (xs := xs) (ys := ys) (fun e => h (by simp [e])), Bool.and_false]
theorem eq_list {α : Type} [BEq α] {xs ys : List α} {L : Nat → Int → Option (Ex Bool Unit)} {fu : Nat} (hf : xs.length < fu)
    (hs : ∀ k (i : Nat) x y, xs.length = ys.length → xs[i]? = some x → ys[i]? = some y → L (k + 1) (i : Int) = bif !(x == y) then some (.ret false) else L k ((i + 1 : Nat) : Int))
    (he : ∀ k, L (k + 1) (xs.length : Int) = some (.go ())) :
    (bif ((xs.length : Int) != (ys.length : Int)) then some false else cl true (L fu (0 : Int)) fun rl => exM rl (fun r => some r) fun s => some true) = some (xs == ys) := by
  by_cases hl : xs.length = ys.length
  · have h1 : ((xs.length : Int) != (ys.length : Int)) = false := by simp [hl]
    have := loop_eq hl (fun k i x y => hs k i x y hl) he xs.length 0 fu (by omega) (by omega)
    rw [show ((0 : Nat) : Int) = 0 from rfl, List.drop_zero, List.drop_zero] at this
    rw [h1, cond_false, this, cl_true]
    cases xs == ys <;> rfl
  · have h1 : ((xs.length : Int) != (ys.length : Int)) = true := by simp; omega
    rw [h1, cond_true, beq_len hl]
/-! ### marks -/
end Go.Proofs.YtcodfkieaoomnaaGreatDoor
/- Printed by genh.py: the laws' own helpers computed. No program in sight. No statement of the seat is proved here. -/
namespace Go.Proofs.YtcodfkieaoomnaaGreatDoor
open Go.RowKit
set_option linter.unusedVariables false
set_option linter.unusedSimpArgs false

def w_StringS (x : List (List UInt8)) : Nat := wL (fun s : List UInt8 => s.length) x
def w_Record (x : (Int) × (Int) × (Int) × (List (List UInt8))) : Nat := w_StringS x.2.2.2
theorem sz_StringS {fu : Nat} {x : List (List UInt8)} {n : Int} (hb : (qS qB) x) (h0 : 0 ≤ n) (h1 : n ≤ 1048576) (hf : 1048577 ≤ fu) : M_laws_szStringS fu x n = some (szR n (w_StringS x)) := by
  unfold M_laws_szStringS w_StringS
  refine sz_list h0 h1 hb.1 hf (L := M_laws_szStringS_L0 fu x) (fun k y i z hl hz hy hy1 => ?_) (fun k y => by rw [M_laws_szStringS_L0, lt_f]; rfl)
  have hi := at_lt hz
  have hq := hb.2 z (at_mem hz)
  unfold qB maxLen at hq
  rw [M_laws_szStringS_L0, lt_t hi, cond_true, ck_t (inR_t hi), gtD_get hz, ck_t (i64B_t (by omega) (by omega))]
  by_cases h : (z.length : Int) ≤ y
  · rw [szR_lt h, szR_v h, decide_eq_false (by omega), cond_false, cond_false, ck_t (i64B_n (by omega)), succ_i]
  · rw [szR_ge h, decide_eq_true (by omega), cond_true, cond_true]
theorem sz_Record {fu : Nat} {x : (Int) × (Int) × (Int) × (List (List UInt8))} {n : Int} (hb : (qP qI (qP qI (qP qI (qS qB)))) x) (h0 : 0 ≤ n) (h1 : n ≤ 1048576) (hf : 1048577 ≤ fu) : M_laws_szRecord fu x n = some (szR n (w_Record x)) := by
  unfold M_laws_szRecord w_Record
  rw [sz_StringS hb.2.2.2 (by omega) (by omega) hf, cl_true]
  by_cases g0 : ¬ (w_StringS x.2.2.2 : Int) ≤ n
  · rw [szR_ge g0, cond_true]
    unfold szR
    rw [if_neg (by omega)]
  replace g0 := Classical.not_not.1 g0
  rw [szR_lt g0, cond_false, szR_v g0]

theorem to_StringS {fu : Nat} {x : List (List UInt8)} (hw : w_StringS x ≤ 1048576) (hf : 1048577 ≤ fu) : M_laws_toStringS fu x = some x := by
  have hw' := hw
  unfold w_StringS wL at hw'
  unfold M_laws_toStringS
  refine to_list (by omega) hf (L := M_laws_toStringS_L0 fu x) (fun k i ys z hi hl hz => ?_) (fun k ys => by rw [M_laws_toStringS_L0, lt_f]; rfl)
  rw [M_laws_toStringS_L0, lt_t hi, cond_true, ck_t (inR_t hi), ck_t (inR_t (by omega)), ck_t (i64B_n (by omega)), gtD_get hz, set_nat, succ_i]
theorem to_Record {fu : Nat} {x : (Int) × (Int) × (Int) × (List (List UInt8))} (hw : w_Record x ≤ 1048576) (hf : 1048577 ≤ fu) : M_laws_toRecord fu x = some x := by
  unfold w_Record at hw
  unfold M_laws_toRecord
  rw [to_StringS (by omega) hf, cl_true]
theorem eq_StringS {fu : Nat} {x y : List (List UInt8)} (hw : w_StringS x ≤ 1048576) (hf : 1048577 ≤ fu) : M_laws_eqStringS fu x y = some (x == y) := by
  have hw' := hw
  unfold w_StringS wL at hw'
  unfold M_laws_eqStringS
  refine eq_list (by omega) (L := M_laws_eqStringS_L0 fu x y) (fun k i z z' hl hz hz' => ?_) (fun k => by rw [M_laws_eqStringS_L0, lt_f]; rfl)
  have hi := at_lt hz
  rw [M_laws_eqStringS_L0, lt_t hi, cond_true, ck_t (inR_t hi), ck_t (inR_t (at_lt hz')), ck_t (i64B_n (by omega)), gtD_get hz, gtD_get hz', succ_i]
theorem eq_Record {fu : Nat} {x y : (Int) × (Int) × (Int) × (List (List UInt8))} (hw : w_Record x ≤ 1048576) (hf : 1048577 ≤ fu) : M_laws_eqRecord fu x y = some (x == y) := by
  obtain ⟨x0, x1, x2, x3⟩ := x
  obtain ⟨y0, y1, y2, y3⟩ := y
  unfold w_Record at hw
  try simp only [] at hw
  unfold M_laws_eqRecord
  rw [show (((x0, x1, x2, x3) : (Int) × (Int) × (Int) × (List (List UInt8))) == (y0, y1, y2, y3)) = ((x0 == y0) && ((x1 == y1) && ((x2 == y2) && (x3 == y3)))) from rfl]
  simp only []
  rw [eq_StringS (by omega) hf, cl_true]
  try simp only [bne]
  cases h0 : (x0 == y0) <;> cases h1 : (x1 == y1) <;> cases h2 : (x2 == y2) <;> cases h3 : (x3 == y3) <;> rfl
theorem law_ShareBlock {fu : Nat} {a0 : (Int) × (Int) × (Int) × (List (List UInt8))} {a1 : (Int) × (Int) × (Int) × (List (List UInt8))} (hf : 1048577 ≤ fu) (h0 : (qP qI (qP qI (qP qI (qS qB)))) a0) (h1 : (qP qI (qP qI (qP qI (qS qB)))) a1)
    (hs : w_Record a0 + w_Record a1 ≤ 1048576 → ∃ r : (Bool), M_spec_ShareBlock fu a0 a1 = some r ∧ M_impl_ShareBlock fu a0 a1 = some r) : M_laws_FnExactShareBlock fu a0 a1 = some true := by
  unfold M_laws_FnExactShareBlock
  rw [sz_Record h0 (by omega) (by omega) hf, cl_true]
  by_cases g0 : ¬ (w_Record a0 : Int) ≤ 1048576
  · rw [szR_ge g0, cond_true]
  replace g0 := Classical.not_not.1 g0
  rw [szR_lt g0, cond_false, szR_v g0]
  rw [sz_Record h1 (by omega) (by omega) hf, cl_true]
  by_cases g1 : ¬ (w_Record a1 : Int) ≤ 1048576 - (w_Record a0 : Nat)
  · rw [szR_ge g1, cond_true]
  replace g1 := Classical.not_not.1 g1
  rw [szR_lt g1, cond_false]
  obtain ⟨r, e1, e2⟩ := hs (by omega)
  have t0 : M_laws_toRecord fu a0 = some a0 := to_Record (by omega) hf
  have q0 : M_laws_eqRecord fu a0 a0 = some (a0 == a0) := eq_Record (by omega) hf
  have t1 : M_laws_toRecord fu a1 = some a1 := to_Record (by omega) hf
  have q1 : M_laws_eqRecord fu a1 a1 = some (a1 == a1) := eq_Record (by omega) hf
  simp only [e1, e2, cl_true, bd_eq, beq_self_eq_true, bne_self_eq_false', Bool.not_true, Bool.not_false, cond_false, cond_true, Bool.true_and, Bool.and_true, Bool.false_or, Bool.or_false, Bool.true_or, Bool.false_and, t0, q0, t1, q1, show (false == false) = true from rfl, show (true == false) = false from rfl, show (false == true) = false from rfl]
end Go.Proofs.YtcodfkieaoomnaaGreatDoor
/- Plain words: common loops over a list. No program in sight. No statement of the seat is proved here. -/
namespace Go.Proofs.YtcodfkieaoomnaaGreatDoor
open Go.RowKit
set_option linter.unusedVariables false

/-- a loop that ends early at the first element with p -/
theorem loop_any {α ρ : Type} {xs : List α} {p : α → Bool} {r : ρ} {L : Nat → Int → Option (Ex ρ Unit)}
    (hs : ∀ k (i : Nat) x, xs[i]? = some x → L (k + 1) (i : Int) = bif p x then some (.ret r) else L k ((i + 1 : Nat) : Int)) (he : ∀ k, L (k + 1) (xs.length : Int) = some (.go ())) {fu : Nat} (hf : xs.length < fu) :
    L fu (0 : Int) = some (bif xs.any p then .ret r else .go ()) := by
  have key : ∀ m i k, i + m = xs.length → m < k → L k ((i : Nat) : Int) = some (bif (xs.drop i).any p then .ret r else .go ()) := by
    intro m
    induction m with
    | zero =>
      intro i k hi hk
      obtain ⟨k, rfl⟩ : ∃ q, k = q + 1 := ⟨k - 1, by omega⟩
      obtain rfl : i = xs.length := by omega
      rw [he, List.drop_length]
      rfl
    | succ m ih =>
      intro i k hi hk
      obtain ⟨k, rfl⟩ : ∃ q, k = q + 1 := ⟨k - 1, by omega⟩
      have hx := List.getElem?_eq_getElem (show i < xs.length by omega)
      rw [hs k i _ hx, drop_cons hx, List.any_cons]
      cases p xs[i]
      · exact ih (i + 1) k (by omega) (by omega)
      · rfl
  have := key xs.length 0 fu (by omega) hf
  rwa [show ((0 : Nat) : Int) = 0 from rfl, List.drop_zero] at this
/-- .. with its index -/
def ixI : Nat → List Bool → Option Nat
  | _, [] => none
  | i, b :: bs => bif b then some i else ixI (i + 1) bs
theorem ixI_some : ∀ {bs : List Bool} {i j : Nat}, ixI i bs = some j → i ≤ j ∧ bs[j - i]? = some true ∧ ∀ q, q < j - i → bs[q]? = some false
  | [], i, j, h => by cases h
  | b :: bs, i, j, h => by
    unfold ixI at h
    cases b with
    | true =>
      obtain rfl := Option.some.inj h
      refine ⟨Nat.le_refl _, by simp, fun q hq => by omega⟩
    | false =>
      obtain ⟨h1, h2, h3⟩ := ixI_some (bs := bs) (i := i + 1) h
      refine ⟨by omega, ?_, fun q hq => ?_⟩
      · rw [show j - i = (j - (i + 1)) + 1 by omega, List.getElem?_cons_succ]
        exact h2
      · cases q with
        | zero => rfl
        | succ q => rw [List.getElem?_cons_succ]; exact h3 q (by omega)
theorem ixI_none : ∀ {bs : List Bool} {i : Nat}, ixI i bs = none → ∀ b ∈ bs, b = false
  | [], i, h, b, hb => by cases hb
  | c :: bs, i, h, b, hb => by
    unfold ixI at h
    cases c with
    | true => cases h
    | false =>
      rcases List.mem_cons.1 hb with rfl | hb
      · rfl
      · exact ixI_none (bs := bs) (i := i + 1) h b hb
theorem loop_ix {α : Type} {xs : List α} {p : α → Bool} {L : Nat → Int → Option (Ex Int Unit)}
    (hs : ∀ k (i : Nat) x, xs[i]? = some x → L (k + 1) (i : Int) = bif p x then some (.ret (i : Int)) else L k ((i + 1 : Nat) : Int)) (he : ∀ k, L (k + 1) (xs.length : Int) = some (.go ())) {fu : Nat} (hf : xs.length < fu) :
    L fu (0 : Int) = some (match ixI 0 (xs.map p) with | some i => .ret (i : Int) | none => .go ()) := by
  have key : ∀ m i k, i + m = xs.length → m < k → L k ((i : Nat) : Int) = some (match ixI i ((xs.drop i).map p) with | some i => .ret (i : Int) | none => .go ()) := by
    intro m
    induction m with
    | zero =>
      intro i k hi hk
      obtain ⟨k, rfl⟩ : ∃ q, k = q + 1 := ⟨k - 1, by omega⟩
      obtain rfl : i = xs.length := by omega
      rw [he, List.drop_length]
      rfl
    | succ m ih =>
      intro i k hi hk
      obtain ⟨k, rfl⟩ : ∃ q, k = q + 1 := ⟨k - 1, by omega⟩
      have hx := List.getElem?_eq_getElem (show i < xs.length by omega)
      rw [hs k i _ hx, drop_cons hx, List.map_cons, ixI]
      cases p xs[i]
      · exact ih (i + 1) k (by omega) (by omega)
      · rfl
  have := key xs.length 0 fu (by omega) hf
  rwa [show ((0 : Nat) : Int) = 0 from rfl, List.drop_zero] at this
/-- a loop that goes through the list with something in hand -/
theorem loop_fold {α σ : Type} {xs : List α} {g : σ → α → σ} {Inv : Nat → σ → Prop} {L : Nat → Int → σ → Option σ}
    (hs : ∀ k (i : Nat) a x, xs[i]? = some x → Inv i a → L (k + 1) (i : Int) a = L k ((i + 1 : Nat) : Int) (g a x)) (hI : ∀ (i : Nat) a x, xs[i]? = some x → Inv i a → Inv (i + 1) (g a x))
    (he : ∀ k a, Inv xs.length a → L (k + 1) (xs.length : Int) a = some a) {a : σ} (h0 : Inv 0 a) {fu : Nat} (hf : xs.length < fu) :
    L fu (0 : Int) a = some (xs.foldl g a) ∧ Inv xs.length (xs.foldl g a) := by
  have key : ∀ m i k a, i + m = xs.length → m < k → Inv i a → L k ((i : Nat) : Int) a = some ((xs.drop i).foldl g a) ∧ Inv xs.length ((xs.drop i).foldl g a) := by
    intro m
    induction m with
    | zero =>
      intro i k a hi hk ha
      obtain ⟨k, rfl⟩ : ∃ q, k = q + 1 := ⟨k - 1, by omega⟩
      obtain rfl : i = xs.length := by omega
      rw [he k a ha, List.drop_length]
      exact ⟨rfl, ha⟩
    | succ m ih =>
      intro i k a hi hk ha
      obtain ⟨k, rfl⟩ : ∃ q, k = q + 1 := ⟨k - 1, by omega⟩
      have hx := List.getElem?_eq_getElem (show i < xs.length by omega)
      rw [hs k i a _ hx ha, drop_cons hx, List.foldl_cons]
      exact ih (i + 1) k _ (by omega) (by omega) (hI i a _ hx ha)
  have := key xs.length 0 fu a (by omega) hf h0
  rwa [show ((0 : Nat) : Int) = 0 from rfl, List.drop_zero] at this
theorem i64B_c {i : Nat} (hn : i ≤ 4294967296) : i64B ((i + 1 : Nat) : Int) = true := i64B_t (by omega) (by omega)
theorem i64B_i (i : Nat) (hn : i ≤ 4294967296) : i64B (i : Int) = true := i64B_t (by omega) (by omega)
theorem lt_0 {n : Nat} (h : 0 < n) : decide ((0 : Int) < (n : Int)) = true := decide_eq_true (by omega)
theorem inR_0 {n : Nat} (h : 0 < n) : inR (0 : Int) n = true := inR_t (i := 0) h
theorem one_i : (0 : Int) + 1 = ((1 : Nat) : Int) := rfl
theorem i64B_1 : i64B ((1 : Nat) : Int) = true := rfl
theorem pred_i (i : Nat) : ((i + 1 : Nat) : Int) - 1 = (i : Int) := by omega
end Go.Proofs.YtcodfkieaoomnaaGreatDoor
/- Plain: sets of tokens, program and reference alike. No statement of the seat is proved here. -/
namespace Go.Proofs.YtcodfkieaoomnaaGreatDoor
open Go.RowKit
set_option linter.unusedVariables false
set_option linter.unusedSimpArgs false

theorem bAt_get {t : List UInt8} {i : Nat} {c : UInt8} (h : t[i]? = some c) : bAt t (i : Int) = (c.toNat : Int) := by
  unfold bAt
  rw [Int.toNat_natCast, List.getD_eq_getElem?_getD, h]
  rfl
def smI (n : Int) : Bool := decide (97 ≤ n) && decide (n ≤ 122)
def dgI (n : Int) : Bool := decide (48 ≤ n) && decide (n ≤ 57)
def cpI (n : Int) : Bool := decide (65 ≤ n) && decide (n ≤ 90)
/-! the reference's way -/
def foldI (n : Int) : Int := bif cpI n then n + 32 else n
theorem u8_wrap (n : Int) (h0 : 0 ≤ n) (h1 : n ≤ 255) : IntKind.u8.wrap n = n := by
  have : n % 256 = n := Int.emod_eq_of_lt h0 (by omega)
  simp [IntKind.wrap, IntKind.bits, this, show IntKind.u8.signed = false from rfl]
theorem fold_t {fu : Nat} {t : List UInt8} (hf : t.length < fu) (hl : t.length ≤ 1048576) : M_spec_FoldCase fu t = some (t.map fun c => UInt8.ofNat (foldI c.toNat).toNat) := by
  unfold M_spec_FoldCase
  have h := loop_fold (xs := t) (g := fun (a : List Int) (c : UInt8) => a ++ [foldI c.toNat]) (Inv := fun i a => a.length = i) (L := M_spec_FoldCase_L0 fu t) (fun k i a c hc ha => by
    have hi := at_lt hc
    have hcu : c.toNat < 256 := c.toNat_lt
    rw [M_spec_FoldCase_L0, lt_t hi, cond_true]
    simp only [inR_t hi, bAt_get hc, bd_eq, ck_tt, List.length_singleton, lenOK_t (show a.length + 1 ≤ 4294967296 by omega), i64B_c (show i ≤ 4294967296 by omega), succ_i, foldI, cpI]
    cases hcp : (decide ((65 : Int) ≤ (c.toNat : Int)) && decide ((c.toNat : Int) ≤ 90))
    · rfl
    · simp only [Bool.and_eq_true, decide_eq_true_eq] at hcp
      rw [u8_wrap _ (by omega) (by omega)]
      rfl) (fun i a c hc ha => by simp [ha]) (fun k a ha => by rw [M_spec_FoldCase_L0, lt_f]; rfl) (a := []) rfl hf
  rw [h.1, cl_true]
  have key : ∀ (t : List UInt8) (a : List Int), t.foldl (fun (a : List Int) (c : UInt8) => a ++ [foldI c.toNat]) a = a ++ t.map fun c => foldI c.toNat := by
    intro t
    induction t with
    | nil => intro a; simp
    | cons c t ih => intro a; rw [List.foldl_cons, ih]; simp
  rw [key, List.nil_append]
  unfold strB
  rw [List.map_map]
  rfl
def wdI (n : Int) : Bool := (smI n || cpI n) || dgI n
end Go.Proofs.YtcodfkieaoomnaaGreatDoor
