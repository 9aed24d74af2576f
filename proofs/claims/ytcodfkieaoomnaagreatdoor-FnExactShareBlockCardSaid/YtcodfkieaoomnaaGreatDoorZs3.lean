/- Own texts laid together. No statement of the seat is proved here. -/
import Derived.Test.YtcodfkieaoomnaaGreatDoorZs2
/- Printed by dec.py: plain functions and the proofs that the code computes them. No statement of the seat is proved here. -/
namespace Go.Proofs.YtcodfkieaoomnaaGreatDoor
open Go.RowKit
set_option linter.unusedVariables false
set_option maxRecDepth 100000
set_option maxHeartbeats 4000000
def M_laws_szStringS_L0 (fu : Nat) (p0 : List (List UInt8)) : Nat → Int → Int → Option (Ex Int Int)
 | 0, _, _ => none
 | k + 1, y6, y7 =>
 bif (decide (y7 < (p0.length : Int))) then (
 ck (inR y7 p0.length) <|
 ck (i64B (y6 - ((gtD p0 y7).length : Int))) <|
 bif (decide ((y6 - ((gtD p0 y7).length : Int)) < 0)) then (
 some (Ex.ret (-1))
 ) else (
 ck (i64B (y7 + 1)) <|
 M_laws_szStringS_L0 fu p0 k (y6 - ((gtD p0 y7).length : Int)) (y7 + 1)
 )
 ) else (
 some (Ex.go y6)
 )
def M_laws_szStringS (fu : Nat) (p0 : List (List UInt8)) (p1 : Int) : Option Int :=
 ck (i64B (p1 - (p0.length : Int))) <|
 bif (decide ((p1 - (p0.length : Int)) < 0)) then (
 some (-1)
 ) else (
 cl true (M_laws_szStringS_L0 fu p0 fu (p1 - (p0.length : Int)) 0) fun rl3 =>
 exM rl3 (fun r => some r) fun s5 =>
 some s5
 )
theorem M_laws_szStringS_ok {fu : Nat} {A : Av} {p0 : List (List UInt8)} {p1 : Int} {r : Int} (hr : M_laws_szStringS fu p0 p1 = some r) {w : World} {v0 : Value} {v1 : Value} (hA : AvOK A w) (h0 : Rep (eSl eStr) A w v0 p0) (h1 : v1 = .int .i64 p1) :
 Calls Tryz.prog 107 #[v0, v1] w fun e w' => ∃ v, e = .returned v ∧ (v = .int .i64 r ∧ Fr w w') := by
 unfold M_laws_szStringS at hr
 obtain ⟨w0, hw0⟩ : ∃ w0, w0 = w := ⟨_, rfl⟩
 have hF : Fr w0 w := hw0 ▸ Fr.refl _
 rw [show Fr w = Fr w0 from hw0 ▸ rfl]
 clear hw0
 refine calls_of_HT2 [.tmp 4] Tryz.func107 Tryz.ntmps107 (by decide) rfl rfl (Nat.le_of_ble_eq_true rfl) ?_
 intro R hR
 have f_v0 := h0
 replace h0 : R 0 = v0 := hR 0 _ rfl
 replace h1 : R 1 = .int .i64 p1 := (hR 1 _ rfl).trans h1
 clear hR
 refine HT.seq ?_
 refine HT.u hA hF (eI 0 :: []) ?_ ?_
 exact Obls.p (fun R' w' hw hs hd => of_assign rfl) <| Obls.nil
 intro R w hw hs hF' hA hF
 obtain ⟨h0, h1⟩ := k2 hs h0 h1
 replace f_v0 := f_v0.fr hw
 refine HT.seq ?_
 obtain ⟨e1, hr⟩ := ck_some hr
 refine HT.u hA hF (eI p1 :: eR v0 :: eI (p0.length : Int) :: eI (p1 - (p0.length : Int)) :: eI (p1 - (p0.length : Int)) :: []) ?_ ?_
 exact Obls.m h1 <| Obls.m h0 <| Obls.p (fun R' w' hw hs hd => of_len_sl (aT := #[]) ((f_v0.fr hw).eq (hd.g 0 rfl)) Tryz.underlying46) <| Obls.p (fun R' w' hw hs hd => of_sub (hd.g 0 rfl) (hd.g 1 rfl) e1) <| Obls.a <| Obls.nil
 intro R w hw hs hF' hA hF
 replace h0 := k1 hs h0
 have h1 := hF'.r 4 rfl
 replace f_v0 := f_v0.fr hw
 refine HT.seq ?_
 refine HT.seq ?_
 refine HT.u hA hF (eI (p1 - (p0.length : Int)) :: eB (decide ((p1 - (p0.length : Int)) < (0 : Int))) :: []) ?_ ?_
 exact Obls.m h1 <| Obls.p (fun R' w' hw hs hd => of_lss (hd.g 0 rfl) rfl) <| Obls.nil
 intro R w hw hs hF' hA hF
 obtain ⟨h0, h1⟩ := k2 hs h0 h1
 have h11 := hF'.r 1 rfl
 replace f_v0 := f_v0.fr hw
 refine HT.cond (decide ((p1 - (p0.length : Int)) < (0 : Int))) h11 (fun c2 => ?_) (fun c2 => ?_)
 have hr := cnd_t c2 hr
 refine HT.seq ?_
 refine HT.u hA hF (eI (-1) :: []) ?_ ?_
 exact Obls.p (fun R' w' hw hs hd => of_assign rfl) <| Obls.nil
 intro R w hw hs hF' hA hF
 have h4 := hF'.r 0 rfl
 refine HT.ret ?_
 obtain rfl := Option.some.inj hr
 exact ⟨.inr rfl, [R 4], ⟨rfl, trivial⟩, h4, hF⟩
 have hr := cnd_f c2 hr
 refine HT.skip ?_
 refine HT.seq ?_
 refine HT.seq ?_
 refine HT.u hA hF (eI 0 :: []) ?_ ?_
 exact Obls.p (fun R' w' hw hs hd => of_assign rfl) <| Obls.nil
 intro R w hw hs hF' hA hF
 obtain ⟨h0, h1⟩ := k2 hs h0 h1
 have h5 := hF'.r 0 rfl
 replace f_v0 := f_v0.fr hw
 obtain ⟨rl3, q4, hr⟩ := cl_some hr
 replace q4 := q4 rfl
 refine HT.cut0 (fun R w => ∃ (s5 : Int), rl3 = Ex.go s5 ∧ AvOK A w ∧ Fr w0 w ∧ R 1 = .int .i64 s5) ?_ ?_
 refine HT.block ?_
 refine HT.loop (fun k R w => ∃ (y6 : Int) (y7 : Int), M_laws_szStringS_L0 fu p0 k y6 y7 = some rl3 ∧ AvOK A w ∧ Fr w0 w ∧ R 0 = v0 ∧ R 1 = .int .i64 y6 ∧ R 5 = .int .i64 y7 ∧ Rep (eSl eStr) A w v0 p0) fu ⟨_, _, q4, hA, hF, h0, h1, h5, f_v0⟩ ?_
 have hr0 := hr; clear hr q4
 rintro k R w ⟨y6, y7, hr, hA, hF, h0, h1, h5, f_v0⟩
 rcases k with _ | k
 cases (show none = some _ from hr)
 rw [M_laws_szStringS_L0] at hr
 refine HT.seq ?_
 refine HT.seq ?_
 refine HT.u hA hF (eI y7 :: eR v0 :: eI (p0.length : Int) :: eB (decide (y7 < (p0.length : Int))) :: []) ?_ ?_
 exact Obls.m h5 <| Obls.m h0 <| Obls.p (fun R' w' hw hs hd => of_len_sl (aT := #[]) ((f_v0.fr hw).eq (hd.g 0 rfl)) Tryz.underlying46) <| Obls.p (fun R' w' hw hs hd => of_lss (hd.g 0 rfl) (hd.g 1 rfl)) <| Obls.nil
 intro R w hw hs hF' hA hF
 obtain ⟨h0, h1, h5⟩ := k3 hs h0 h1 h5
 have h15 := hF'.r 3 rfl
 replace f_v0 := f_v0.fr hw
 refine HT.cond (decide (y7 < (p0.length : Int))) h15 (fun c8 => ?_) (fun c8 => ?_)
 have hr := cnd_t c8 hr
 refine HT.skip ?_
 refine HT.seq ?_
 refine HT.block ?_
 refine HT.seq ?_
 obtain ⟨e9, hr⟩ := ck_some hr
 obtain ⟨e10, hr⟩ := ck_some hr
 refine HT.u hA hF (eI y6 :: eR v0 :: eI y7 :: eF (.qtr eStr A (gtD p0 y7)) :: eF (.rep eStr A (gtD p0 y7)) :: eI ((gtD p0 y7).length : Int) :: eI (y6 - ((gtD p0 y7).length : Int)) :: eI (y6 - ((gtD p0 y7).length : Int)) :: []) ?_ ?_
 exact Obls.m h1 <| Obls.m h0 <| Obls.m h5 <| Obls.p (fun R' w' hw hs hd => of_indexAddr ((f_v0.fr hw).eq (hd.g 0 rfl)) (hd.g 1 rfl) Tryz.underlying46 Tryz.sizeOf9 e9) <| Obls.p (fun R' w' hw hs hd => (of_load (QRep.ptr (hd.g 0 rfl)) Tryz.isAgg9 Tryz.sizeOf9)) <| Obls.p (fun R' w' hw hs hd => of_len_str (hd.g 0 rfl) Tryz.underlying9) <| Obls.p (fun R' w' hw hs hd => of_sub (hd.g 0 rfl) (hd.g 1 rfl) e10) <| Obls.a <| Obls.nil
 intro R w hw hs hF' hA hF
 obtain ⟨h0, h5⟩ := k2 hs h0 h5
 have h1 := hF'.r 7 rfl
 replace f_v0 := f_v0.fr hw
 refine HT.seq ?_
 refine HT.u hA hF (eI (y6 - ((gtD p0 y7).length : Int)) :: eB (decide ((y6 - ((gtD p0 y7).length : Int)) < (0 : Int))) :: []) ?_ ?_
 exact Obls.m h1 <| Obls.p (fun R' w' hw hs hd => of_lss (hd.g 0 rfl) rfl) <| Obls.nil
 intro R w hw hs hF' hA hF
 obtain ⟨h0, h1, h5⟩ := k3 hs h0 h1 h5
 have h26 := hF'.r 1 rfl
 replace f_v0 := f_v0.fr hw
 refine HT.cond (decide ((y6 - ((gtD p0 y7).length : Int)) < (0 : Int))) h26 (fun c11 => ?_) (fun c11 => ?_)
 have hr := cnd_t c11 hr
 refine HT.seq ?_
 refine HT.u hA hF (eI (-1) :: []) ?_ ?_
 exact Obls.p (fun R' w' hw hs hd => of_assign rfl) <| Obls.nil
 intro R w hw hs hF' hA hF
 have h4 := hF'.r 0 rfl
 refine HT.ret ?_
 obtain rfl := Option.some.inj hr
 have hr := hr0
 replace hr : some _ = some _ := hr
 obtain rfl := Option.some.inj hr
 exact ⟨.inr rfl, [R 4], ⟨rfl, trivial⟩, h4, hF⟩
 have hr := cnd_f c11 hr
 refine HT.skip ?_
 obtain ⟨e12, hr⟩ := ck_some hr
 refine HT.u hA hF (eI y7 :: eI (y7 + (1 : Int)) :: eI (y7 + (1 : Int)) :: []) ?_ ?_
 exact Obls.m h5 <| Obls.p (fun R' w' hw hs hd => of_add (hd.g 0 rfl) rfl e12) <| Obls.a <| Obls.nil
 intro R w hw hs hF' hA hF
 obtain ⟨h0, h1⟩ := k2 hs h0 h1
 have h5 := hF'.r 2 rfl
 replace f_v0 := f_v0.fr hw
 exact Exists.intro k (And.intro (Nat.lt_succ_self k) ⟨_, _, hr, hA, hF, h0, h1, h5, f_v0⟩)
 have hr := cnd_f c8 hr
 refine HT.exit ?_
 obtain rfl := Option.some.inj hr
 exact Exists.intro _ ⟨rfl, hA, hF, h1⟩
 rintro R w ⟨s5, rfl, hA, hF, h1⟩
 have hr := exM_go hr
 refine HT.seq ?_
 refine HT.u hA hF (eI s5 :: eI s5 :: []) ?_ ?_
 exact Obls.m h1 <| Obls.a <| Obls.nil
 intro R w hw hs hF' hA hF
 have h4 := hF'.r 1 rfl
 refine HT.ret ?_
 obtain rfl := Option.some.inj hr
 exact ⟨.inr rfl, [R 4], ⟨rfl, trivial⟩, h4, hF⟩
def M_laws_szRecord (fu : Nat) (p0 : T_impl_Record) (p1 : Int) : Option Int :=
 cl true (M_laws_szStringS fu p0.2.2.2 p1) fun x2 =>
 bif (decide (x2 < 0)) then (
 some (-1)
 ) else (
 some x2
 )
theorem M_laws_szRecord_ok {fu : Nat} {A0 : Av} {p0 : T_impl_Record} {p1 : Int} {r : Int} (hr : M_laws_szRecord fu p0 p1 = some r) {w : World} {v0 : Value} {v1 : Value} (hA : AvOK A0 w) (h0 : Rep E_impl_Record A0 w v0 p0) (h1 : v1 = .int .i64 p1) :
 Calls Tryz.prog 31 #[v0, v1] w fun e w' => ∃ v, e = .returned v ∧ (v = .int .i64 r ∧ Fr w w') := by
 unfold M_laws_szRecord at hr
 obtain ⟨w0, hw0⟩ : ∃ w0, w0 = w := ⟨_, rfl⟩
 have hF : Fr w0 w := hw0 ▸ Fr.refl _
 have hA0 : ∀ b o, A0 b o → b < w0.heap.size := fun b o h => hw0 ▸ hA b o h
 have hA00 : AvOK A0 w0 := hA0
 rw [show Fr w = Fr w0 from hw0 ▸ rfl]
 clear hw0
 obtain ⟨A, hAe⟩ : ∃ A, A = A0 := ⟨_, rfl⟩
 have hAA : ∀ b o, A0 b o → A b o := fun b o h => hAe ▸ h
 replace hA : AvOK A w := hAe ▸ hA
 have hO : IniOK [] A w := IniOK.nil
 refine calls_of_HT2 [.tmp 4] Tryz.func31 Tryz.ntmps31 (by decide) rfl rfl (Nat.le_of_ble_eq_true rfl) ?_
 intro R hR
 have f_v0 : Rep E_impl_Record A w v0 p0 := hAe ▸ h0
 replace h0 : R 0 = v0 := hR 0 _ rfl
 replace h1 : R 1 = .int .i64 p1 := (hR 1 _ rfl).trans h1
 clear hR hAe
 refine HT.seq ?_
 refine HT.textR [] (⟨_, true, [], some (.box w0.heap.size 48 E_impl_Record p0), true, fun A => .any⟩ :: rI 0 :: []) (by kernel_rfl) (by kernel_rfl) (Wf.mk' (by kernel_rfl) (ua (ur (UAll.nil))) (by kernel_rfl) (by kernel_rfl)) hO hA ?_ ?_
 exact OblsR.cons (OblR.made _ rfl rfl rfl rfl fun A' R' w' ho hd => by have a0 : R' 0 = v0 := (ho.old 0 rfl).trans h0; have ra0 := (f_v0.stp ho.stp).eq a0; exact made_box ra0 (Nat.le_trans hF.size ho.ch.size)) <| OblsR.p (fun A' R' w' ho hd => of_assign rfl) <| OblsR.nil
 intro done ρ σ A R w hdn hI
 replace h1 := k1 hI.rg h1
 obtain ⟨b2_0, e_b2_0⟩ := hI.boxv hdn 0 rfl rfl
 have h2 : R 2 = (.pointer (some ⟨b2_0, 0, none⟩)) := (hI.opvR hdn 0 0 rfl rfl rfl rfl rfl).symm.trans e_b2_0
 replace hAA := hI.low' hAA hA0 (hO.ge (trivial))
 replace hF : Fr w0 w := hF.tr hI.ch (hO.ge (trivial))
 replace hO := hI.left hdn [(0, ob (.pointer (some ⟨b2_0, 0, none⟩)) (.box w0.heap.size 48 E_impl_Record p0))] ⟨rfl, rfl, e_b2_0, rfl, rfl, trivial⟩
 replace hA := hI.avok
 clear hI
 refine HT.seq ?_
 obtain ⟨x2, q3, hr⟩ := cl_some hr
 refine HT.u hA hF (eR (.pointer (some ⟨b2_0, 3, none⟩)) :: eF (.rep (eSl eStr) A p0.2.2.2) :: eI p1 :: eI x2 :: eI x2 :: []) ?_ ?_
 exact Obls.p (fun R' w' hw hs hd => of_fieldAddr_raw ((hs 2 rfl).trans h2) ff_48_3 Tryz.sizeOf46 (by decide) rfl) <| Obls.p (fun R' w' hw hs hd => (of_load_box ((hO.fr hw).ok 0 _ rfl).1 (hd.g 0 rfl) fl_impl_Record_3 rfl Tryz.isAgg46 Tryz.sizeOf46)) <| Obls.m h1 <| Obls.p (fun R' w' hw hs hd => of_call Tryz.call107 (M_laws_szStringS_ok (q3 rfl) (hA.fr hw.size) (hd.g 0 rfl) (hd.g 1 rfl))) <| Obls.a <| Obls.nil
 intro R w hw hs hF' hA hF
 have h1 := hF'.r 4 rfl
 replace hO := hO.fr hw
 replace hO : IniOK [] A w := hO.sub [] trivial
 refine HT.seq ?_
 refine HT.seq ?_
 refine HT.u hA hF (eI x2 :: eB (decide (x2 < (0 : Int))) :: []) ?_ ?_
 exact Obls.m h1 <| Obls.p (fun R' w' hw hs hd => of_lss (hd.g 0 rfl) rfl) <| Obls.nil
 intro R w hw hs hF' hA hF
 replace h1 := k1 hs h1
 have h10 := hF'.r 1 rfl
 replace hO := hO.fr hw
 refine HT.cond (decide (x2 < (0 : Int))) h10 (fun c4 => ?_) (fun c4 => ?_)
 have hr := cnd_t c4 hr
 refine HT.seq ?_
 refine HT.u hA hF (eI (-1) :: []) ?_ ?_
 exact Obls.p (fun R' w' hw hs hd => of_assign rfl) <| Obls.nil
 intro R w hw hs hF' hA hF
 have h4 := hF'.r 0 rfl
 replace hO := hO.fr hw
 refine HT.ret ?_
 obtain rfl := Option.some.inj hr
 exact ⟨.inr rfl, [R 4], ⟨rfl, trivial⟩, h4, hF⟩
 have hr := cnd_f c4 hr
 refine HT.skip ?_
 refine HT.seq ?_
 refine HT.u hA hF (eI x2 :: eI x2 :: []) ?_ ?_
 exact Obls.m h1 <| Obls.a <| Obls.nil
 intro R w hw hs hF' hA hF
 have h4 := hF'.r 1 rfl
 replace hO := hO.fr hw
 refine HT.ret ?_
 obtain rfl := Option.some.inj hr
 exact ⟨.inr rfl, [R 4], ⟨rfl, trivial⟩, h4, hF⟩
def M_laws_toStringS_L0 (fu : Nat) (p0 : List (List UInt8)) : Nat → Int → (List (List UInt8)) → Option (List (List UInt8))
 | 0, _, _ => none
 | k + 1, y6, y7 =>
 bif (decide (y6 < (p0.length : Int))) then (
 ck (inR y6 p0.length) <|
 ck (inR y6 y7.length) <|
 ck (i64B (y6 + 1)) <|
 M_laws_toStringS_L0 fu p0 k (y6 + 1) (y7.set y6.toNat (gtD p0 y6))
 ) else (
 some y7
 )
def M_laws_toStringS (fu : Nat) (p0 : List (List UInt8)) : Option (List (List UInt8)) :=
 ck (mkOK (p0.length : Int)) <|
 cl true (M_laws_toStringS_L0 fu p0 fu 0 (List.replicate (p0.length : Int).toNat ([] : List UInt8))) fun s5 =>
 some s5
theorem M_laws_toStringS_ok {fu : Nat} {A0 : Av} {p0 : List (List UInt8)} {r : List (List UInt8)} (hr : M_laws_toStringS fu p0 = some r) {w : World} {v0 : Value} (hA : AvOK A0 w) (h0 : Rep (eSl eStr) A0 w v0 p0) :
 Calls Tryz.prog 112 #[v0] w fun e w' => ∃ v, e = .returned v ∧ ((Res.vec w.heap.size 9 eStr r).ok (addA A0 v) v w' ∧ Fr w w') := by
 unfold M_laws_toStringS at hr
 obtain ⟨w0, hw0⟩ : ∃ w0, w0 = w := ⟨_, rfl⟩
 have hF : Fr w0 w := hw0 ▸ Fr.refl _
 have hA0 : ∀ b o, A0 b o → b < w0.heap.size := fun b o h => hw0 ▸ hA b o h
 have hA00 : AvOK A0 w0 := hA0
 rw [show w.heap.size = w0.heap.size from hw0 ▸ rfl]
 rw [show Fr w = Fr w0 from hw0 ▸ rfl]
 clear hw0
 obtain ⟨A, hAe⟩ : ∃ A, A = A0 := ⟨_, rfl⟩
 have hAA : ∀ b o, A0 b o → A b o := fun b o h => hAe ▸ h
 replace hA : AvOK A w := hAe ▸ hA
 have hO : IniOK [] A w := IniOK.nil
 refine calls_of_HT2 [.tmp 2] Tryz.func112 Tryz.ntmps112 (by decide) rfl rfl (Nat.le_of_ble_eq_true rfl) ?_
 intro R hR
 have f_v0 : Rep (eSl eStr) A w v0 p0 := hAe ▸ h0
 replace h0 : R 0 = v0 := hR 0 _ rfl
 clear hR hAe
 refine HT.seq ?_
 refine HT.u hA hF (eA :: []) ?_ ?_
 exact Obls.p (fun R' w' hw hs hd => of_assign trivial) <| Obls.nil
 intro R w hw hs hF' hA hF
 replace h0 := k1 hs h0
 replace f_v0 := f_v0.fr hw
 replace hO := hO.fr hw
 refine HT.seq ?_
 obtain ⟨e1, hr⟩ := ck_some hr
 refine HT.textR [] (rR v0 :: rI (p0.length : Int) :: ⟨_, true, [], some (.vec w0.heap.size 9 eStr (List.replicate (p0.length : Int).toNat ([] : List UInt8))), true, fun A => .any⟩ :: ⟨_, true, [2], some (.vec w0.heap.size 9 eStr (List.replicate (p0.length : Int).toNat ([] : List UInt8))), true, fun A => .any⟩ :: []) (by kernel_rfl) (by kernel_rfl) (Wf.mk' (by kernel_rfl) (ur (ur (ua (ua (UAll.nil))))) (by kernel_rfl) (by kernel_rfl)) hO hA ?_ ?_
 exact OblsR.m h0 <| OblsR.p (fun A' R' w' ho hd => of_len_sl (aT := #[]) ((f_v0.stp ho.stp).eq (hd.g 0 rfl)) Tryz.underlying46) <| OblsR.cons (OblR.made _ rfl rfl rfl rfl fun A' R' w' ho hd => by have a0 : R' 6 = .int .i64 (p0.length : Int) := hd.g 0 rfl; have a1 : R' 6 = .int .i64 (p0.length : Int) := hd.g 0 rfl; exact made_make a0 a1 e1 Tryz.underlying46 el_9 Tryz.zeroValue9 (fun A w => (rep1_str rfl (by decide))) (Nat.le_trans hF.size ho.ch.size)) <| OblsR.cons (OblR.took 2 _ _ rfl rfl rfl rfl rfl fun A' R' w' ho hd u hok hav hin hop hds => by exact took_assign (hop _ _ rfl rfl rfl rfl).symm hok hav) <| OblsR.nil
 intro done ρ σ A R w hdn hI
 replace h0 := k1 hI.rg h0
 obtain ⟨u2, e_u2⟩ : ∃ u, ρ 3 = u := ⟨_, rfl⟩
 have h3 : R 3 = u2 := (hI.opvR hdn 3 3 rfl rfl rfl rfl rfl).symm.trans e_u2
 replace f_v0 := f_v0.stp hI.stp
 replace hAA := hI.low' hAA hA0 (hO.ge (trivial))
 replace hF : Fr w0 w := hF.tr hI.ch (hO.ge (trivial))
 replace hO := hI.left hdn [(3, ob u2 (.vec w0.heap.size 9 eStr (List.replicate (p0.length : Int).toNat ([] : List UInt8))))] ⟨rfl, rfl, e_u2, rfl, rfl, trivial⟩
 replace hA := hI.avok
 clear hI
 refine HT.seq ?_
 refine HT.seq ?_
 refine HT.u hA hF (eI 0 :: []) ?_ ?_
 exact Obls.p (fun R' w' hw hs hd => of_assign rfl) <| Obls.nil
 intro R w hw hs hF' hA hF
 obtain ⟨h0, h3⟩ := k2 hs h0 h3
 have h4 := hF'.r 0 rfl
 replace f_v0 := f_v0.fr hw
 replace hO := hO.fr hw
 obtain ⟨rl3, q4, hr⟩ := cl_some hr
 replace q4 := q4 rfl
 refine HT.cut0 (fun R w => ∃ A : Av, ∃ (s5 : (List (List UInt8))), rl3 = s5 ∧ AvOK A w ∧ Fr w0 w ∧ (∀ b o, A0 b o → A b o) ∧ IniOK [ob u2 (.vec w0.heap.size 9 eStr s5)] A w ∧ R 3 = u2) ?_ ?_
 refine HT.block ?_
 refine HT.loop (fun k R w => ∃ A : Av, ∃ (y6 : Int) (y7 : List (List UInt8)), M_laws_toStringS_L0 fu p0 k y6 y7 = some rl3 ∧ AvOK A w ∧ Fr w0 w ∧ (∀ b o, A0 b o → A b o) ∧ IniOK [ob u2 (.vec w0.heap.size 9 eStr y7)] A w ∧ R 0 = v0 ∧ R 3 = u2 ∧ R 4 = .int .i64 y6 ∧ Rep (eSl eStr) A w v0 p0) fu ⟨_, _, _, q4, hA, hF, hAA, hO, h0, h3, h4, f_v0⟩ ?_
 have hr0 := hr; clear hr q4
 rintro k R w ⟨A, y6, y7, hr, hA, hF, hAA, hO, h0, h3, h4, f_v0⟩
 rcases k with _ | k
 cases (show none = some _ from hr)
 rw [M_laws_toStringS_L0] at hr
 refine HT.seq ?_
 refine HT.seq ?_
 refine HT.u hA hF (eI y6 :: eR v0 :: eI (p0.length : Int) :: eB (decide (y6 < (p0.length : Int))) :: []) ?_ ?_
 exact Obls.m h4 <| Obls.m h0 <| Obls.p (fun R' w' hw hs hd => of_len_sl (aT := #[]) ((f_v0.fr hw).eq (hd.g 0 rfl)) Tryz.underlying46) <| Obls.p (fun R' w' hw hs hd => of_lss (hd.g 0 rfl) (hd.g 1 rfl)) <| Obls.nil
 intro R w hw hs hF' hA hF
 obtain ⟨h0, h3, h4⟩ := k3 hs h0 h3 h4
 have h11 := hF'.r 3 rfl
 replace f_v0 := f_v0.fr hw
 replace hO := hO.fr hw
 refine HT.cond (decide (y6 < (p0.length : Int))) h11 (fun c8 => ?_) (fun c8 => ?_)
 have hr := cnd_t c8 hr
 refine HT.skip ?_
 refine HT.seq ?_
 refine HT.block ?_
 obtain ⟨e9, hr⟩ := ck_some hr
 obtain ⟨e10, hr⟩ := ck_some hr
 refine HT.textR [ob u2 (.vec w0.heap.size 9 eStr y7)] (rR u2 :: rI y6 :: rR v0 :: rI y6 :: (rF fun A => .qtr eStr A (gtD p0 y6)) :: (rF fun A => .rep eStr A (gtD p0 y6)) :: rR (vptr u2 (y6.toNat * 1)) :: ⟨_, true, [0], some (.vec w0.heap.size 9 eStr (y7.set y6.toNat (gtD p0 y6))), false, fun A => .any⟩ :: []) (by kernel_rfl) (by kernel_rfl) (Wf.mk' (by kernel_rfl) (ur (ur (ur (ur (UAll.cons ust_qtr (up (ur (ua (UAll.nil))))))))) (by kernel_rfl) (by kernel_rfl)) hO hA ?_ ?_
 exact OblsR.m h3 <| OblsR.m h4 <| OblsR.m h0 <| OblsR.m h4 <| OblsR.p (fun A' R' w' ho hd => of_indexAddr ((f_v0.stp ho.stp).eq (hd.g 0 rfl)) (hd.g 1 rfl) Tryz.underlying46 Tryz.sizeOf9 e9) <| OblsR.p (fun A' R' w' ho hd => (of_load (QRep.ptr (hd.g 0 rfl)) Tryz.isAgg9 Tryz.sizeOf9)) <| OblsR.p (fun A' R' w' ho hd => of_indexAddr_vec (hO.ok 0 _ rfl).1 (hd.g 0 rfl) (hd.g 1 rfl) Tryz.underlying46 Tryz.sizeOf9 e10 rfl) <| OblsR.cons (OblR.took 0 _ _ rfl rfl rfl rfl rfl fun A' R' w' ho hd u hok hav hin hop hds => by have a0 : R' 20 = (vptr u2 (y6.toNat * 1)) := hd.g 0 rfl; have a1 : Rep eStr A' w' (R' 19) (gtD p0 y6) := hd.g 1 rfl; obtain rfl := hin _ rfl; exact took_vstore a1 hok hav a0 e10 rfl (FldS.id _) Tryz.sizeOf9 rfl) <| OblsR.nil
 intro done ρ σ A R w hdn hI
 obtain ⟨h0, h3, h4⟩ := k3 hI.rg h0 h3 h4
 have z11 := hI.inivR 0 rfl
 have z12 := (hI.opnR hdn 8 7 rfl rfl rfl rfl rfl).trans z11
 replace f_v0 := f_v0.stp hI.stp
 replace hAA := hI.low' hAA hA0 (hO.ge (⟨rfl, trivial⟩))
 replace hF : Fr w0 w := hF.tr hI.ch (hO.ge (⟨rfl, trivial⟩))
 replace hO := hI.left hdn [(8, ob u2 (.vec w0.heap.size 9 eStr (y7.set y6.toNat (gtD p0 y6))))] ⟨rfl, rfl, z12, rfl, rfl, trivial⟩
 replace hA := hI.avok
 clear hI
 obtain ⟨e13, hr⟩ := ck_some hr
 refine HT.u hA hF (eI y6 :: eI (y6 + (1 : Int)) :: eI (y6 + (1 : Int)) :: []) ?_ ?_
 exact Obls.m h4 <| Obls.p (fun R' w' hw hs hd => of_add (hd.g 0 rfl) rfl e13) <| Obls.a <| Obls.nil
 intro R w hw hs hF' hA hF
 obtain ⟨h0, h3⟩ := k2 hs h0 h3
 have h4 := hF'.r 2 rfl
 replace f_v0 := f_v0.fr hw
 replace hO := hO.fr hw
 exact Exists.intro k (And.intro (Nat.lt_succ_self k) ⟨_, _, _, hr, hA, hF, hAA, hO, h0, h3, h4, f_v0⟩)
 have hr := cnd_f c8 hr
 refine HT.exit ?_
 obtain rfl := Option.some.inj hr
 exact Exists.intro _ ⟨_, rfl, hA, hF, hAA, hO, h3⟩
 rintro R w ⟨A, s5, es, hA, hF, hAA, hO, h3⟩
 obtain rfl := es.symm
 refine HT.seq ?_
 refine HT.u hA hF (eR u2 :: eR u2 :: []) ?_ ?_
 exact Obls.m h3 <| Obls.a <| Obls.nil
 intro R w hw hs hF' hA hF
 have h2 := hF'.r 1 rfl
 replace hO := hO.fr hw
 refine HT.ret ?_
 obtain rfl := Option.some.inj hr
 exact ⟨.inr rfl, [R 2], ⟨rfl, trivial⟩, (own_post (hO.ok 0 _ rfl) hAA h2), hF⟩
def M_laws_toRecord (fu : Nat) (p0 : T_impl_Record) : Option T_impl_Record :=
 cl true (M_laws_toStringS fu p0.2.2.2) fun x23 =>
 some (p0.1, p0.2.1, p0.2.2.1, x23)
theorem M_laws_toRecord_ok {fu : Nat} {A0 : Av} {p0 : T_impl_Record} {r : T_impl_Record} (hr : M_laws_toRecord fu p0 = some r) {w : World} {v0 : Value} (hA : AvOK A0 w) (h0 : Rep E_impl_Record A0 w v0 p0) :
 Calls Tryz.prog 33 #[v0] w fun e w' => ∃ v, e = .returned v ∧ (MadeS A0 (trR (geB w.heap.size) (oPr (oRd (eInt .i64)) (oPr (oRd (eInt .i64)) (oPr (oRd (eInt .i64)) (oSl 9 (oRd eStr))))) r []) (fun _ => .any) w v w') := by
 unfold M_laws_toRecord at hr
 obtain ⟨w0, hw0⟩ : ∃ w0, w0 = w := ⟨_, rfl⟩
 have hF : Fr w0 w := hw0 ▸ Fr.refl _
 have hA0 : ∀ b o, A0 b o → b < w0.heap.size := fun b o h => hw0 ▸ hA b o h
 have hA00 : AvOK A0 w0 := hA0
 rw [show MadeS A0 (trR (geB w.heap.size) (oPr (oRd (eInt .i64)) (oPr (oRd (eInt .i64)) (oPr (oRd (eInt .i64)) (oSl 9 (oRd eStr))))) r []) (fun _ => .any) w = MadeS A0 (trR (geB w0.heap.size) (oPr (oRd (eInt .i64)) (oPr (oRd (eInt .i64)) (oPr (oRd (eInt .i64)) (oSl 9 (oRd eStr))))) r []) (fun _ => .any) w0 from hw0 ▸ rfl]
 clear hw0
 obtain ⟨A, hAe⟩ : ∃ A, A = A0 := ⟨_, rfl⟩
 have hAA : ∀ b o, A0 b o → A b o := fun b o h => hAe ▸ h
 replace hA : AvOK A w := hAe ▸ hA
 have hO : IniOK [] A w := IniOK.nil
 refine calls_of_HT2 [.cell 2 51] Tryz.func33 Tryz.ntmps33 (by decide) rfl rfl (Nat.le_of_ble_eq_true rfl) ?_
 intro R hR
 have f_v0 : Rep E_impl_Record A w v0 p0 := hAe ▸ h0
 replace h0 : R 0 = v0 := hR 0 _ rfl
 clear hR hAe
 refine HT.seq ?_
 refine HT.textR [] (⟨_, true, [], some (.box w0.heap.size 48 E_impl_Record p0), true, fun A => .any⟩ :: ⟨_, true, [], some (trR (geB w0.heap.size) (oPt 51 (oPr (oRd (eInt .i64)) (oPr (oRd (eInt .i64)) (oPr (oRd (eInt .i64)) (oSl 9 (oRd eStr)))))) ((0 : Int), ((0 : Int), ((0 : Int), ([] : List (List UInt8))))) []), true, fun A => .any⟩ :: []) (by kernel_rfl) (by kernel_rfl) (Wf.mk' (by kernel_rfl) (ua (ua (UAll.nil))) (by kernel_rfl) (by kernel_rfl)) hO hA ?_ ?_
 exact OblsR.cons (OblR.made _ rfl rfl rfl rfl fun A' R' w' ho hd => by have a0 : R' 0 = v0 := (ho.old 0 rfl).trans h0; have ra0 := (f_v0.stp ho.stp).eq a0; exact made_box ra0 (Nat.le_trans hF.size ho.ch.size)) <| OblsR.cons (OblR.madeS _ rfl rfl rfl rfl fun A' R' w' ho hd => by exact made_allocT Tryz.zeroValue51 (fun A w => own_pr (own_rd rep1_int) (own_pr (own_rd rep1_int) (own_pr (own_rd rep1_int) own_nil))) (fun k hk => Nat.le_trans (Nat.le_trans hF.size ho.ch.size) hk)) <| OblsR.nil
 intro done ρ σ A R w hdn hI
 obtain ⟨b1_0, e_b1_0⟩ := hI.boxv hdn 0 rfl rfl
 have h1 : R 1 = (.pointer (some ⟨b1_0, 0, none⟩)) := (hI.opvR hdn 0 0 rfl rfl rfl rfl rfl).symm.trans e_b1_0
 obtain ⟨u2, e_u2⟩ : ∃ u, ρ 1 = u := ⟨_, rfl⟩
 have h2 : R 2 = u2 := (hI.opvR hdn 1 1 rfl rfl rfl rfl rfl).symm.trans e_u2
 obtain ⟨S3, eS_u2⟩ : ∃ S, σ 1 = S := ⟨_, rfl⟩
 replace hAA := hI.low' hAA hA0 (hO.ge (trivial))
 replace hF : Fr w0 w := hF.tr hI.ch (hO.ge (trivial))
 replace hO := hI.left hdn [(0, ob (.pointer (some ⟨b1_0, 0, none⟩)) (.box w0.heap.size 48 E_impl_Record p0)), (1, ⟨u2, S3, trR (geB w0.heap.size) (oPt 51 (oPr (oRd (eInt .i64)) (oPr (oRd (eInt .i64)) (oPr (oRd (eInt .i64)) (oSl 9 (oRd eStr)))))) ((0 : Int), ((0 : Int), ((0 : Int), ([] : List (List UInt8))))) []⟩)] ⟨rfl, rfl, e_b1_0, rfl, rfl, ⟨rfl, rfl, e_u2, eS_u2, rfl, trivial⟩⟩
 replace hA := hI.avok
 clear hI
 refine HT.seq ?_
 refine HT.textR [ob (.pointer (some ⟨b1_0, 0, none⟩)) (.box w0.heap.size 48 E_impl_Record p0), ⟨u2, S3, trR (geB w0.heap.size) (oPt 51 (oPr (oRd (eInt .i64)) (oPr (oRd (eInt .i64)) (oPr (oRd (eInt .i64)) (oSl 9 (oRd eStr)))))) ((0 : Int), ((0 : Int), ((0 : Int), ([] : List (List UInt8))))) []⟩] (⟨_, true, [], some (trR (geB w0.heap.size) (oPt 51 (oPr (oRd (eInt .i64)) (oPr (oRd (eInt .i64)) (oPr (oRd (eInt .i64)) (oSl 9 (oRd eStr)))))) ((0 : Int), ((0 : Int), ((0 : Int), ([] : List (List UInt8))))) []), true, fun A => .any⟩ :: []) (by kernel_rfl) (by kernel_rfl) (Wf.mk' (by kernel_rfl) (ua (UAll.nil)) (by kernel_rfl) (by kernel_rfl)) hO hA ?_ ?_
 exact OblsR.cons (OblR.madeS _ rfl rfl rfl rfl fun A' R' w' ho hd => by exact made_allocT Tryz.zeroValue51 (fun A w => own_pr (own_rd rep1_int) (own_pr (own_rd rep1_int) (own_pr (own_rd rep1_int) own_nil))) (fun k hk => Nat.le_trans (Nat.le_trans hF.size ho.ch.size) hk)) <| OblsR.nil
 intro done ρ σ A R w hdn hI
 obtain ⟨h1, h2⟩ := k2 hI.rg h1 h2
 have z4 := hI.inivR 0 rfl
 have z5 := hI.inivR 1 rfl
 obtain ⟨u6, e_u6⟩ : ∃ u, ρ 2 = u := ⟨_, rfl⟩
 have h3 : R 3 = u6 := (hI.opvR hdn 2 0 rfl rfl rfl rfl rfl).symm.trans e_u6
 have eS_u2 := hI.inisR 1 rfl
 obtain ⟨S7, eS_u6⟩ : ∃ S, σ 2 = S := ⟨_, rfl⟩
 replace hAA := hI.low' hAA hA0 (hO.ge (⟨rfl, ⟨fun _ h => h, trivial⟩⟩))
 replace hF : Fr w0 w := hF.tr hI.ch (hO.ge (⟨rfl, ⟨fun _ h => h, trivial⟩⟩))
 replace hO := hI.left hdn [(0, ob (.pointer (some ⟨b1_0, 0, none⟩)) (.box w0.heap.size 48 E_impl_Record p0)), (1, ⟨u2, S3, trR (geB w0.heap.size) (oPt 51 (oPr (oRd (eInt .i64)) (oPr (oRd (eInt .i64)) (oPr (oRd (eInt .i64)) (oSl 9 (oRd eStr)))))) ((0 : Int), ((0 : Int), ((0 : Int), ([] : List (List UInt8))))) []⟩), (2, ⟨u6, S7, trR (geB w0.heap.size) (oPt 51 (oPr (oRd (eInt .i64)) (oPr (oRd (eInt .i64)) (oPr (oRd (eInt .i64)) (oSl 9 (oRd eStr)))))) ((0 : Int), ((0 : Int), ((0 : Int), ([] : List (List UInt8))))) []⟩)] ⟨rfl, rfl, z4, rfl, rfl, ⟨rfl, rfl, z5, eS_u2, rfl, ⟨rfl, rfl, e_u6, eS_u6, rfl, trivial⟩⟩⟩
 replace hA := hI.avok
 clear hI
 refine HT.seq ?_
 refine HT.textR [ob (.pointer (some ⟨b1_0, 0, none⟩)) (.box w0.heap.size 48 E_impl_Record p0), ⟨u2, S3, trR (geB w0.heap.size) (oPt 51 (oPr (oRd (eInt .i64)) (oPr (oRd (eInt .i64)) (oPr (oRd (eInt .i64)) (oSl 9 (oRd eStr)))))) ((0 : Int), ((0 : Int), ((0 : Int), ([] : List (List UInt8))))) []⟩, ⟨u6, S7, trR (geB w0.heap.size) (oPt 51 (oPr (oRd (eInt .i64)) (oPr (oRd (eInt .i64)) (oPr (oRd (eInt .i64)) (oSl 9 (oRd eStr)))))) ((0 : Int), ((0 : Int), ((0 : Int), ([] : List (List UInt8))))) []⟩] (rR (.pointer (some ⟨b1_0, 0, none⟩)) :: rI p0.1 :: rR u6 :: ⟨_, true, [2], some (trR (geB w0.heap.size) (oPt 51 (oPr (oRd (eInt .i64)) (oPr (oRd (eInt .i64)) (oPr (oRd (eInt .i64)) (oSl 9 (oRd eStr)))))) (p0.1, (0 : Int), (0 : Int), ([] : List (List UInt8))) []), false, fun A => .any⟩ :: []) (by kernel_rfl) (by kernel_rfl) (Wf.mk' (by kernel_rfl) (ur (ur (ur (ua (UAll.nil))))) (by kernel_rfl) (by kernel_rfl)) hO hA ?_ ?_
 exact OblsR.p (fun A' R' w' ho hd => of_fieldAddr_raw ((ho.old 1 rfl).trans h1) ff_48_0 Tryz.sizeOf3 (by decide) rfl) <| OblsR.p (fun A' R' w' ho hd => OpF.int (of_load_box (ho.rd 0 _ rfl rfl) (hd.g 0 rfl) fl_impl_Record_0 rfl Tryz.isAgg3 Tryz.sizeOf3)) <| OblsR.p (fun A' R' w' ho hd => of_fieldAddr_tr ((tr_root (hO.own 2 _ rfl).2).ptr).ad ((ho.old 3 rfl).trans h3) ff_51_0 Tryz.sizeOf3 (by decide) (padd_zero ((tr_root (hO.own 2 _ rfl).2).ptr).ad)) <| OblsR.cons (OblR.tookS 2 _ _ rfl rfl rfl rfl rfl fun A' R' w' ho hd u S hok hown hav hin hop hds => by have a0 : R' 6 = u6 := hd.g 0 rfl; have a1 : R' 5 = .int .i64 p0.1 := hd.g 1 rfl; have e0 := (hin _ rfl).1; rw [e0] at hown ⊢; exact took_hstore ((tr_root hown.2).ptr).fst (rep_int.eq a1) a0 hav hown.1 Tryz.sizeOf3 (fun _ _ _ h => h)) <| OblsR.nil
 intro done ρ σ A R w hdn hI
 obtain ⟨h1, h2, h3⟩ := k3 hI.rg h1 h2 h3
 have z8 := hI.inivR 0 rfl
 have z9 := hI.inivR 1 rfl
 have z10 := hI.inivR 2 rfl
 have z11 := (hI.opnR hdn 6 3 rfl rfl rfl rfl rfl).trans z10
 have eS_u2 := hI.inisR 1 rfl
 obtain ⟨S12, eS_u6⟩ : ∃ S, σ 6 = S := ⟨_, rfl⟩
 replace hAA := hI.low' hAA hA0 (hO.ge (⟨rfl, ⟨fun _ h => h, ⟨fun _ h => h, trivial⟩⟩⟩))
 replace hF : Fr w0 w := hF.tr hI.ch (hO.ge (⟨rfl, ⟨fun _ h => h, ⟨fun _ h => h, trivial⟩⟩⟩))
 replace hO := hI.left hdn [(0, ob (.pointer (some ⟨b1_0, 0, none⟩)) (.box w0.heap.size 48 E_impl_Record p0)), (1, ⟨u2, S3, trR (geB w0.heap.size) (oPt 51 (oPr (oRd (eInt .i64)) (oPr (oRd (eInt .i64)) (oPr (oRd (eInt .i64)) (oSl 9 (oRd eStr)))))) ((0 : Int), ((0 : Int), ((0 : Int), ([] : List (List UInt8))))) []⟩), (6, ⟨u6, S12, trR (geB w0.heap.size) (oPt 51 (oPr (oRd (eInt .i64)) (oPr (oRd (eInt .i64)) (oPr (oRd (eInt .i64)) (oSl 9 (oRd eStr)))))) (p0.1, (0 : Int), (0 : Int), ([] : List (List UInt8))) []⟩)] ⟨rfl, rfl, z8, rfl, rfl, ⟨rfl, rfl, z9, eS_u2, rfl, ⟨rfl, rfl, z11, eS_u6, rfl, trivial⟩⟩⟩
 replace hA := hI.avok
 clear hI
 refine HT.seq ?_
 refine HT.textR [ob (.pointer (some ⟨b1_0, 0, none⟩)) (.box w0.heap.size 48 E_impl_Record p0), ⟨u2, S3, trR (geB w0.heap.size) (oPt 51 (oPr (oRd (eInt .i64)) (oPr (oRd (eInt .i64)) (oPr (oRd (eInt .i64)) (oSl 9 (oRd eStr)))))) ((0 : Int), ((0 : Int), ((0 : Int), ([] : List (List UInt8))))) []⟩, ⟨u6, S12, trR (geB w0.heap.size) (oPt 51 (oPr (oRd (eInt .i64)) (oPr (oRd (eInt .i64)) (oPr (oRd (eInt .i64)) (oSl 9 (oRd eStr)))))) (p0.1, (0 : Int), (0 : Int), ([] : List (List UInt8))) []⟩] (rR (.pointer (some ⟨b1_0, 1, none⟩)) :: rI p0.2.1 :: rR (padd u6 1) :: ⟨_, true, [2], some (trR (geB w0.heap.size) (oPt 51 (oPr (oRd (eInt .i64)) (oPr (oRd (eInt .i64)) (oPr (oRd (eInt .i64)) (oSl 9 (oRd eStr)))))) (p0.1, p0.2.1, (0 : Int), ([] : List (List UInt8))) []), false, fun A => .any⟩ :: []) (by kernel_rfl) (by kernel_rfl) (Wf.mk' (by kernel_rfl) (ur (ur (ur (ua (UAll.nil))))) (by kernel_rfl) (by kernel_rfl)) hO hA ?_ ?_
 exact OblsR.p (fun A' R' w' ho hd => of_fieldAddr_raw ((ho.old 1 rfl).trans h1) ff_48_1 Tryz.sizeOf3 (by decide) rfl) <| OblsR.p (fun A' R' w' ho hd => OpF.int (of_load_box (ho.rd 0 _ rfl rfl) (hd.g 0 rfl) fl_impl_Record_1 rfl Tryz.isAgg3 Tryz.sizeOf3)) <| OblsR.p (fun A' R' w' ho hd => of_fieldAddr_tr ((tr_root (hO.own 2 _ rfl).2).ptr).ad ((ho.old 3 rfl).trans h3) ff_51_1 Tryz.sizeOf3 (by decide) rfl) <| OblsR.cons (OblR.tookS 2 _ _ rfl rfl rfl rfl rfl fun A' R' w' ho hd u S hok hown hav hin hop hds => by have a0 : R' 9 = (padd u6 1) := hd.g 0 rfl; have a1 : R' 8 = .int .i64 p0.2.1 := hd.g 1 rfl; have e0 := (hin _ rfl).1; rw [e0] at hown ⊢; exact took_hstore (((tr_root hown.2).ptr).snd rfl).fst (rep_int.eq a1) a0 hav hown.1 Tryz.sizeOf3 (fun _ _ _ h => h)) <| OblsR.nil
 intro done ρ σ A R w hdn hI
 obtain ⟨h1, h2, h3⟩ := k3 hI.rg h1 h2 h3
 have z13 := hI.inivR 0 rfl
 have z14 := hI.inivR 1 rfl
 have z15 := hI.inivR 2 rfl
 have z16 := (hI.opnR hdn 6 3 rfl rfl rfl rfl rfl).trans z15
 have eS_u2 := hI.inisR 1 rfl
 obtain ⟨S17, eS_u6⟩ : ∃ S, σ 6 = S := ⟨_, rfl⟩
 replace hAA := hI.low' hAA hA0 (hO.ge (⟨rfl, ⟨fun _ h => h, ⟨fun _ h => h, trivial⟩⟩⟩))
 replace hF : Fr w0 w := hF.tr hI.ch (hO.ge (⟨rfl, ⟨fun _ h => h, ⟨fun _ h => h, trivial⟩⟩⟩))
 replace hO := hI.left hdn [(0, ob (.pointer (some ⟨b1_0, 0, none⟩)) (.box w0.heap.size 48 E_impl_Record p0)), (1, ⟨u2, S3, trR (geB w0.heap.size) (oPt 51 (oPr (oRd (eInt .i64)) (oPr (oRd (eInt .i64)) (oPr (oRd (eInt .i64)) (oSl 9 (oRd eStr)))))) ((0 : Int), ((0 : Int), ((0 : Int), ([] : List (List UInt8))))) []⟩), (6, ⟨u6, S17, trR (geB w0.heap.size) (oPt 51 (oPr (oRd (eInt .i64)) (oPr (oRd (eInt .i64)) (oPr (oRd (eInt .i64)) (oSl 9 (oRd eStr)))))) (p0.1, p0.2.1, (0 : Int), ([] : List (List UInt8))) []⟩)] ⟨rfl, rfl, z13, rfl, rfl, ⟨rfl, rfl, z14, eS_u2, rfl, ⟨rfl, rfl, z16, eS_u6, rfl, trivial⟩⟩⟩
 replace hA := hI.avok
 clear hI
 refine HT.seq ?_
 refine HT.textR [ob (.pointer (some ⟨b1_0, 0, none⟩)) (.box w0.heap.size 48 E_impl_Record p0), ⟨u2, S3, trR (geB w0.heap.size) (oPt 51 (oPr (oRd (eInt .i64)) (oPr (oRd (eInt .i64)) (oPr (oRd (eInt .i64)) (oSl 9 (oRd eStr)))))) ((0 : Int), ((0 : Int), ((0 : Int), ([] : List (List UInt8))))) []⟩, ⟨u6, S17, trR (geB w0.heap.size) (oPt 51 (oPr (oRd (eInt .i64)) (oPr (oRd (eInt .i64)) (oPr (oRd (eInt .i64)) (oSl 9 (oRd eStr)))))) (p0.1, p0.2.1, (0 : Int), ([] : List (List UInt8))) []⟩] (rR (.pointer (some ⟨b1_0, 2, none⟩)) :: rI p0.2.2.1 :: rR (padd u6 2) :: ⟨_, true, [2], some (trR (geB w0.heap.size) (oPt 51 (oPr (oRd (eInt .i64)) (oPr (oRd (eInt .i64)) (oPr (oRd (eInt .i64)) (oSl 9 (oRd eStr)))))) (p0.1, p0.2.1, p0.2.2.1, ([] : List (List UInt8))) []), false, fun A => .any⟩ :: []) (by kernel_rfl) (by kernel_rfl) (Wf.mk' (by kernel_rfl) (ur (ur (ur (ua (UAll.nil))))) (by kernel_rfl) (by kernel_rfl)) hO hA ?_ ?_
 exact OblsR.p (fun A' R' w' ho hd => of_fieldAddr_raw ((ho.old 1 rfl).trans h1) ff_48_2 Tryz.sizeOf3 (by decide) rfl) <| OblsR.p (fun A' R' w' ho hd => OpF.int (of_load_box (ho.rd 0 _ rfl rfl) (hd.g 0 rfl) fl_impl_Record_2 rfl Tryz.isAgg3 Tryz.sizeOf3)) <| OblsR.p (fun A' R' w' ho hd => of_fieldAddr_tr ((tr_root (hO.own 2 _ rfl).2).ptr).ad ((ho.old 3 rfl).trans h3) ff_51_2 Tryz.sizeOf3 (by decide) rfl) <| OblsR.cons (OblR.tookS 2 _ _ rfl rfl rfl rfl rfl fun A' R' w' ho hd u S hok hown hav hin hop hds => by have a0 : R' 12 = (padd u6 2) := hd.g 0 rfl; have a1 : R' 11 = .int .i64 p0.2.2.1 := hd.g 1 rfl; have e0 := (hin _ rfl).1; rw [e0] at hown ⊢; exact took_hstore ((((tr_root hown.2).ptr).snd rfl).snd (padd_padd _ _ _)).fst (rep_int.eq a1) a0 hav hown.1 Tryz.sizeOf3 (fun _ _ _ h => h)) <| OblsR.nil
 intro done ρ σ A R w hdn hI
 obtain ⟨h1, h2, h3⟩ := k3 hI.rg h1 h2 h3
 have z18 := hI.inivR 0 rfl
 have z19 := hI.inivR 1 rfl
 have z20 := hI.inivR 2 rfl
 have z21 := (hI.opnR hdn 6 3 rfl rfl rfl rfl rfl).trans z20
 have eS_u2 := hI.inisR 1 rfl
 obtain ⟨S22, eS_u6⟩ : ∃ S, σ 6 = S := ⟨_, rfl⟩
 replace hAA := hI.low' hAA hA0 (hO.ge (⟨rfl, ⟨fun _ h => h, ⟨fun _ h => h, trivial⟩⟩⟩))
 replace hF : Fr w0 w := hF.tr hI.ch (hO.ge (⟨rfl, ⟨fun _ h => h, ⟨fun _ h => h, trivial⟩⟩⟩))
 replace hO := hI.left hdn [(0, ob (.pointer (some ⟨b1_0, 0, none⟩)) (.box w0.heap.size 48 E_impl_Record p0)), (1, ⟨u2, S3, trR (geB w0.heap.size) (oPt 51 (oPr (oRd (eInt .i64)) (oPr (oRd (eInt .i64)) (oPr (oRd (eInt .i64)) (oSl 9 (oRd eStr)))))) ((0 : Int), ((0 : Int), ((0 : Int), ([] : List (List UInt8))))) []⟩), (6, ⟨u6, S22, trR (geB w0.heap.size) (oPt 51 (oPr (oRd (eInt .i64)) (oPr (oRd (eInt .i64)) (oPr (oRd (eInt .i64)) (oSl 9 (oRd eStr)))))) (p0.1, p0.2.1, p0.2.2.1, ([] : List (List UInt8))) []⟩)] ⟨rfl, rfl, z18, rfl, rfl, ⟨rfl, rfl, z19, eS_u2, rfl, ⟨rfl, rfl, z21, eS_u6, rfl, trivial⟩⟩⟩
 replace hA := hI.avok
 clear hI
 refine HT.seq ?_
 obtain ⟨x23, q24, hr⟩ := cl_some hr
 refine HT.textR [ob (.pointer (some ⟨b1_0, 0, none⟩)) (.box w0.heap.size 48 E_impl_Record p0), ⟨u2, S3, trR (geB w0.heap.size) (oPt 51 (oPr (oRd (eInt .i64)) (oPr (oRd (eInt .i64)) (oPr (oRd (eInt .i64)) (oSl 9 (oRd eStr)))))) ((0 : Int), ((0 : Int), ((0 : Int), ([] : List (List UInt8))))) []⟩, ⟨u6, S22, trR (geB w0.heap.size) (oPt 51 (oPr (oRd (eInt .i64)) (oPr (oRd (eInt .i64)) (oPr (oRd (eInt .i64)) (oSl 9 (oRd eStr)))))) (p0.1, p0.2.1, p0.2.2.1, ([] : List (List UInt8))) []⟩] (rR (.pointer (some ⟨b1_0, 3, none⟩)) :: (rF fun A => .rep (eSl eStr) A p0.2.2.2) :: ⟨_, true, [], some (.vec w0.heap.size 9 eStr x23), true, fun A => .any⟩ :: rR (padd u6 3) :: ⟨_, true, [2, 5], some (trR (geB w0.heap.size) (oPt 51 (oPr (oRd (eInt .i64)) (oPr (oRd (eInt .i64)) (oPr (oRd (eInt .i64)) (oSl 9 (oRd eStr)))))) (p0.1, p0.2.1, p0.2.2.1, x23) []), false, fun A => .any⟩ :: []) (by kernel_rfl) (by kernel_rfl) (Wf.mk' (by kernel_rfl) (ur (up (ua (ur (ua (UAll.nil)))))) (by kernel_rfl) (by kernel_rfl)) hO hA ?_ ?_
 exact OblsR.p (fun A' R' w' ho hd => of_fieldAddr_raw ((ho.old 1 rfl).trans h1) ff_48_3 Tryz.sizeOf46 (by decide) rfl) <| OblsR.p (fun A' R' w' ho hd => (of_load_box (ho.rd 0 _ rfl rfl) (hd.g 0 rfl) fl_impl_Record_3 rfl Tryz.isAgg46 Tryz.sizeOf46)) <| OblsR.cons (OblR.made _ rfl rfl rfl rfl fun A' R' w' ho hd => by have a0 : Rep (eSl eStr) A' w' (R' 14) p0.2.2.2 := hd.g 0 rfl; exact made_call Tryz.call112 (M_laws_toStringS_ok (q24 rfl) ho.av a0) (Nat.le_trans hF.size ho.ch.size)) <| OblsR.p (fun A' R' w' ho hd => of_fieldAddr_tr ((tr_root (hO.own 2 _ rfl).2).ptr).ad ((ho.old 3 rfl).trans h3) ff_51_3 Tryz.sizeOf46 (by decide) rfl) <| OblsR.cons (OblR.tookM 2 [5] _ rfl rfl rfl rfl fun A' R' w' ho hd ρ σ hok hav hin hop hds hdd => by have a0 : R' 16 = (padd u6 3) := hd.g 0 rfl; have k1 := hok 2 (.head _) _ rfl; have e0 := (hin 2 (.head _) _ rfl).1; rw [e0] at k1 ⊢; exact took_put2 rfl (((((tr_root k1.2.2).ptr).snd rfl).snd (padd_padd _ _ _)).snd (padd_padd _ _ _)) (own_of_vec' (hok 5 (.tail _ (.head _)) _ rfl).1 (hok 5 (.tail _ (.head _)) _ rfl).2) (hop 5 (.tail _ (.head _)) _ _ rfl rfl rfl rfl).symm a0 hav hdd k1.2.1 (vec_ge (hok 5 (.tail _ (.head _)) _ rfl).1 (hok 5 (.tail _ (.head _)) _ rfl).2) Tryz.sizeOf46 (fun _ _ _ h => h)) <| OblsR.nil
 intro done ρ σ A R w hdn hI
 obtain ⟨h2, h3⟩ := k2 hI.rg h2 h3
 have z25 := hI.inivR 0 rfl
 have z26 := hI.inivR 1 rfl
 have z27 := hI.inivR 2 rfl
 have z28 := (hI.opnR hdn 7 4 rfl rfl rfl rfl rfl).trans z27
 have eS_u2 := hI.inisR 1 rfl
 obtain ⟨S29, eS_u6⟩ : ∃ S, σ 7 = S := ⟨_, rfl⟩
 replace hAA := hI.low' hAA hA0 (hO.ge (⟨rfl, ⟨fun _ h => h, ⟨fun _ h => h, trivial⟩⟩⟩))
 replace hF : Fr w0 w := hF.tr hI.ch (hO.ge (⟨rfl, ⟨fun _ h => h, ⟨fun _ h => h, trivial⟩⟩⟩))
 replace hO := hI.left hdn [(1, ⟨u2, S3, trR (geB w0.heap.size) (oPt 51 (oPr (oRd (eInt .i64)) (oPr (oRd (eInt .i64)) (oPr (oRd (eInt .i64)) (oSl 9 (oRd eStr)))))) ((0 : Int), ((0 : Int), ((0 : Int), ([] : List (List UInt8))))) []⟩), (7, ⟨u6, S29, trR (geB w0.heap.size) (oPt 51 (oPr (oRd (eInt .i64)) (oPr (oRd (eInt .i64)) (oPr (oRd (eInt .i64)) (oSl 9 (oRd eStr)))))) (p0.1, p0.2.1, p0.2.2.1, x23) []⟩)] ⟨rfl, rfl, z26, eS_u2, rfl, ⟨rfl, rfl, z28, eS_u6, rfl, trivial⟩⟩
 replace hA := hI.avok
 clear hI
 refine HT.seq ?_
 refine HT.textR [⟨u2, S3, trR (geB w0.heap.size) (oPt 51 (oPr (oRd (eInt .i64)) (oPr (oRd (eInt .i64)) (oPr (oRd (eInt .i64)) (oSl 9 (oRd eStr)))))) ((0 : Int), ((0 : Int), ((0 : Int), ([] : List (List UInt8))))) []⟩, ⟨u6, S29, trR (geB w0.heap.size) (oPt 51 (oPr (oRd (eInt .i64)) (oPr (oRd (eInt .i64)) (oPr (oRd (eInt .i64)) (oSl 9 (oRd eStr)))))) (p0.1, p0.2.1, p0.2.2.1, x23) []⟩] (⟨_, true, [1], some (trR (geB w0.heap.size) (oPr (oRd (eInt .i64)) (oPr (oRd (eInt .i64)) (oPr (oRd (eInt .i64)) (oSl 9 (oRd eStr))))) (p0.1, p0.2.1, p0.2.2.1, x23) []), true, fun A => .any⟩ :: ⟨_, true, [0, 2], some (trR (geB w0.heap.size) (oPt 51 (oPr (oRd (eInt .i64)) (oPr (oRd (eInt .i64)) (oPr (oRd (eInt .i64)) (oSl 9 (oRd eStr)))))) (p0.1, p0.2.1, p0.2.2.1, x23) []), false, fun A => .any⟩ :: []) (by kernel_rfl) (by kernel_rfl) (Wf.mk' (by kernel_rfl) (ua (ua (UAll.nil))) (by kernel_rfl) (by kernel_rfl)) hO hA ?_ ?_
 exact OblsR.cons (OblR.tookS 1 _ _ rfl rfl rfl rfl rfl fun A' R' w' ho hd u S hok hown hav hin hop hds => by have a0 : R' 3 = u6 := (ho.old 3 rfl).trans h3; exact took_loadT hown.2 (a0.trans (hin _ rfl).1.symm) hav hown.1 Tryz.isAgg51 Tryz.sizeOf51) <| OblsR.cons (OblR.tookM 0 [2] _ rfl rfl rfl rfl fun A' R' w' ho hd ρ σ hok hav hin hop hds hdd => by have a0 : R' 2 = u2 := (ho.old 2 rfl).trans h2; have k1 := hok 0 (.head _) _ rfl; have e0 := (hin 0 (.head _) _ rfl).1; rw [e0] at k1 ⊢; exact took_put2 rfl (tr_root k1.2.2).ptr (hok 2 (.tail _ (.head _)) _ rfl).2.2.1 (hop 2 (.tail _ (.head _)) _ _ rfl rfl rfl rfl).symm a0 hav hdd k1.2.1 (hok 2 (.tail _ (.head _)) _ rfl).2.1 Tryz.sizeOf51 (fun _ _ _ h => h)) <| OblsR.nil
 intro done ρ σ A R w hdn hI
 replace h2 := k1 hI.rg h2
 have z30 := hI.inivR 0 rfl
 have z31 := (hI.opnR hdn 3 1 rfl rfl rfl rfl rfl).trans z30
 obtain ⟨S32, eS_u2⟩ : ∃ S, σ 3 = S := ⟨_, rfl⟩
 replace hAA := hI.low' hAA hA0 (hO.ge (⟨fun _ h => h, ⟨fun _ h => h, trivial⟩⟩))
 replace hF : Fr w0 w := hF.tr hI.ch (hO.ge (⟨fun _ h => h, ⟨fun _ h => h, trivial⟩⟩))
 replace hO := hI.left hdn [(3, ⟨u2, S32, trR (geB w0.heap.size) (oPt 51 (oPr (oRd (eInt .i64)) (oPr (oRd (eInt .i64)) (oPr (oRd (eInt .i64)) (oSl 9 (oRd eStr)))))) (p0.1, p0.2.1, p0.2.2.1, x23) []⟩)] ⟨rfl, rfl, z31, eS_u2, rfl, trivial⟩
 replace hA := hI.avok
 clear hI
 refine HT.ret ?_
 obtain rfl := Option.some.inj hr
 obtain ⟨v_, e_, p_⟩ := tree_post_cell (T := 51) (f := fun _ => .any) rfl (hO.own 0 _ rfl) (hO.ok 0 _ rfl).2 hAA hF h2 Tryz.isAgg51 Tryz.sizeOf51 (fun _ _ => trivial)
 exact ⟨.inr rfl, [v_], ⟨e_, trivial⟩, p_⟩
theorem M_laws_toRecord_okR {fu : Nat} {A0 : Av} {p0 : T_impl_Record} {r : T_impl_Record} (hr : M_laws_toRecord fu p0 = some r) {w : World} {v0 : Value} (hA : AvOK A0 w) (h0 : Rep E_impl_Record A0 w v0 p0) :
 Calls Tryz.prog 33 #[v0] w fun e w' => ∃ v, e = .returned v ∧ (Rep E_impl_Record A0 w' v r ∧ Fr w w') := by
 refine Calls.mono (M_laws_toRecord_ok hr hA h0) ?_
 rintro e w' ⟨v, he, h⟩
 exact ⟨v, he, madeS_rep h hA⟩
def M_spec_IsText_L0 (fu : Nat) (p0 : List UInt8) : Nat → Int → Option (Ex Bool Unit)
 | 0, _ => none
 | k + 1, y4 =>
 bif (decide (y4 < (p0.length : Int))) then (
 ck (inR y4 p0.length) <|
 ck (!(true && ((decide ((bAt p0 y4) < 32)) == false)) || inR y4 p0.length) <|
 bd ((decide ((bAt p0 y4) < 32)) || (decide (126 < (bAt p0 y4)))) fun x8 =>
 bif x8 then (
 some (Ex.ret false)
 ) else (
 ck (i64B (y4 + 1)) <|
 M_spec_IsText_L0 fu p0 k (y4 + 1)
 )
 ) else (
 some (Ex.go ())
 )
def M_spec_IsText (fu : Nat) (p0 : List UInt8) : Option Bool :=
 cl true (M_spec_IsText_L0 fu p0 fu 0) fun rl1 =>
 exM rl1 (fun r => some r) fun s3 =>
 some (decide ((p0.length : Int) ≤ 40))
theorem M_spec_IsText_ok {fu : Nat} {A : Av} {p0 : List UInt8} {r : Bool} (hr : M_spec_IsText fu p0 = some r) {w : World} {v0 : Value} (hA : AvOK A w) (h0 : Rep eStr A w v0 p0) :
 Calls Tryz.prog 187 #[v0] w fun e w' => ∃ v, e = .returned v ∧ (v = .bool r ∧ Fr w w') := by
 unfold M_spec_IsText at hr
 obtain ⟨w0, hw0⟩ : ∃ w0, w0 = w := ⟨_, rfl⟩
 have hF : Fr w0 w := hw0 ▸ Fr.refl _
 rw [show Fr w = Fr w0 from hw0 ▸ rfl]
 clear hw0
 refine calls_of_HT2 [.tmp 2] Tryz.func187 Tryz.ntmps187 (by decide) rfl rfl (Nat.le_of_ble_eq_true rfl) ?_
 intro R hR
 have f_v0 := h0
 replace h0 : R 0 = v0 := hR 0 _ rfl
 clear hR
 refine HT.seq ?_
 refine HT.u hA hF (eB false :: []) ?_ ?_
 exact Obls.p (fun R' w' hw hs hd => of_assign rfl) <| Obls.nil
 intro R w hw hs hF' hA hF
 replace h0 := k1 hs h0
 replace f_v0 := f_v0.fr hw
 refine HT.seq ?_
 refine HT.seq ?_
 refine HT.u hA hF (eI 0 :: []) ?_ ?_
 exact Obls.p (fun R' w' hw hs hd => of_assign rfl) <| Obls.nil
 intro R w hw hs hF' hA hF
 replace h0 := k1 hs h0
 have h3 := hF'.r 0 rfl
 replace f_v0 := f_v0.fr hw
 obtain ⟨rl1, q2, hr⟩ := cl_some hr
 replace q2 := q2 rfl
 refine HT.cut0 (fun R w => ∃ (s3 : Unit), rl1 = Ex.go s3 ∧ AvOK A w ∧ Fr w0 w ∧ R 0 = v0 ∧ Rep eStr A w v0 p0) ?_ ?_
 refine HT.block ?_
 refine HT.loop (fun k R w => ∃ (y4 : Int), M_spec_IsText_L0 fu p0 k y4 = some rl1 ∧ AvOK A w ∧ Fr w0 w ∧ R 0 = v0 ∧ R 3 = .int .i64 y4 ∧ Rep eStr A w v0 p0) fu ⟨_, q2, hA, hF, h0, h3, f_v0⟩ ?_
 have hr0 := hr; clear hr q2
 rintro k R w ⟨y4, hr, hA, hF, h0, h3, f_v0⟩
 rcases k with _ | k
 cases (show none = some _ from hr)
 rw [M_spec_IsText_L0] at hr
 refine HT.seq ?_
 refine HT.seq ?_
 refine HT.u hA hF (eI y4 :: eR v0 :: eI (p0.length : Int) :: eB (decide (y4 < (p0.length : Int))) :: []) ?_ ?_
 exact Obls.m h3 <| Obls.m h0 <| Obls.p (fun R' w' hw hs hd => of_len_str ((f_v0.fr hw).eq (hd.g 0 rfl)) Tryz.underlying9) <| Obls.p (fun R' w' hw hs hd => of_lss (hd.g 0 rfl) (hd.g 1 rfl)) <| Obls.nil
 intro R w hw hs hF' hA hF
 obtain ⟨h0, h3⟩ := k2 hs h0 h3
 have h7 := hF'.r 3 rfl
 replace f_v0 := f_v0.fr hw
 refine HT.cond (decide (y4 < (p0.length : Int))) h7 (fun c5 => ?_) (fun c5 => ?_)
 have hr := cnd_t c5 hr
 refine HT.skip ?_
 refine HT.seq ?_
 refine HT.block ?_
 refine HT.seq ?_
 obtain ⟨e6, hr⟩ := ck_some hr
 obtain ⟨e7, hr⟩ := ck_some hr
 obtain ⟨x8, q9, hr⟩ := bd_some hr
 refine HT.u hA hF (eR v0 :: eI y4 :: eU (bAt p0 y4) :: eB (decide ((bAt p0 y4) < (32 : Int))) :: eB (decide ((bAt p0 y4) < (32 : Int))) :: gR (true && ((decide ((bAt p0 y4) < (32 : Int))) == false)) v0 :: gI (true && ((decide ((bAt p0 y4) < (32 : Int))) == false)) y4 :: gU (true && ((decide ((bAt p0 y4) < (32 : Int))) == false)) (bAt p0 y4) :: gB (true && ((decide ((bAt p0 y4) < (32 : Int))) == false)) (decide ((126 : Int) < (bAt p0 y4))) :: eB x8 :: []) ?_ ?_
 exact Obls.m h0 <| Obls.m h3 <| Obls.p (fun R' w' hw hs hd => of_strIndex ((f_v0.fr hw).eq (hd.g 0 rfl)) (hd.g 1 rfl) Tryz.underlying9 e6) <| Obls.p (fun R' w' hw hs hd => of_lss (hd.g 0 rfl) rfl) <| Obls.v <| Obls.g 4 false (fun hg R' w' hw hs hd => of_move ((hs 0 rfl).trans h0)) <| Obls.g 4 false (fun hg R' w' hw hs hd => of_move ((hs 3 rfl).trans h3)) <| Obls.g 4 false (fun hg R' w' hw hs hd => of_strIndex ((f_v0.fr hw).eq (hd.h 0 hg rfl)) (hd.h 1 hg rfl) Tryz.underlying9 (gd e7 hg)) <| Obls.g 4 false (fun hg R' w' hw hs hd => of_gtr (hd.h 0 hg rfl) rfl) <| Obls.p (fun R' w' hw hs hd => of_pick (decide ((bAt p0 y4) < (32 : Int))) (hd.g 0 rfl) (fun hc => by show _ = Value.bool x8; rw [q9, hc]; exact rfl) (fun hc => by have a2 : R' 18 = .bool (decide ((126 : Int) < (bAt p0 y4))) := hd 1 _ _ _ rfl rfl rfl rfl (g_and rfl (beq_of hc)); show _ = Value.bool x8; rw [q9, hc]; exact a2)) <| Obls.nil
 intro R w hw hs hF' hA hF
 obtain ⟨h0, h3⟩ := k2 hs h0 h3
 have h19 := hF'.r 9 rfl
 replace f_v0 := f_v0.fr hw
 refine HT.cond x8 h19 (fun c10 => ?_) (fun c10 => ?_)
 have hr := cnd_t c10 hr
 refine HT.seq ?_
 refine HT.u hA hF (eB false :: []) ?_ ?_
 exact Obls.p (fun R' w' hw hs hd => of_assign rfl) <| Obls.nil
 intro R w hw hs hF' hA hF
 have h2 := hF'.r 0 rfl
 refine HT.ret ?_
 obtain rfl := Option.some.inj hr
 have hr := hr0
 replace hr : some _ = some _ := hr
 obtain rfl := Option.some.inj hr
 exact ⟨.inr rfl, [R 2], ⟨rfl, trivial⟩, h2, hF⟩
 have hr := cnd_f c10 hr
 refine HT.skip ?_
 obtain ⟨e11, hr⟩ := ck_some hr
 refine HT.u hA hF (eI y4 :: eI (y4 + (1 : Int)) :: eI (y4 + (1 : Int)) :: []) ?_ ?_
 exact Obls.m h3 <| Obls.p (fun R' w' hw hs hd => of_add (hd.g 0 rfl) rfl e11) <| Obls.a <| Obls.nil
 intro R w hw hs hF' hA hF
 replace h0 := k1 hs h0
 have h3 := hF'.r 2 rfl
 replace f_v0 := f_v0.fr hw
 exact Exists.intro k (And.intro (Nat.lt_succ_self k) ⟨_, hr, hA, hF, h0, h3, f_v0⟩)
 have hr := cnd_f c5 hr
 refine HT.exit ?_
 obtain rfl := Option.some.inj hr
 exact Exists.intro _ ⟨rfl, hA, hF, h0, f_v0⟩
 rintro R w ⟨s3, rfl, hA, hF, h0, f_v0⟩
 have hr := exM_go hr
 refine HT.seq ?_
 refine HT.u hA hF (eR v0 :: eI (p0.length : Int) :: eB (decide ((p0.length : Int) ≤ (40 : Int))) :: eB (decide ((p0.length : Int) ≤ (40 : Int))) :: []) ?_ ?_
 exact Obls.m h0 <| Obls.p (fun R' w' hw hs hd => of_len_str ((f_v0.fr hw).eq (hd.g 0 rfl)) Tryz.underlying9) <| Obls.p (fun R' w' hw hs hd => of_leq (hd.g 0 rfl) rfl) <| Obls.a <| Obls.nil
 intro R w hw hs hF' hA hF
 have h2 := hF'.r 3 rfl
 refine HT.ret ?_
 obtain rfl := Option.some.inj hr
 exact ⟨.inr rfl, [R 2], ⟨rfl, trivial⟩, h2, hF⟩
def M_spec_l8Field_L0 (fu : Nat) (p0 : List UInt8) : Nat → Int → Option (Ex Bool Unit)
 | 0, _ => none
 | k + 1, y4 =>
 bif (decide (y4 < (p0.length : Int))) then (
 ck (inR y4 p0.length) <|
 ck (!(true && (((bAt p0 y4) == 124) == false)) || inR y4 p0.length) <|
 bd (((bAt p0 y4) == 124) || ((bAt p0 y4) == 59)) fun x8 =>
 bif x8 then (
 some (Ex.ret false)
 ) else (
 ck (i64B (y4 + 1)) <|
 M_spec_l8Field_L0 fu p0 k (y4 + 1)
 )
 ) else (
 some (Ex.go ())
 )
def M_spec_l8Field (fu : Nat) (p0 : List UInt8) : Option Bool :=
 cl true (M_spec_l8Field_L0 fu p0 fu 0) fun rl1 =>
 exM rl1 (fun r => some r) fun s3 =>
 cl true (M_spec_IsText fu p0) fun x12 =>
 some x12
theorem M_spec_l8Field_ok {fu : Nat} {A : Av} {p0 : List UInt8} {r : Bool} (hr : M_spec_l8Field fu p0 = some r) {w : World} {v0 : Value} (hA : AvOK A w) (h0 : Rep eStr A w v0 p0) :
 Calls Tryz.prog 130 #[v0] w fun e w' => ∃ v, e = .returned v ∧ (v = .bool r ∧ Fr w w') := by
 unfold M_spec_l8Field at hr
 obtain ⟨w0, hw0⟩ : ∃ w0, w0 = w := ⟨_, rfl⟩
 have hF : Fr w0 w := hw0 ▸ Fr.refl _
 rw [show Fr w = Fr w0 from hw0 ▸ rfl]
 clear hw0
 refine calls_of_HT2 [.tmp 2] Tryz.func130 Tryz.ntmps130 (by decide) rfl rfl (Nat.le_of_ble_eq_true rfl) ?_
 intro R hR
 have f_v0 := h0
 replace h0 : R 0 = v0 := hR 0 _ rfl
 clear hR
 refine HT.seq ?_
 refine HT.u hA hF (eB false :: []) ?_ ?_
 exact Obls.p (fun R' w' hw hs hd => of_assign rfl) <| Obls.nil
 intro R w hw hs hF' hA hF
 replace h0 := k1 hs h0
 replace f_v0 := f_v0.fr hw
 refine HT.seq ?_
 refine HT.seq ?_
 refine HT.u hA hF (eI 0 :: []) ?_ ?_
 exact Obls.p (fun R' w' hw hs hd => of_assign rfl) <| Obls.nil
 intro R w hw hs hF' hA hF
 replace h0 := k1 hs h0
 have h3 := hF'.r 0 rfl
 replace f_v0 := f_v0.fr hw
 obtain ⟨rl1, q2, hr⟩ := cl_some hr
 replace q2 := q2 rfl
 refine HT.cut0 (fun R w => ∃ (s3 : Unit), rl1 = Ex.go s3 ∧ AvOK A w ∧ Fr w0 w ∧ R 0 = v0 ∧ Rep eStr A w v0 p0) ?_ ?_
 refine HT.block ?_
 refine HT.loop (fun k R w => ∃ (y4 : Int), M_spec_l8Field_L0 fu p0 k y4 = some rl1 ∧ AvOK A w ∧ Fr w0 w ∧ R 0 = v0 ∧ R 3 = .int .i64 y4 ∧ Rep eStr A w v0 p0) fu ⟨_, q2, hA, hF, h0, h3, f_v0⟩ ?_
 have hr0 := hr; clear hr q2
 rintro k R w ⟨y4, hr, hA, hF, h0, h3, f_v0⟩
 rcases k with _ | k
 cases (show none = some _ from hr)
 rw [M_spec_l8Field_L0] at hr
 refine HT.seq ?_
 refine HT.seq ?_
 refine HT.u hA hF (eI y4 :: eR v0 :: eI (p0.length : Int) :: eB (decide (y4 < (p0.length : Int))) :: []) ?_ ?_
 exact Obls.m h3 <| Obls.m h0 <| Obls.p (fun R' w' hw hs hd => of_len_str ((f_v0.fr hw).eq (hd.g 0 rfl)) Tryz.underlying9) <| Obls.p (fun R' w' hw hs hd => of_lss (hd.g 0 rfl) (hd.g 1 rfl)) <| Obls.nil
 intro R w hw hs hF' hA hF
 obtain ⟨h0, h3⟩ := k2 hs h0 h3
 have h7 := hF'.r 3 rfl
 replace f_v0 := f_v0.fr hw
 refine HT.cond (decide (y4 < (p0.length : Int))) h7 (fun c5 => ?_) (fun c5 => ?_)
 have hr := cnd_t c5 hr
 refine HT.skip ?_
 refine HT.seq ?_
 refine HT.block ?_
 refine HT.seq ?_
 obtain ⟨e6, hr⟩ := ck_some hr
 obtain ⟨e7, hr⟩ := ck_some hr
 obtain ⟨x8, q9, hr⟩ := bd_some hr
 refine HT.u hA hF (eR v0 :: eI y4 :: eU (bAt p0 y4) :: eB ((bAt p0 y4) == (124 : Int)) :: eB ((bAt p0 y4) == (124 : Int)) :: gR (true && (((bAt p0 y4) == (124 : Int)) == false)) v0 :: gI (true && (((bAt p0 y4) == (124 : Int)) == false)) y4 :: gU (true && (((bAt p0 y4) == (124 : Int)) == false)) (bAt p0 y4) :: gB (true && (((bAt p0 y4) == (124 : Int)) == false)) ((bAt p0 y4) == (59 : Int)) :: eB x8 :: []) ?_ ?_
 exact Obls.m h0 <| Obls.m h3 <| Obls.p (fun R' w' hw hs hd => of_strIndex ((f_v0.fr hw).eq (hd.g 0 rfl)) (hd.g 1 rfl) Tryz.underlying9 e6) <| Obls.p (fun R' w' hw hs hd => of_eql (hd.g 0 rfl) rfl) <| Obls.v <| Obls.g 4 false (fun hg R' w' hw hs hd => of_move ((hs 0 rfl).trans h0)) <| Obls.g 4 false (fun hg R' w' hw hs hd => of_move ((hs 3 rfl).trans h3)) <| Obls.g 4 false (fun hg R' w' hw hs hd => of_strIndex ((f_v0.fr hw).eq (hd.h 0 hg rfl)) (hd.h 1 hg rfl) Tryz.underlying9 (gd e7 hg)) <| Obls.g 4 false (fun hg R' w' hw hs hd => of_eql (hd.h 0 hg rfl) rfl) <| Obls.p (fun R' w' hw hs hd => of_pick ((bAt p0 y4) == (124 : Int)) (hd.g 0 rfl) (fun hc => by show _ = Value.bool x8; rw [q9, hc]; exact rfl) (fun hc => by have a2 : R' 18 = .bool ((bAt p0 y4) == (59 : Int)) := hd 1 _ _ _ rfl rfl rfl rfl (g_and rfl (beq_of hc)); show _ = Value.bool x8; rw [q9, hc]; exact a2)) <| Obls.nil
 intro R w hw hs hF' hA hF
 obtain ⟨h0, h3⟩ := k2 hs h0 h3
 have h19 := hF'.r 9 rfl
 replace f_v0 := f_v0.fr hw
 refine HT.cond x8 h19 (fun c10 => ?_) (fun c10 => ?_)
 have hr := cnd_t c10 hr
 refine HT.seq ?_
 refine HT.u hA hF (eB false :: []) ?_ ?_
 exact Obls.p (fun R' w' hw hs hd => of_assign rfl) <| Obls.nil
 intro R w hw hs hF' hA hF
 have h2 := hF'.r 0 rfl
 refine HT.ret ?_
 obtain rfl := Option.some.inj hr
 have hr := hr0
 replace hr : some _ = some _ := hr
 obtain rfl := Option.some.inj hr
 exact ⟨.inr rfl, [R 2], ⟨rfl, trivial⟩, h2, hF⟩
 have hr := cnd_f c10 hr
 refine HT.skip ?_
 obtain ⟨e11, hr⟩ := ck_some hr
 refine HT.u hA hF (eI y4 :: eI (y4 + (1 : Int)) :: eI (y4 + (1 : Int)) :: []) ?_ ?_
 exact Obls.m h3 <| Obls.p (fun R' w' hw hs hd => of_add (hd.g 0 rfl) rfl e11) <| Obls.a <| Obls.nil
 intro R w hw hs hF' hA hF
 replace h0 := k1 hs h0
 have h3 := hF'.r 2 rfl
 replace f_v0 := f_v0.fr hw
 exact Exists.intro k (And.intro (Nat.lt_succ_self k) ⟨_, hr, hA, hF, h0, h3, f_v0⟩)
 have hr := cnd_f c5 hr
 refine HT.exit ?_
 obtain rfl := Option.some.inj hr
 exact Exists.intro _ ⟨rfl, hA, hF, h0, f_v0⟩
 rintro R w ⟨s3, rfl, hA, hF, h0, f_v0⟩
 have hr := exM_go hr
 refine HT.seq ?_
 obtain ⟨x12, q13, hr⟩ := cl_some hr
 refine HT.u hA hF (eR v0 :: eB x12 :: eB x12 :: []) ?_ ?_
 exact Obls.m h0 <| Obls.p (fun R' w' hw hs hd => of_call Tryz.call187 (M_spec_IsText_ok (q13 rfl) (hA.fr hw.size) ((f_v0.fr hw).eq (hd.g 0 rfl)))) <| Obls.a <| Obls.nil
 intro R w hw hs hF' hA hF
 have h2 := hF'.r 2 rfl
 refine HT.ret ?_
 obtain rfl := Option.some.inj hr
 exact ⟨.inr rfl, [R 2], ⟨rfl, trivial⟩, h2, hF⟩
def M_spec_l1In (fu : Nat) (p0 : Int) (p1 : Int) (p2 : Int) : Option Bool :=
 bd ((decide (p1 ≤ p0)) && (decide (p0 ≤ p2))) fun x1 =>
 some x1
theorem M_spec_l1In_ok {fu : Nat} {A : Av} {p0 : Int} {p1 : Int} {p2 : Int} {r : Bool} (hr : M_spec_l1In fu p0 p1 p2 = some r) {w : World} {v0 : Value} {v1 : Value} {v2 : Value} (hA : AvOK A w) (h0 : v0 = .int .i64 p0) (h1 : v1 = .int .i64 p1) (h2 : v2 = .int .i64 p2) :
 Calls Tryz.prog 99 #[v0, v1, v2] w fun e w' => ∃ v, e = .returned v ∧ (v = .bool r ∧ Fr w w') := by
 unfold M_spec_l1In at hr
 obtain ⟨w0, hw0⟩ : ∃ w0, w0 = w := ⟨_, rfl⟩
 have hF : Fr w0 w := hw0 ▸ Fr.refl _
 rw [show Fr w = Fr w0 from hw0 ▸ rfl]
 clear hw0
 refine calls_of_HT2 [.tmp 6] Tryz.func99 Tryz.ntmps99 (by decide) rfl rfl (Nat.le_of_ble_eq_true rfl) ?_
 intro R hR
 replace h0 : R 0 = .int .i64 p0 := (hR 0 _ rfl).trans h0
 replace h1 : R 1 = .int .i64 p1 := (hR 1 _ rfl).trans h1
 replace h2 : R 2 = .int .i64 p2 := (hR 2 _ rfl).trans h2
 clear hR
 refine HT.seq ?_
 refine HT.u hA hF (eB false :: []) ?_ ?_
 exact Obls.p (fun R' w' hw hs hd => of_assign rfl) <| Obls.nil
 intro R w hw hs hF' hA hF
 obtain ⟨h0, h1, h2⟩ := k3 hs h0 h1 h2
 refine HT.seq ?_
 obtain ⟨x1, q2, hr⟩ := bd_some hr
 refine HT.u hA hF (eI p0 :: eI p1 :: eB (decide (p1 ≤ p0)) :: eB (decide (p1 ≤ p0)) :: gI (true && ((decide (p1 ≤ p0)) == true)) p0 :: gI (true && ((decide (p1 ≤ p0)) == true)) p2 :: gB (true && ((decide (p1 ≤ p0)) == true)) (decide (p0 ≤ p2)) :: eB x1 :: eB x1 :: []) ?_ ?_
 exact Obls.m h0 <| Obls.m h1 <| Obls.p (fun R' w' hw hs hd => of_geq (hd.g 0 rfl) (hd.g 1 rfl)) <| Obls.v <| Obls.g 3 true (fun hg R' w' hw hs hd => of_move ((hs 0 rfl).trans h0)) <| Obls.g 3 true (fun hg R' w' hw hs hd => of_move ((hs 2 rfl).trans h2)) <| Obls.g 3 true (fun hg R' w' hw hs hd => of_leq (hd.h 0 hg rfl) (hd.h 1 hg rfl)) <| Obls.p (fun R' w' hw hs hd => of_pick (decide (p1 ≤ p0)) (hd.g 0 rfl) (fun hc => by have a1 : R' 13 = .bool (decide (p0 ≤ p2)) := hd 1 _ _ _ rfl rfl rfl rfl (g_and rfl (beq_of hc)); show _ = Value.bool x1; rw [q2, hc]; exact a1) (fun hc => by show _ = Value.bool x1; rw [q2, hc]; exact rfl)) <| Obls.a <| Obls.nil
 intro R w hw hs hF' hA hF
 have h6 := hF'.r 8 rfl
 refine HT.ret ?_
 obtain rfl := Option.some.inj hr
 exact ⟨.inr rfl, [R 6], ⟨rfl, trivial⟩, h6, hF⟩
def M_spec_IsValidRecord_L0 (fu : Nat) (p0 : T_impl_Record) : Nat → Int → Option (Ex Bool Unit)
 | 0, _ => none
 | k + 1, y5 =>
 bif (decide (y5 < (p0.2.2.2.length : Int))) then (
 ck (inR y5 p0.2.2.2.length) <|
 cl true (M_spec_l8Field fu (gtD p0.2.2.2 y5)) fun x8 =>
 bif (!x8) then (
 some (Ex.ret false)
 ) else (
 ck (i64B (y5 + 1)) <|
 M_spec_IsValidRecord_L0 fu p0 k (y5 + 1)
 )
 ) else (
 some (Ex.go ())
 )
def M_spec_IsValidRecord (fu : Nat) (p0 : T_impl_Record) : Option Bool :=
 cl true (M_spec_IsValidRecord_L0 fu p0 fu 0) fun rl2 =>
 exM rl2 (fun r => some r) fun s4 =>
 cl true (M_spec_l1In fu p0.1 0 3) fun x12 =>
 cl (true && (x12 == true)) (M_spec_l1In fu p0.2.1 1 99) fun x14 =>
 bd (x12 && x14) fun x16 =>
 cl (true && (x16 == true)) (M_spec_l1In fu p0.2.2.1 1 999) fun x18 =>
 bd (x16 && x18) fun x20 =>
 bd (x20 && ((p0.2.2.2.length : Int) == 4)) fun x22 =>
 some x22
theorem M_spec_IsValidRecord_ok {fu : Nat} {A0 : Av} {p0 : T_impl_Record} {r : Bool} (hr : M_spec_IsValidRecord fu p0 = some r) {w : World} {v0 : Value} (hA : AvOK A0 w) (h0 : Rep E_impl_Record A0 w v0 p0) :
 Calls Tryz.prog 59 #[v0] w fun e w' => ∃ v, e = .returned v ∧ (v = .bool r ∧ Fr w w') := by
 unfold M_spec_IsValidRecord at hr
 obtain ⟨w0, hw0⟩ : ∃ w0, w0 = w := ⟨_, rfl⟩
 have hF : Fr w0 w := hw0 ▸ Fr.refl _
 have hA0 : ∀ b o, A0 b o → b < w0.heap.size := fun b o h => hw0 ▸ hA b o h
 have hA00 : AvOK A0 w0 := hA0
 rw [show Fr w = Fr w0 from hw0 ▸ rfl]
 clear hw0
 obtain ⟨A, hAe⟩ : ∃ A, A = A0 := ⟨_, rfl⟩
 have hAA : ∀ b o, A0 b o → A b o := fun b o h => hAe ▸ h
 replace hA : AvOK A w := hAe ▸ hA
 have hO : IniOK [] A w := IniOK.nil
 refine calls_of_HT2 [.tmp 2] Tryz.func59 Tryz.ntmps59 (by decide) rfl rfl (Nat.le_of_ble_eq_true rfl) ?_
 intro R hR
 have f_v0 : Rep E_impl_Record A w v0 p0 := hAe ▸ h0
 replace h0 : R 0 = v0 := hR 0 _ rfl
 clear hR hAe
 refine HT.seq ?_
 refine HT.textR [] (⟨_, true, [], some (.box w0.heap.size 51 E_impl_Record p0), true, fun A => .any⟩ :: rB false :: []) (by kernel_rfl) (by kernel_rfl) (Wf.mk' (by kernel_rfl) (ua (ur (UAll.nil))) (by kernel_rfl) (by kernel_rfl)) hO hA ?_ ?_
 exact OblsR.cons (OblR.made _ rfl rfl rfl rfl fun A' R' w' ho hd => by have a0 : R' 0 = v0 := (ho.old 0 rfl).trans h0; have ra0 := (f_v0.stp ho.stp).eq a0; exact made_box ra0 (Nat.le_trans hF.size ho.ch.size)) <| OblsR.p (fun A' R' w' ho hd => of_assign rfl) <| OblsR.nil
 intro done ρ σ A R w hdn hI
 obtain ⟨b1_0, e_b1_0⟩ := hI.boxv hdn 0 rfl rfl
 have h1 : R 1 = (.pointer (some ⟨b1_0, 0, none⟩)) := (hI.opvR hdn 0 0 rfl rfl rfl rfl rfl).symm.trans e_b1_0
 replace hAA := hI.low' hAA hA0 (hO.ge (trivial))
 replace hF : Fr w0 w := hF.tr hI.ch (hO.ge (trivial))
 replace hO := hI.left hdn [(0, ob (.pointer (some ⟨b1_0, 0, none⟩)) (.box w0.heap.size 51 E_impl_Record p0))] ⟨rfl, rfl, e_b1_0, rfl, rfl, trivial⟩
 replace hA := hI.avok
 clear hI
 refine HT.seq ?_
 refine HT.seq ?_
 refine HT.u hA hF (eI 0 :: []) ?_ ?_
 exact Obls.p (fun R' w' hw hs hd => of_assign rfl) <| Obls.nil
 intro R w hw hs hF' hA hF
 replace h1 := k1 hs h1
 have h3 := hF'.r 0 rfl
 replace hO := hO.fr hw
 obtain ⟨rl2, q3, hr⟩ := cl_some hr
 replace q3 := q3 rfl
 refine HT.cut0 (fun R w => ∃ A : Av, ∃ (s4 : Unit), rl2 = Ex.go s4 ∧ AvOK A w ∧ Fr w0 w ∧ (∀ b o, A0 b o → A b o) ∧ IniOK [ob (.pointer (some ⟨b1_0, 0, none⟩)) (.box w0.heap.size 51 E_impl_Record p0)] A w ∧ R 1 = (.pointer (some ⟨b1_0, 0, none⟩))) ?_ ?_
 refine HT.block ?_
 refine HT.loop (fun k R w => ∃ A : Av, ∃ (y5 : Int), M_spec_IsValidRecord_L0 fu p0 k y5 = some rl2 ∧ AvOK A w ∧ Fr w0 w ∧ (∀ b o, A0 b o → A b o) ∧ IniOK [ob (.pointer (some ⟨b1_0, 0, none⟩)) (.box w0.heap.size 51 E_impl_Record p0)] A w ∧ R 1 = (.pointer (some ⟨b1_0, 0, none⟩)) ∧ R 3 = .int .i64 y5) fu ⟨_, _, q3, hA, hF, hAA, hO, h1, h3⟩ ?_
 have hr0 := hr; clear hr q3
 rintro k R w ⟨A, y5, hr, hA, hF, hAA, hO, h1, h3⟩
 rcases k with _ | k
 cases (show none = some _ from hr)
 rw [M_spec_IsValidRecord_L0] at hr
 refine HT.seq ?_
 refine HT.seq ?_
 refine HT.u hA hF (eI y5 :: eR (.pointer (some ⟨b1_0, 3, none⟩)) :: eF (.rep (eSl eStr) A p0.2.2.2) :: eI (p0.2.2.2.length : Int) :: eB (decide (y5 < (p0.2.2.2.length : Int))) :: []) ?_ ?_
 exact Obls.m h3 <| Obls.p (fun R' w' hw hs hd => of_fieldAddr_raw ((hs 1 rfl).trans h1) ff_51_3 Tryz.sizeOf46 (by decide) rfl) <| Obls.p (fun R' w' hw hs hd => (of_load_box ((hO.fr hw).ok 0 _ rfl).1 (hd.g 0 rfl) fl_impl_Record_3 rfl Tryz.isAgg46 Tryz.sizeOf46)) <| Obls.p (fun R' w' hw hs hd => of_len_sl (aT := #[]) (hd.g 0 rfl) Tryz.underlying46) <| Obls.p (fun R' w' hw hs hd => of_lss (hd.g 0 rfl) (hd.g 1 rfl)) <| Obls.nil
 intro R w hw hs hF' hA hF
 obtain ⟨h1, h3⟩ := k2 hs h1 h3
 have h8 := hF'.r 4 rfl
 replace hO := hO.fr hw
 refine HT.cond (decide (y5 < (p0.2.2.2.length : Int))) h8 (fun c6 => ?_) (fun c6 => ?_)
 have hr := cnd_t c6 hr
 refine HT.skip ?_
 refine HT.seq ?_
 refine HT.block ?_
 refine HT.seq ?_
 obtain ⟨e7, hr⟩ := ck_some hr
 obtain ⟨x8, q9, hr⟩ := cl_some hr
 refine HT.u hA hF (eR (.pointer (some ⟨b1_0, 3, none⟩)) :: eF (.rep (eSl eStr) A p0.2.2.2) :: eI y5 :: eF (.qtr eStr A (gtD p0.2.2.2 y5)) :: eF (.rep eStr A (gtD p0.2.2.2 y5)) :: eB x8 :: eB (!x8) :: []) ?_ ?_
 exact Obls.p (fun R' w' hw hs hd => of_fieldAddr_raw ((hs 1 rfl).trans h1) ff_51_3 Tryz.sizeOf46 (by decide) rfl) <| Obls.p (fun R' w' hw hs hd => (of_load_box ((hO.fr hw).ok 0 _ rfl).1 (hd.g 0 rfl) fl_impl_Record_3 rfl Tryz.isAgg46 Tryz.sizeOf46)) <| Obls.m h3 <| Obls.p (fun R' w' hw hs hd => of_indexAddr (hd.g 0 rfl) (hd.g 1 rfl) Tryz.underlying46 Tryz.sizeOf9 e7) <| Obls.p (fun R' w' hw hs hd => (of_load (QRep.ptr (hd.g 0 rfl)) Tryz.isAgg9 Tryz.sizeOf9)) <| Obls.p (fun R' w' hw hs hd => of_call Tryz.call130 (M_spec_l8Field_ok (q9 rfl) (hA.fr hw.size) (hd.g 0 rfl))) <| Obls.p (fun R' w' hw hs hd => of_not (hd.g 0 rfl)) <| Obls.nil
 intro R w hw hs hF' hA hF
 obtain ⟨h1, h3⟩ := k2 hs h1 h3
 have h17 := hF'.r 6 rfl
 replace hO := hO.fr hw
 refine HT.cond (!x8) h17 (fun c10 => ?_) (fun c10 => ?_)
 have hr := cnd_t c10 hr
 refine HT.seq ?_
 refine HT.u hA hF (eB false :: []) ?_ ?_
 exact Obls.p (fun R' w' hw hs hd => of_assign rfl) <| Obls.nil
 intro R w hw hs hF' hA hF
 have h2 := hF'.r 0 rfl
 replace hO := hO.fr hw
 replace hO : IniOK [] A w := hO.sub [] trivial
 refine HT.ret ?_
 obtain rfl := Option.some.inj hr
 have hr := hr0
 replace hr : some _ = some _ := hr
 obtain rfl := Option.some.inj hr
 exact ⟨.inr rfl, [R 2], ⟨rfl, trivial⟩, h2, hF⟩
 have hr := cnd_f c10 hr
 refine HT.skip ?_
 obtain ⟨e11, hr⟩ := ck_some hr
 refine HT.u hA hF (eI y5 :: eI (y5 + (1 : Int)) :: eI (y5 + (1 : Int)) :: []) ?_ ?_
 exact Obls.m h3 <| Obls.p (fun R' w' hw hs hd => of_add (hd.g 0 rfl) rfl e11) <| Obls.a <| Obls.nil
 intro R w hw hs hF' hA hF
 replace h1 := k1 hs h1
 have h3 := hF'.r 2 rfl
 replace hO := hO.fr hw
 exact Exists.intro k (And.intro (Nat.lt_succ_self k) ⟨_, _, hr, hA, hF, hAA, hO, h1, h3⟩)
 have hr := cnd_f c6 hr
 refine HT.exit ?_
 obtain rfl := Option.some.inj hr
 exact Exists.intro _ ⟨_, rfl, hA, hF, hAA, hO, h1⟩
 rintro R w ⟨A, s4, rfl, hA, hF, hAA, hO, h1⟩
 have hr := exM_go hr
 refine HT.seq ?_
 obtain ⟨x12, q13, hr⟩ := cl_some hr
 obtain ⟨x14, q15, hr⟩ := cl_some hr
 obtain ⟨x16, q17, hr⟩ := bd_some hr
 obtain ⟨x18, q19, hr⟩ := cl_some hr
 obtain ⟨x20, q21, hr⟩ := bd_some hr
 obtain ⟨x22, q23, hr⟩ := bd_some hr
 refine HT.u hA hF (eR (.pointer (some ⟨b1_0, 0, none⟩)) :: eI p0.1 :: eB x12 :: eB x12 :: gR (true && (x12 == true)) (.pointer (some ⟨b1_0, 1, none⟩)) :: gI (true && (x12 == true)) p0.2.1 :: gB (true && (x12 == true)) x14 :: eB x16 :: eB x16 :: gR (true && (x16 == true)) (.pointer (some ⟨b1_0, 2, none⟩)) :: gI (true && (x16 == true)) p0.2.2.1 :: gB (true && (x16 == true)) x18 :: eB x20 :: eB x20 :: gR (true && (x20 == true)) (.pointer (some ⟨b1_0, 3, none⟩)) :: gF (true && (x20 == true)) (.rep (eSl eStr) A p0.2.2.2) :: gI (true && (x20 == true)) (p0.2.2.2.length : Int) :: gB (true && (x20 == true)) ((p0.2.2.2.length : Int) == (4 : Int)) :: eB x22 :: eB x22 :: []) ?_ ?_
 exact Obls.p (fun R' w' hw hs hd => of_fieldAddr_raw ((hs 1 rfl).trans h1) ff_51_0 Tryz.sizeOf3 (by decide) rfl) <| Obls.p (fun R' w' hw hs hd => OpF.int (of_load_box ((hO.fr hw).ok 0 _ rfl).1 (hd.g 0 rfl) fl_impl_Record_0 rfl Tryz.isAgg3 Tryz.sizeOf3)) <| Obls.p (fun R' w' hw hs hd => of_call Tryz.call99 (M_spec_l1In_ok (q13 rfl) (hA.fr hw.size) (hd.g 0 rfl) rfl rfl)) <| Obls.v <| Obls.g 3 true (fun hg R' w' hw hs hd => of_fieldAddr_raw ((hs 1 rfl).trans h1) ff_51_1 Tryz.sizeOf3 (by decide) rfl) <| Obls.g 3 true (fun hg R' w' hw hs hd => OpF.int (of_load_box ((hO.fr hw).ok 0 _ rfl).1 (hd.h 0 hg rfl) fl_impl_Record_1 rfl Tryz.isAgg3 Tryz.sizeOf3)) <| Obls.g 3 true (fun hg R' w' hw hs hd => of_call Tryz.call99 (M_spec_l1In_ok (q15 hg) (hA.fr hw.size) (hd.h 0 hg rfl) rfl rfl)) <| Obls.p (fun R' w' hw hs hd => of_pick x12 (hd.g 0 rfl) (fun hc => by have a1 : R' 24 = .bool x14 := hd 1 _ _ _ rfl rfl rfl rfl (g_and rfl (beq_of hc)); show _ = Value.bool x16; rw [q17, hc]; exact a1) (fun hc => by show _ = Value.bool x16; rw [q17, hc]; exact rfl)) <| Obls.v <| Obls.g 8 true (fun hg R' w' hw hs hd => of_fieldAddr_raw ((hs 1 rfl).trans h1) ff_51_2 Tryz.sizeOf3 (by decide) rfl) <| Obls.g 8 true (fun hg R' w' hw hs hd => OpF.int (of_load_box ((hO.fr hw).ok 0 _ rfl).1 (hd.h 0 hg rfl) fl_impl_Record_2 rfl Tryz.isAgg3 Tryz.sizeOf3)) <| Obls.g 8 true (fun hg R' w' hw hs hd => of_call Tryz.call99 (M_spec_l1In_ok (q19 hg) (hA.fr hw.size) (hd.h 0 hg rfl) rfl rfl)) <| Obls.p (fun R' w' hw hs hd => of_pick x16 (hd.g 0 rfl) (fun hc => by have a1 : R' 29 = .bool x18 := hd 1 _ _ _ rfl rfl rfl rfl (g_and rfl (beq_of hc)); show _ = Value.bool x20; rw [q21, hc]; exact a1) (fun hc => by show _ = Value.bool x20; rw [q21, hc]; exact rfl)) <| Obls.v <| Obls.g 13 true (fun hg R' w' hw hs hd => of_fieldAddr_raw ((hs 1 rfl).trans h1) ff_51_3 Tryz.sizeOf46 (by decide) rfl) <| Obls.g 13 true (fun hg R' w' hw hs hd => (of_load_box ((hO.fr hw).ok 0 _ rfl).1 (hd.h 0 hg rfl) fl_impl_Record_3 rfl Tryz.isAgg46 Tryz.sizeOf46)) <| Obls.g 13 true (fun hg R' w' hw hs hd => of_len_sl (aT := #[]) (hd.h 0 hg rfl) Tryz.underlying46) <| Obls.g 13 true (fun hg R' w' hw hs hd => of_eql (hd.h 0 hg rfl) rfl) <| Obls.p (fun R' w' hw hs hd => of_pick x20 (hd.g 0 rfl) (fun hc => by have a1 : R' 35 = .bool ((p0.2.2.2.length : Int) == (4 : Int)) := hd 1 _ _ _ rfl rfl rfl rfl (g_and rfl (beq_of hc)); show _ = Value.bool x22; rw [q23, hc]; exact a1) (fun hc => by show _ = Value.bool x22; rw [q23, hc]; exact rfl)) <| Obls.a <| Obls.nil
 intro R w hw hs hF' hA hF
 have h2 := hF'.r 19 rfl
 replace hO := hO.fr hw
 replace hO : IniOK [] A w := hO.sub [] trivial
 refine HT.ret ?_
 obtain rfl := Option.some.inj hr
 exact ⟨.inr rfl, [R 2], ⟨rfl, trivial⟩, h2, hF⟩
def M_spec_FoldCase_L0 (fu : Nat) (p0 : List UInt8) : Nat → Int → (List Int) → Option (List Int)
 | 0, _, _ => none
 | k + 1, y5, y6 =>
 bif (decide (y5 < (p0.length : Int))) then (
 ck (inR y5 p0.length) <|
 bd ((decide (65 ≤ (bAt p0 y5))) && (decide ((bAt p0 y5) ≤ 90))) fun x9 =>
 bif x9 then (
 ck (lenOK (y6.length + ([(IntKind.u8.wrap ((bAt p0 y5) + 32))] : List Int).length)) <|
 ck (i64B (y5 + 1)) <|
 M_spec_FoldCase_L0 fu p0 k (y5 + 1) (y6 ++ ([(IntKind.u8.wrap ((bAt p0 y5) + 32))] : List Int))
 ) else (
 ck (lenOK (y6.length + ([(bAt p0 y5)] : List Int).length)) <|
 ck (i64B (y5 + 1)) <|
 M_spec_FoldCase_L0 fu p0 k (y5 + 1) (y6 ++ ([(bAt p0 y5)] : List Int))
 )
 ) else (
 some y6
 )
def M_spec_FoldCase (fu : Nat) (p0 : List UInt8) : Option (List UInt8) :=
 cl true (M_spec_FoldCase_L0 fu p0 fu 0 ([] : List Int)) fun s4 =>
 some (strB s4)
theorem M_spec_FoldCase_ok {fu : Nat} {A0 : Av} {p0 : List UInt8} {r : List UInt8} (hr : M_spec_FoldCase fu p0 = some r) {w : World} {v0 : Value} (hA : AvOK A0 w) (h0 : Rep eStr A0 w v0 p0) :
 Calls Tryz.prog 133 #[v0] w fun e w' => ∃ v, e = .returned v ∧ (Rep eStr A0 w' v r ∧ Fr w w') := by
 unfold M_spec_FoldCase at hr
 obtain ⟨w0, hw0⟩ : ∃ w0, w0 = w := ⟨_, rfl⟩
 have hF : Fr w0 w := hw0 ▸ Fr.refl _
 have hA0 : ∀ b o, A0 b o → b < w0.heap.size := fun b o h => hw0 ▸ hA b o h
 have hA00 : AvOK A0 w0 := hA0
 rw [show Fr w = Fr w0 from hw0 ▸ rfl]
 clear hw0
 obtain ⟨A, hAe⟩ : ∃ A, A = A0 := ⟨_, rfl⟩
 have hAA : ∀ b o, A0 b o → A b o := fun b o h => hAe ▸ h
 replace hA : AvOK A w := hAe ▸ hA
 have hO : IniOK [] A w := IniOK.nil
 refine calls_of_HT2 [.tmp 2] Tryz.func133 Tryz.ntmps133 (by decide) rfl rfl (Nat.le_of_ble_eq_true rfl) ?_
 intro R hR
 have f_v0 : Rep eStr A w v0 p0 := hAe ▸ h0
 replace h0 : R 0 = v0 := hR 0 _ rfl
 clear hR hAe
 refine HT.seq ?_
 refine HT.u hA hF (eF (.rep eStr A ([] : List UInt8)) :: []) ?_ ?_
 exact Obls.p (fun R' w' hw hs hd => of_assign ⟨_, rfl, ⟨_, rfl, rfl, by decide⟩⟩) <| Obls.nil
 intro R w hw hs hF' hA hF
 replace h0 := k1 hs h0
 replace f_v0 := f_v0.fr hw
 replace hO := hO.fr hw
 refine HT.seq ?_
 refine HT.textR [] (⟨_, true, [], some (.vec w0.heap.size 5 (eInt .u8) ([] : List Int)), true, fun A => .any⟩ :: ⟨_, true, [0], some (.vec w0.heap.size 5 (eInt .u8) ([] : List Int)), true, fun A => .any⟩ :: []) (by kernel_rfl) (by kernel_rfl) (Wf.mk' (by kernel_rfl) (ua (ua (UAll.nil))) (by kernel_rfl) (by kernel_rfl)) hO hA ?_ ?_
 exact OblsR.cons (OblR.made _ rfl rfl rfl rfl fun A' R' w' ho hd => by exact made_build [] (E := eInt .u8) trivial Tryz.underlying22 Tryz.sizeOf5 Tryz.zeroValue5 rfl rfl rfl (Nat.le_trans hF.size ho.ch.size)) <| OblsR.cons (OblR.took 0 _ _ rfl rfl rfl rfl rfl fun A' R' w' ho hd u hok hav hin hop hds => by exact took_assign (hop _ _ rfl rfl rfl rfl).symm hok hav) <| OblsR.nil
 intro done ρ σ A R w hdn hI
 replace h0 := k1 hI.rg h0
 obtain ⟨u1, e_u1⟩ : ∃ u, ρ 1 = u := ⟨_, rfl⟩
 have h3 : R 3 = u1 := (hI.opvR hdn 1 1 rfl rfl rfl rfl rfl).symm.trans e_u1
 replace f_v0 := f_v0.stp hI.stp
 replace hAA := hI.low' hAA hA0 (hO.ge (trivial))
 replace hF : Fr w0 w := hF.tr hI.ch (hO.ge (trivial))
 replace hO := hI.left hdn [(1, ob u1 (.vec w0.heap.size 5 (eInt .u8) ([] : List Int)))] ⟨rfl, rfl, e_u1, rfl, rfl, trivial⟩
 replace hA := hI.avok
 clear hI
 refine HT.seq ?_
 refine HT.seq ?_
 refine HT.u hA hF (eI 0 :: []) ?_ ?_
 exact Obls.p (fun R' w' hw hs hd => of_assign rfl) <| Obls.nil
 intro R w hw hs hF' hA hF
 obtain ⟨h0, h3⟩ := k2 hs h0 h3
 have h4 := hF'.r 0 rfl
 replace f_v0 := f_v0.fr hw
 replace hO := hO.fr hw
 obtain ⟨rl2, q3, hr⟩ := cl_some hr
 replace q3 := q3 rfl
 refine HT.cut0 (fun R w => ∃ A : Av, ∃ (s4 : (List Int)) (uo_u1 : Value), rl2 = s4 ∧ AvOK A w ∧ Fr w0 w ∧ (∀ b o, A0 b o → A b o) ∧ IniOK [ob uo_u1 (.vec w0.heap.size 5 (eInt .u8) s4)] A w ∧ R 3 = uo_u1) ?_ ?_
 refine HT.block ?_
 refine HT.loop (fun k R w => ∃ A : Av, ∃ (y5 : Int) (y6 : List Int) (ul_u1 : Value), M_spec_FoldCase_L0 fu p0 k y5 y6 = some rl2 ∧ AvOK A w ∧ Fr w0 w ∧ (∀ b o, A0 b o → A b o) ∧ IniOK [ob ul_u1 (.vec w0.heap.size 5 (eInt .u8) y6)] A w ∧ R 0 = v0 ∧ R 3 = ul_u1 ∧ R 4 = .int .i64 y5 ∧ Rep eStr A w v0 p0) fu ⟨_, _, _, u1, q3, hA, hF, hAA, hO, h0, h3, h4, f_v0⟩ ?_
 have hr0 := hr; clear hr q3
 rintro k R w ⟨A, y5, y6, ul_u1, hr, hA, hF, hAA, hO, h0, h3, h4, f_v0⟩
 rcases k with _ | k
 cases (show none = some _ from hr)
 rw [M_spec_FoldCase_L0] at hr
 refine HT.seq ?_
 refine HT.seq ?_
 refine HT.u hA hF (eI y5 :: eR v0 :: eI (p0.length : Int) :: eB (decide (y5 < (p0.length : Int))) :: []) ?_ ?_
 exact Obls.m h4 <| Obls.m h0 <| Obls.p (fun R' w' hw hs hd => of_len_str ((f_v0.fr hw).eq (hd.g 0 rfl)) Tryz.underlying9) <| Obls.p (fun R' w' hw hs hd => of_lss (hd.g 0 rfl) (hd.g 1 rfl)) <| Obls.nil
 intro R w hw hs hF' hA hF
 obtain ⟨h0, h3, h4⟩ := k3 hs h0 h3 h4
 have h10 := hF'.r 3 rfl
 replace f_v0 := f_v0.fr hw
 replace hO := hO.fr hw
 refine HT.cond (decide (y5 < (p0.length : Int))) h10 (fun c7 => ?_) (fun c7 => ?_)
 have hr := cnd_t c7 hr
 refine HT.skip ?_
 refine HT.seq ?_
 refine HT.block ?_
 refine HT.seq ?_
 obtain ⟨e8, hr⟩ := ck_some hr
 refine HT.u hA hF (eR v0 :: eI y5 :: eU (bAt p0 y5) :: eU (bAt p0 y5) :: []) ?_ ?_
 exact Obls.m h0 <| Obls.m h4 <| Obls.p (fun R' w' hw hs hd => of_strIndex ((f_v0.fr hw).eq (hd.g 0 rfl)) (hd.g 1 rfl) Tryz.underlying9 e8) <| Obls.a <| Obls.nil
 intro R w hw hs hF' hA hF
 obtain ⟨h0, h3, h4⟩ := k3 hs h0 h3 h4
 have h5 := hF'.r 3 rfl
 replace f_v0 := f_v0.fr hw
 replace hO := hO.fr hw
 refine HT.seq ?_
 refine HT.seq ?_
 obtain ⟨x9, q10, hr⟩ := bd_some hr
 refine HT.u hA hF (eU (bAt p0 y5) :: eB (decide ((65 : Int) ≤ (bAt p0 y5))) :: eB (decide ((65 : Int) ≤ (bAt p0 y5))) :: gU (true && ((decide ((65 : Int) ≤ (bAt p0 y5))) == true)) (bAt p0 y5) :: gB (true && ((decide ((65 : Int) ≤ (bAt p0 y5))) == true)) (decide ((bAt p0 y5) ≤ (90 : Int))) :: eB x9 :: []) ?_ ?_
 exact Obls.m h5 <| Obls.p (fun R' w' hw hs hd => of_geq (hd.g 0 rfl) rfl) <| Obls.v <| Obls.g 2 true (fun hg R' w' hw hs hd => of_move ((hs 5 rfl).trans h5)) <| Obls.g 2 true (fun hg R' w' hw hs hd => of_leq (hd.h 0 hg rfl) rfl) <| Obls.p (fun R' w' hw hs hd => of_pick (decide ((65 : Int) ≤ (bAt p0 y5))) (hd.g 0 rfl) (fun hc => by have a1 : R' 20 = .bool (decide ((bAt p0 y5) ≤ (90 : Int))) := hd 1 _ _ _ rfl rfl rfl rfl (g_and rfl (beq_of hc)); show _ = Value.bool x9; rw [q10, hc]; exact a1) (fun hc => by show _ = Value.bool x9; rw [q10, hc]; exact rfl)) <| Obls.nil
 intro R w hw hs hF' hA hF
 obtain ⟨h0, h3, h4, h5⟩ := k4 hs h0 h3 h4 h5
 have h21 := hF'.r 5 rfl
 replace f_v0 := f_v0.fr hw
 replace hO := hO.fr hw
 refine HT.cond x9 h21 (fun c11 => ?_) (fun c11 => ?_)
 have hr := cnd_t c11 hr
 refine HT.u hA hF (eU (bAt p0 y5) :: eU (IntKind.u8.wrap ((bAt p0 y5) + (32 : Int))) :: eU (IntKind.u8.wrap ((bAt p0 y5) + (32 : Int))) :: []) ?_ ?_
 exact Obls.m h5 <| Obls.p (fun R' w' hw hs hd => of_add_w (hd.g 0 rfl) rfl) <| Obls.a <| Obls.nil
 intro R w hw hs hF' hA hF
 obtain ⟨h0, h3, h4⟩ := k3 hs h0 h3 h4
 have h5 := hF'.r 2 rfl
 replace f_v0 := f_v0.fr hw
 replace hO := hO.fr hw
 obtain ⟨e12, hr⟩ := ck_some hr
 refine HT.textR [ob ul_u1 (.vec w0.heap.size 5 (eInt .u8) y6)] (rR ul_u1 :: rU (IntKind.u8.wrap ((bAt p0 y5) + (32 : Int))) :: (rF fun A => .rep (eSl (eInt .u8)) A ([(IntKind.u8.wrap ((bAt p0 y5) + (32 : Int)))] : List Int)) :: ⟨_, true, [0], some (.vec w0.heap.size 5 (eInt .u8) (y6 ++ ([(IntKind.u8.wrap ((bAt p0 y5) + (32 : Int)))] : List Int))), true, fun A => .any⟩ :: ⟨_, true, [4], some (.vec w0.heap.size 5 (eInt .u8) (y6 ++ ([(IntKind.u8.wrap ((bAt p0 y5) + (32 : Int)))] : List Int))), true, fun A => .any⟩ :: []) (by kernel_rfl) (by kernel_rfl) (Wf.mk' (by kernel_rfl) (ur (ur (up (ua (ua (UAll.nil)))))) (by kernel_rfl) (by kernel_rfl)) hO hA ?_ ?_
 exact OblsR.m h3 <| OblsR.m h5 <| OblsR.p (fun A' R' w' ho hd => of_build [_] (E := eInt .u8) ⟨(rep_int.eq (hd.g 0 rfl)), trivial⟩ Tryz.underlying22 Tryz.sizeOf5 Tryz.zeroValue5 rfl rfl rfl ho.av) <| OblsR.cons (OblR.took 0 _ _ rfl rfl rfl rfl rfl fun A' R' w' ho hd u hok hav hin hop hds => by have a0 : R' 24 = ul_u1 := hd.g 0 rfl; have a1 : Rep (eSl (eInt .u8)) A' w' (R' 26) ([(IntKind.u8.wrap ((bAt p0 y5) + (32 : Int)))] : List Int) := hd.g 1 rfl; exact took_append (a0.trans (hin _ rfl).symm) hok hav (Nat.le_trans hF.size ho.ch.size) a1 Tryz.underlying22 el_5 e12) <| OblsR.cons (OblR.took 4 _ _ rfl rfl rfl rfl rfl fun A' R' w' ho hd u hok hav hin hop hds => by exact took_assign (hop _ _ rfl rfl rfl rfl).symm hok hav) <| OblsR.nil
 intro done ρ σ A R w hdn hI
 obtain ⟨h0, h4⟩ := k2 hI.rg h0 h4
 obtain ⟨u13, e_u13⟩ : ∃ u, ρ 5 = u := ⟨_, rfl⟩
 have h3 : R 3 = u13 := (hI.opvR hdn 5 4 rfl rfl rfl rfl rfl).symm.trans e_u13
 replace f_v0 := f_v0.stp hI.stp
 replace hAA := hI.low' hAA hA0 (hO.ge (⟨rfl, trivial⟩))
 replace hF : Fr w0 w := hF.tr hI.ch (hO.ge (⟨rfl, trivial⟩))
 replace hO := hI.left hdn [(5, ob u13 (.vec w0.heap.size 5 (eInt .u8) (y6 ++ ([(IntKind.u8.wrap ((bAt p0 y5) + (32 : Int)))] : List Int))))] ⟨rfl, rfl, e_u13, rfl, rfl, trivial⟩
 replace hA := hI.avok
 clear hI
 obtain ⟨e14, hr⟩ := ck_some hr
 refine HT.u hA hF (eI y5 :: eI (y5 + (1 : Int)) :: eI (y5 + (1 : Int)) :: []) ?_ ?_
 exact Obls.m h4 <| Obls.p (fun R' w' hw hs hd => of_add (hd.g 0 rfl) rfl e14) <| Obls.a <| Obls.nil
 intro R w hw hs hF' hA hF
 obtain ⟨h0, h3⟩ := k2 hs h0 h3
 have h4 := hF'.r 2 rfl
 replace f_v0 := f_v0.fr hw
 replace hO := hO.fr hw
 exact Exists.intro k (And.intro (Nat.lt_succ_self k) ⟨_, _, _, u13, hr, hA, hF, hAA, hO, h0, h3, h4, f_v0⟩)
 have hr := cnd_f c11 hr
 refine HT.skip ?_
 obtain ⟨e15, hr⟩ := ck_some hr
 refine HT.textR [ob ul_u1 (.vec w0.heap.size 5 (eInt .u8) y6)] (rR ul_u1 :: rU (bAt p0 y5) :: (rF fun A => .rep (eSl (eInt .u8)) A ([(bAt p0 y5)] : List Int)) :: ⟨_, true, [0], some (.vec w0.heap.size 5 (eInt .u8) (y6 ++ ([(bAt p0 y5)] : List Int))), true, fun A => .any⟩ :: ⟨_, true, [4], some (.vec w0.heap.size 5 (eInt .u8) (y6 ++ ([(bAt p0 y5)] : List Int))), true, fun A => .any⟩ :: []) (by kernel_rfl) (by kernel_rfl) (Wf.mk' (by kernel_rfl) (ur (ur (up (ua (ua (UAll.nil)))))) (by kernel_rfl) (by kernel_rfl)) hO hA ?_ ?_
 exact OblsR.m h3 <| OblsR.m h5 <| OblsR.p (fun A' R' w' ho hd => of_build [_] (E := eInt .u8) ⟨(rep_int.eq (hd.g 0 rfl)), trivial⟩ Tryz.underlying22 Tryz.sizeOf5 Tryz.zeroValue5 rfl rfl rfl ho.av) <| OblsR.cons (OblR.took 0 _ _ rfl rfl rfl rfl rfl fun A' R' w' ho hd u hok hav hin hop hds => by have a0 : R' 24 = ul_u1 := hd.g 0 rfl; have a1 : Rep (eSl (eInt .u8)) A' w' (R' 26) ([(bAt p0 y5)] : List Int) := hd.g 1 rfl; exact took_append (a0.trans (hin _ rfl).symm) hok hav (Nat.le_trans hF.size ho.ch.size) a1 Tryz.underlying22 el_5 e15) <| OblsR.cons (OblR.took 4 _ _ rfl rfl rfl rfl rfl fun A' R' w' ho hd u hok hav hin hop hds => by exact took_assign (hop _ _ rfl rfl rfl rfl).symm hok hav) <| OblsR.nil
 intro done ρ σ A R w hdn hI
 obtain ⟨h0, h4⟩ := k2 hI.rg h0 h4
 obtain ⟨u16, e_u16⟩ : ∃ u, ρ 5 = u := ⟨_, rfl⟩
 have h3 : R 3 = u16 := (hI.opvR hdn 5 4 rfl rfl rfl rfl rfl).symm.trans e_u16
 replace f_v0 := f_v0.stp hI.stp
 replace hAA := hI.low' hAA hA0 (hO.ge (⟨rfl, trivial⟩))
 replace hF : Fr w0 w := hF.tr hI.ch (hO.ge (⟨rfl, trivial⟩))
 replace hO := hI.left hdn [(5, ob u16 (.vec w0.heap.size 5 (eInt .u8) (y6 ++ ([(bAt p0 y5)] : List Int))))] ⟨rfl, rfl, e_u16, rfl, rfl, trivial⟩
 replace hA := hI.avok
 clear hI
 obtain ⟨e17, hr⟩ := ck_some hr
 refine HT.u hA hF (eI y5 :: eI (y5 + (1 : Int)) :: eI (y5 + (1 : Int)) :: []) ?_ ?_
 exact Obls.m h4 <| Obls.p (fun R' w' hw hs hd => of_add (hd.g 0 rfl) rfl e17) <| Obls.a <| Obls.nil
 intro R w hw hs hF' hA hF
 obtain ⟨h0, h3⟩ := k2 hs h0 h3
 have h4 := hF'.r 2 rfl
 replace f_v0 := f_v0.fr hw
 replace hO := hO.fr hw
 exact Exists.intro k (And.intro (Nat.lt_succ_self k) ⟨_, _, _, u16, hr, hA, hF, hAA, hO, h0, h3, h4, f_v0⟩)
 have hr := cnd_f c7 hr
 refine HT.exit ?_
 obtain rfl := Option.some.inj hr
 exact Exists.intro _ ⟨_, ul_u1, rfl, hA, hF, hAA, hO, h3⟩
 rintro R w ⟨A, s4, uo_u1, es, hA, hF, hAA, hO, h3⟩
 obtain rfl := es.symm
 refine HT.seq ?_
 refine HT.u hA hF (eR uo_u1 :: eF (.rep eStr A (strB s4)) :: eF (.rep eStr A (strB s4)) :: []) ?_ ?_
 exact Obls.m h3 <| Obls.p (fun R' w' hw hs hd => of_conv_bytes ((vec_rep ((hO.fr hw).ok 0 _ rfl).1 hAA hA0).eq (hd.g 0 rfl)) Tryz.underlying22 Tryz.underlying5 Tryz.underlying9) <| Obls.p (fun R' w' hw hs hd => of_assign (hd.g 0 rfl)) <| Obls.nil
 intro R w hw hs hF' hA hF
 obtain ⟨u18, h2, f_u18⟩ : ∃ u, R 2 = u ∧ Rep eStr A w u (strB s4) := ⟨_, rfl, hF' 2 _ _ rfl rfl rfl⟩
 replace hO := hO.fr hw
 replace hO : IniOK [] A w := hO.sub [] trivial
 refine HT.ret ?_
 obtain rfl := Option.some.inj hr
 exact ⟨.inr rfl, [R 2], ⟨rfl, trivial⟩, (f_u18.eq h2).down hAA, hF⟩
def M_spec_l2Word (fu : Nat) (p0 : Int) : Option Bool :=
 bd ((decide (97 ≤ p0)) && (decide (p0 ≤ 122))) fun x1 =>
 bd ((decide (65 ≤ p0)) && (decide (p0 ≤ 90))) fun x3 =>
 bd (x1 || x3) fun x5 =>
 bd ((decide (48 ≤ p0)) && (decide (p0 ≤ 57))) fun x7 =>
 bd (x5 || x7) fun x9 =>
 some x9
theorem M_spec_l2Word_ok {fu : Nat} {A : Av} {p0 : Int} {r : Bool} (hr : M_spec_l2Word fu p0 = some r) {w : World} {v0 : Value} (hA : AvOK A w) (h0 : v0 = .int .u8 p0) :
 Calls Tryz.prog 188 #[v0] w fun e w' => ∃ v, e = .returned v ∧ (v = .bool r ∧ Fr w w') := by
 unfold M_spec_l2Word at hr
 obtain ⟨w0, hw0⟩ : ∃ w0, w0 = w := ⟨_, rfl⟩
 have hF : Fr w0 w := hw0 ▸ Fr.refl _
 rw [show Fr w = Fr w0 from hw0 ▸ rfl]
 clear hw0
 refine calls_of_HT2 [.tmp 2] Tryz.func188 Tryz.ntmps188 (by decide) rfl rfl (Nat.le_of_ble_eq_true rfl) ?_
 intro R hR
 replace h0 : R 0 = .int .u8 p0 := (hR 0 _ rfl).trans h0
 clear hR
 refine HT.seq ?_
 refine HT.u hA hF (eB false :: []) ?_ ?_
 exact Obls.p (fun R' w' hw hs hd => of_assign rfl) <| Obls.nil
 intro R w hw hs hF' hA hF
 replace h0 := k1 hs h0
 refine HT.seq ?_
 obtain ⟨x1, q2, hr⟩ := bd_some hr
 obtain ⟨x3, q4, hr⟩ := bd_some hr
 obtain ⟨x5, q6, hr⟩ := bd_some hr
 obtain ⟨x7, q8, hr⟩ := bd_some hr
 obtain ⟨x9, q10, hr⟩ := bd_some hr
 refine HT.u hA hF (eU p0 :: eB (decide ((97 : Int) ≤ p0)) :: eB (decide ((97 : Int) ≤ p0)) :: gU (true && ((decide ((97 : Int) ≤ p0)) == true)) p0 :: gB (true && ((decide ((97 : Int) ≤ p0)) == true)) (decide (p0 ≤ (122 : Int))) :: eB x1 :: eB x1 :: gU (true && (x1 == false)) p0 :: gB (true && (x1 == false)) (decide ((65 : Int) ≤ p0)) :: gB (true && (x1 == false)) (decide ((65 : Int) ≤ p0)) :: gU ((true && (x1 == false)) && ((decide ((65 : Int) ≤ p0)) == true)) p0 :: gB ((true && (x1 == false)) && ((decide ((65 : Int) ≤ p0)) == true)) (decide (p0 ≤ (90 : Int))) :: gB (true && (x1 == false)) x3 :: eB x5 :: eB x5 :: gU (true && (x5 == false)) p0 :: gB (true && (x5 == false)) (decide ((48 : Int) ≤ p0)) :: gB (true && (x5 == false)) (decide ((48 : Int) ≤ p0)) :: gU ((true && (x5 == false)) && ((decide ((48 : Int) ≤ p0)) == true)) p0 :: gB ((true && (x5 == false)) && ((decide ((48 : Int) ≤ p0)) == true)) (decide (p0 ≤ (57 : Int))) :: gB (true && (x5 == false)) x7 :: eB x9 :: eB x9 :: []) ?_ ?_
 exact Obls.m h0 <| Obls.p (fun R' w' hw hs hd => of_geq (hd.g 0 rfl) rfl) <| Obls.v <| Obls.g 2 true (fun hg R' w' hw hs hd => of_move ((hs 0 rfl).trans h0)) <| Obls.g 2 true (fun hg R' w' hw hs hd => of_leq (hd.h 0 hg rfl) rfl) <| Obls.p (fun R' w' hw hs hd => of_pick (decide ((97 : Int) ≤ p0)) (hd.g 0 rfl) (fun hc => by have a1 : R' 7 = .bool (decide (p0 ≤ (122 : Int))) := hd 1 _ _ _ rfl rfl rfl rfl (g_and rfl (beq_of hc)); show _ = Value.bool x1; rw [q2, hc]; exact a1) (fun hc => by show _ = Value.bool x1; rw [q2, hc]; exact rfl)) <| Obls.v <| Obls.g 6 false (fun hg R' w' hw hs hd => of_move ((hs 0 rfl).trans h0)) <| Obls.g 6 false (fun hg R' w' hw hs hd => of_geq (hd.h 0 hg rfl) rfl) <| Obls.g 6 false (fun hg R' w' hw hs hd => of_move (hd.h 0 hg rfl)) <| Obls.g 9 true (fun hg R' w' hw hs hd => of_move ((hs 0 rfl).trans h0)) <| Obls.g 9 true (fun hg R' w' hw hs hd => of_leq (hd.h 0 hg rfl) rfl) <| Obls.g 6 false (fun hg R' w' hw hs hd => of_pick (decide ((65 : Int) ≤ p0)) (hd.h 0 hg rfl) (fun hc => by have a1 : R' 14 = .bool (decide (p0 ≤ (90 : Int))) := hd 1 _ _ _ rfl rfl rfl rfl (g_and hg (beq_of hc)); show _ = Value.bool x3; rw [q4, hc]; exact a1) (fun hc => by show _ = Value.bool x3; rw [q4, hc]; exact rfl)) <| Obls.p (fun R' w' hw hs hd => of_pick x1 (hd.g 0 rfl) (fun hc => by show _ = Value.bool x5; rw [q6, hc]; exact rfl) (fun hc => by have a2 : R' 15 = .bool x3 := hd 1 _ _ _ rfl rfl rfl rfl (g_and rfl (beq_of hc)); show _ = Value.bool x5; rw [q6, hc]; exact a2)) <| Obls.v <| Obls.g 14 false (fun hg R' w' hw hs hd => of_move ((hs 0 rfl).trans h0)) <| Obls.g 14 false (fun hg R' w' hw hs hd => of_geq (hd.h 0 hg rfl) rfl) <| Obls.g 14 false (fun hg R' w' hw hs hd => of_move (hd.h 0 hg rfl)) <| Obls.g 17 true (fun hg R' w' hw hs hd => of_move ((hs 0 rfl).trans h0)) <| Obls.g 17 true (fun hg R' w' hw hs hd => of_leq (hd.h 0 hg rfl) rfl) <| Obls.g 14 false (fun hg R' w' hw hs hd => of_pick (decide ((48 : Int) ≤ p0)) (hd.h 0 hg rfl) (fun hc => by have a1 : R' 22 = .bool (decide (p0 ≤ (57 : Int))) := hd 1 _ _ _ rfl rfl rfl rfl (g_and hg (beq_of hc)); show _ = Value.bool x7; rw [q8, hc]; exact a1) (fun hc => by show _ = Value.bool x7; rw [q8, hc]; exact rfl)) <| Obls.p (fun R' w' hw hs hd => of_pick x5 (hd.g 0 rfl) (fun hc => by show _ = Value.bool x9; rw [q10, hc]; exact rfl) (fun hc => by have a2 : R' 23 = .bool x7 := hd 1 _ _ _ rfl rfl rfl rfl (g_and rfl (beq_of hc)); show _ = Value.bool x9; rw [q10, hc]; exact a2)) <| Obls.a <| Obls.nil
 intro R w hw hs hF' hA hF
 have h2 := hF'.r 22 rfl
 refine HT.ret ?_
 obtain rfl := Option.some.inj hr
 exact ⟨.inr rfl, [R 2], ⟨rfl, trivial⟩, h2, hF⟩
def M_spec_StripMarks_L0 (fu : Nat) (p0 : List UInt8) : Nat → Int → (List Int) → Option (List Int)
 | 0, _, _ => none
 | k + 1, y5, y6 =>
 bif (decide (y5 < (p0.length : Int))) then (
 ck (inR y5 p0.length) <|
 cl true (M_spec_l2Word fu (bAt p0 y5)) fun x9 =>
 ck (!(true && (x9 == false)) || inR y5 p0.length) <|
 bd (x9 || ((bAt p0 y5) == 32)) fun x12 =>
 bif x12 then (
 ck (inR y5 p0.length) <|
 ck (lenOK (y6.length + ([(bAt p0 y5)] : List Int).length)) <|
 ck (i64B (y5 + 1)) <|
 M_spec_StripMarks_L0 fu p0 k (y5 + 1) (y6 ++ ([(bAt p0 y5)] : List Int))
 ) else (
 ck (inR y5 p0.length) <|
 bif ((bAt p0 y5) != 39) then (
 ck (lenOK (y6.length + ([32] : List Int).length)) <|
 ck (i64B (y5 + 1)) <|
 M_spec_StripMarks_L0 fu p0 k (y5 + 1) (y6 ++ ([32] : List Int))
 ) else (
 ck (i64B (y5 + 1)) <|
 M_spec_StripMarks_L0 fu p0 k (y5 + 1) y6
 )
 )
 ) else (
 some y6
 )
def M_spec_StripMarks (fu : Nat) (p0 : List UInt8) : Option (List UInt8) :=
 cl true (M_spec_StripMarks_L0 fu p0 fu 0 ([] : List Int)) fun s4 =>
 some (strB s4)
theorem M_spec_StripMarks_ok {fu : Nat} {A0 : Av} {p0 : List UInt8} {r : List UInt8} (hr : M_spec_StripMarks fu p0 = some r) {w : World} {v0 : Value} (hA : AvOK A0 w) (h0 : Rep eStr A0 w v0 p0) :
 Calls Tryz.prog 132 #[v0] w fun e w' => ∃ v, e = .returned v ∧ (Rep eStr A0 w' v r ∧ Fr w w') := by
 unfold M_spec_StripMarks at hr
 obtain ⟨w0, hw0⟩ : ∃ w0, w0 = w := ⟨_, rfl⟩
 have hF : Fr w0 w := hw0 ▸ Fr.refl _
 have hA0 : ∀ b o, A0 b o → b < w0.heap.size := fun b o h => hw0 ▸ hA b o h
 have hA00 : AvOK A0 w0 := hA0
 rw [show Fr w = Fr w0 from hw0 ▸ rfl]
 clear hw0
 obtain ⟨A, hAe⟩ : ∃ A, A = A0 := ⟨_, rfl⟩
 have hAA : ∀ b o, A0 b o → A b o := fun b o h => hAe ▸ h
 replace hA : AvOK A w := hAe ▸ hA
 have hO : IniOK [] A w := IniOK.nil
 refine calls_of_HT2 [.tmp 2] Tryz.func132 Tryz.ntmps132 (by decide) rfl rfl (Nat.le_of_ble_eq_true rfl) ?_
 intro R hR
 have f_v0 : Rep eStr A w v0 p0 := hAe ▸ h0
 replace h0 : R 0 = v0 := hR 0 _ rfl
 clear hR hAe
 refine HT.seq ?_
 refine HT.u hA hF (eF (.rep eStr A ([] : List UInt8)) :: []) ?_ ?_
 exact Obls.p (fun R' w' hw hs hd => of_assign ⟨_, rfl, ⟨_, rfl, rfl, by decide⟩⟩) <| Obls.nil
 intro R w hw hs hF' hA hF
 replace h0 := k1 hs h0
 replace f_v0 := f_v0.fr hw
 replace hO := hO.fr hw
 refine HT.seq ?_
 refine HT.textR [] (⟨_, true, [], some (.vec w0.heap.size 5 (eInt .u8) ([] : List Int)), true, fun A => .any⟩ :: ⟨_, true, [0], some (.vec w0.heap.size 5 (eInt .u8) ([] : List Int)), true, fun A => .any⟩ :: []) (by kernel_rfl) (by kernel_rfl) (Wf.mk' (by kernel_rfl) (ua (ua (UAll.nil))) (by kernel_rfl) (by kernel_rfl)) hO hA ?_ ?_
 exact OblsR.cons (OblR.made _ rfl rfl rfl rfl fun A' R' w' ho hd => by exact made_build [] (E := eInt .u8) trivial Tryz.underlying22 Tryz.sizeOf5 Tryz.zeroValue5 rfl rfl rfl (Nat.le_trans hF.size ho.ch.size)) <| OblsR.cons (OblR.took 0 _ _ rfl rfl rfl rfl rfl fun A' R' w' ho hd u hok hav hin hop hds => by exact took_assign (hop _ _ rfl rfl rfl rfl).symm hok hav) <| OblsR.nil
 intro done ρ σ A R w hdn hI
 replace h0 := k1 hI.rg h0
 obtain ⟨u1, e_u1⟩ : ∃ u, ρ 1 = u := ⟨_, rfl⟩
 have h3 : R 3 = u1 := (hI.opvR hdn 1 1 rfl rfl rfl rfl rfl).symm.trans e_u1
 replace f_v0 := f_v0.stp hI.stp
 replace hAA := hI.low' hAA hA0 (hO.ge (trivial))
 replace hF : Fr w0 w := hF.tr hI.ch (hO.ge (trivial))
 replace hO := hI.left hdn [(1, ob u1 (.vec w0.heap.size 5 (eInt .u8) ([] : List Int)))] ⟨rfl, rfl, e_u1, rfl, rfl, trivial⟩
 replace hA := hI.avok
 clear hI
 refine HT.seq ?_
 refine HT.seq ?_
 refine HT.u hA hF (eI 0 :: []) ?_ ?_
 exact Obls.p (fun R' w' hw hs hd => of_assign rfl) <| Obls.nil
 intro R w hw hs hF' hA hF
 obtain ⟨h0, h3⟩ := k2 hs h0 h3
 have h4 := hF'.r 0 rfl
 replace f_v0 := f_v0.fr hw
 replace hO := hO.fr hw
 obtain ⟨rl2, q3, hr⟩ := cl_some hr
 replace q3 := q3 rfl
 refine HT.cut0 (fun R w => ∃ A : Av, ∃ (s4 : (List Int)) (uo_u1 : Value), rl2 = s4 ∧ AvOK A w ∧ Fr w0 w ∧ (∀ b o, A0 b o → A b o) ∧ IniOK [ob uo_u1 (.vec w0.heap.size 5 (eInt .u8) s4)] A w ∧ R 3 = uo_u1) ?_ ?_
 refine HT.block ?_
 refine HT.loop (fun k R w => ∃ A : Av, ∃ (y5 : Int) (y6 : List Int) (ul_u1 : Value), M_spec_StripMarks_L0 fu p0 k y5 y6 = some rl2 ∧ AvOK A w ∧ Fr w0 w ∧ (∀ b o, A0 b o → A b o) ∧ IniOK [ob ul_u1 (.vec w0.heap.size 5 (eInt .u8) y6)] A w ∧ R 0 = v0 ∧ R 3 = ul_u1 ∧ R 4 = .int .i64 y5 ∧ Rep eStr A w v0 p0) fu ⟨_, _, _, u1, q3, hA, hF, hAA, hO, h0, h3, h4, f_v0⟩ ?_
 have hr0 := hr; clear hr q3
 rintro k R w ⟨A, y5, y6, ul_u1, hr, hA, hF, hAA, hO, h0, h3, h4, f_v0⟩
 rcases k with _ | k
 cases (show none = some _ from hr)
 rw [M_spec_StripMarks_L0] at hr
 refine HT.seq ?_
 refine HT.seq ?_
 refine HT.u hA hF (eI y5 :: eR v0 :: eI (p0.length : Int) :: eB (decide (y5 < (p0.length : Int))) :: []) ?_ ?_
 exact Obls.m h4 <| Obls.m h0 <| Obls.p (fun R' w' hw hs hd => of_len_str ((f_v0.fr hw).eq (hd.g 0 rfl)) Tryz.underlying9) <| Obls.p (fun R' w' hw hs hd => of_lss (hd.g 0 rfl) (hd.g 1 rfl)) <| Obls.nil
 intro R w hw hs hF' hA hF
 obtain ⟨h0, h3, h4⟩ := k3 hs h0 h3 h4
 have h9 := hF'.r 3 rfl
 replace f_v0 := f_v0.fr hw
 replace hO := hO.fr hw
 refine HT.cond (decide (y5 < (p0.length : Int))) h9 (fun c7 => ?_) (fun c7 => ?_)
 have hr := cnd_t c7 hr
 refine HT.skip ?_
 refine HT.seq ?_
 refine HT.block ?_
 refine HT.block ?_
 refine HT.seq ?_
 obtain ⟨e8, hr⟩ := ck_some hr
 obtain ⟨x9, q10, hr⟩ := cl_some hr
 obtain ⟨e11, hr⟩ := ck_some hr
 obtain ⟨x12, q13, hr⟩ := bd_some hr
 refine HT.u hA hF (eR v0 :: eI y5 :: eU (bAt p0 y5) :: eB x9 :: eB x9 :: gR (true && (x9 == false)) v0 :: gI (true && (x9 == false)) y5 :: gU (true && (x9 == false)) (bAt p0 y5) :: gB (true && (x9 == false)) ((bAt p0 y5) == (32 : Int)) :: eB x12 :: eB x12 :: []) ?_ ?_
 exact Obls.m h0 <| Obls.m h4 <| Obls.p (fun R' w' hw hs hd => of_strIndex ((f_v0.fr hw).eq (hd.g 0 rfl)) (hd.g 1 rfl) Tryz.underlying9 e8) <| Obls.p (fun R' w' hw hs hd => of_call Tryz.call188 (M_spec_l2Word_ok (q10 rfl) (hA.fr hw.size) (hd.g 0 rfl))) <| Obls.v <| Obls.g 4 false (fun hg R' w' hw hs hd => of_move ((hs 0 rfl).trans h0)) <| Obls.g 4 false (fun hg R' w' hw hs hd => of_move ((hs 4 rfl).trans h4)) <| Obls.g 4 false (fun hg R' w' hw hs hd => of_strIndex ((f_v0.fr hw).eq (hd.h 0 hg rfl)) (hd.h 1 hg rfl) Tryz.underlying9 (gd e11 hg)) <| Obls.g 4 false (fun hg R' w' hw hs hd => of_eql (hd.h 0 hg rfl) rfl) <| Obls.p (fun R' w' hw hs hd => of_pick x9 (hd.g 0 rfl) (fun hc => by show _ = Value.bool x12; rw [q13, hc]; exact rfl) (fun hc => by have a2 : R' 21 = .bool ((bAt p0 y5) == (32 : Int)) := hd 1 _ _ _ rfl rfl rfl rfl (g_and rfl (beq_of hc)); show _ = Value.bool x12; rw [q13, hc]; exact a2)) <| Obls.a <| Obls.nil
 intro R w hw hs hF' hA hF
 obtain ⟨h0, h3, h4⟩ := k3 hs h0 h3 h4
 have h12 := hF'.r 10 rfl
 replace f_v0 := f_v0.fr hw
 replace hO := hO.fr hw
 refine HT.cond x12 h12 (fun c14 => ?_) (fun c14 => ?_)
 have hr := cnd_t c14 hr
 obtain ⟨e15, hr⟩ := ck_some hr
 obtain ⟨e16, hr⟩ := ck_some hr
 refine HT.textR [ob ul_u1 (.vec w0.heap.size 5 (eInt .u8) y6)] (rR ul_u1 :: rR v0 :: rI y5 :: rU (bAt p0 y5) :: (rF fun A => .rep (eSl (eInt .u8)) A ([(bAt p0 y5)] : List Int)) :: ⟨_, true, [0], some (.vec w0.heap.size 5 (eInt .u8) (y6 ++ ([(bAt p0 y5)] : List Int))), true, fun A => .any⟩ :: ⟨_, true, [6], some (.vec w0.heap.size 5 (eInt .u8) (y6 ++ ([(bAt p0 y5)] : List Int))), true, fun A => .any⟩ :: []) (by kernel_rfl) (by kernel_rfl) (Wf.mk' (by kernel_rfl) (ur (ur (ur (ur (up (ua (ua (UAll.nil)))))))) (by kernel_rfl) (by kernel_rfl)) hO hA ?_ ?_
 exact OblsR.m h3 <| OblsR.m h0 <| OblsR.m h4 <| OblsR.p (fun A' R' w' ho hd => of_strIndex ((f_v0.stp ho.stp).eq (hd.g 0 rfl)) (hd.g 1 rfl) Tryz.underlying9 e15) <| OblsR.p (fun A' R' w' ho hd => of_build [_] (E := eInt .u8) ⟨(rep_int.eq (hd.g 0 rfl)), trivial⟩ Tryz.underlying22 Tryz.sizeOf5 Tryz.zeroValue5 rfl rfl rfl ho.av) <| OblsR.cons (OblR.took 0 _ _ rfl rfl rfl rfl rfl fun A' R' w' ho hd u hok hav hin hop hds => by have a0 : R' 23 = ul_u1 := hd.g 0 rfl; have a1 : Rep (eSl (eInt .u8)) A' w' (R' 27) ([(bAt p0 y5)] : List Int) := hd.g 1 rfl; exact took_append (a0.trans (hin _ rfl).symm) hok hav (Nat.le_trans hF.size ho.ch.size) a1 Tryz.underlying22 el_5 e16) <| OblsR.cons (OblR.took 6 _ _ rfl rfl rfl rfl rfl fun A' R' w' ho hd u hok hav hin hop hds => by exact took_assign (hop _ _ rfl rfl rfl rfl).symm hok hav) <| OblsR.nil
 intro done ρ σ A R w hdn hI
 obtain ⟨h0, h4⟩ := k2 hI.rg h0 h4
 obtain ⟨u17, e_u17⟩ : ∃ u, ρ 7 = u := ⟨_, rfl⟩
 have h3 : R 3 = u17 := (hI.opvR hdn 7 6 rfl rfl rfl rfl rfl).symm.trans e_u17
 replace f_v0 := f_v0.stp hI.stp
 replace hAA := hI.low' hAA hA0 (hO.ge (⟨rfl, trivial⟩))
 replace hF : Fr w0 w := hF.tr hI.ch (hO.ge (⟨rfl, trivial⟩))
 replace hO := hI.left hdn [(7, ob u17 (.vec w0.heap.size 5 (eInt .u8) (y6 ++ ([(bAt p0 y5)] : List Int))))] ⟨rfl, rfl, e_u17, rfl, rfl, trivial⟩
 replace hA := hI.avok
 clear hI
 obtain ⟨e18, hr⟩ := ck_some hr
 refine HT.u hA hF (eI y5 :: eI (y5 + (1 : Int)) :: eI (y5 + (1 : Int)) :: []) ?_ ?_
 exact Obls.m h4 <| Obls.p (fun R' w' hw hs hd => of_add (hd.g 0 rfl) rfl e18) <| Obls.a <| Obls.nil
 intro R w hw hs hF' hA hF
 obtain ⟨h0, h3⟩ := k2 hs h0 h3
 have h4 := hF'.r 2 rfl
 replace f_v0 := f_v0.fr hw
 replace hO := hO.fr hw
 exact Exists.intro k (And.intro (Nat.lt_succ_self k) ⟨_, _, _, u17, hr, hA, hF, hAA, hO, h0, h3, h4, f_v0⟩)
 have hr := cnd_f c14 hr
 refine HT.seq ?_
 obtain ⟨e19, hr⟩ := ck_some hr
 refine HT.u hA hF (eR v0 :: eI y5 :: eU (bAt p0 y5) :: eB ((bAt p0 y5) != (39 : Int)) :: eB ((bAt p0 y5) != (39 : Int)) :: []) ?_ ?_
 exact Obls.m h0 <| Obls.m h4 <| Obls.p (fun R' w' hw hs hd => of_strIndex ((f_v0.fr hw).eq (hd.g 0 rfl)) (hd.g 1 rfl) Tryz.underlying9 e19) <| Obls.p (fun R' w' hw hs hd => of_neq (hd.g 0 rfl) rfl) <| Obls.a <| Obls.nil
 intro R w hw hs hF' hA hF
 obtain ⟨h0, h3, h4⟩ := k3 hs h0 h3 h4
 have h29 := hF'.r 4 rfl
 replace f_v0 := f_v0.fr hw
 replace hO := hO.fr hw
 refine HT.cond ((bAt p0 y5) != (39 : Int)) h29 (fun c20 => ?_) (fun c20 => ?_)
 have hr := cnd_t c20 hr
 obtain ⟨e21, hr⟩ := ck_some hr
 refine HT.textR [ob ul_u1 (.vec w0.heap.size 5 (eInt .u8) y6)] (rR ul_u1 :: (rF fun A => .rep (eSl (eInt .u8)) A ([(32 : Int)] : List Int)) :: ⟨_, true, [0], some (.vec w0.heap.size 5 (eInt .u8) (y6 ++ ([(32 : Int)] : List Int))), true, fun A => .any⟩ :: ⟨_, true, [3], some (.vec w0.heap.size 5 (eInt .u8) (y6 ++ ([(32 : Int)] : List Int))), true, fun A => .any⟩ :: []) (by kernel_rfl) (by kernel_rfl) (Wf.mk' (by kernel_rfl) (ur (up (ua (ua (UAll.nil))))) (by kernel_rfl) (by kernel_rfl)) hO hA ?_ ?_
 exact OblsR.m h3 <| OblsR.p (fun A' R' w' ho hd => of_build [_] (E := eInt .u8) ⟨(rep_int.eq rfl), trivial⟩ Tryz.underlying22 Tryz.sizeOf5 Tryz.zeroValue5 rfl rfl rfl ho.av) <| OblsR.cons (OblR.took 0 _ _ rfl rfl rfl rfl rfl fun A' R' w' ho hd u hok hav hin hop hds => by have a0 : R' 34 = ul_u1 := hd.g 0 rfl; have a1 : Rep (eSl (eInt .u8)) A' w' (R' 35) ([(32 : Int)] : List Int) := hd.g 1 rfl; exact took_append (a0.trans (hin _ rfl).symm) hok hav (Nat.le_trans hF.size ho.ch.size) a1 Tryz.underlying22 el_5 e21) <| OblsR.cons (OblR.took 3 _ _ rfl rfl rfl rfl rfl fun A' R' w' ho hd u hok hav hin hop hds => by exact took_assign (hop _ _ rfl rfl rfl rfl).symm hok hav) <| OblsR.nil
 intro done ρ σ A R w hdn hI
 obtain ⟨h0, h4⟩ := k2 hI.rg h0 h4
 obtain ⟨u22, e_u22⟩ : ∃ u, ρ 4 = u := ⟨_, rfl⟩
 have h3 : R 3 = u22 := (hI.opvR hdn 4 3 rfl rfl rfl rfl rfl).symm.trans e_u22
 replace f_v0 := f_v0.stp hI.stp
 replace hAA := hI.low' hAA hA0 (hO.ge (⟨rfl, trivial⟩))
 replace hF : Fr w0 w := hF.tr hI.ch (hO.ge (⟨rfl, trivial⟩))
 replace hO := hI.left hdn [(4, ob u22 (.vec w0.heap.size 5 (eInt .u8) (y6 ++ ([(32 : Int)] : List Int))))] ⟨rfl, rfl, e_u22, rfl, rfl, trivial⟩
 replace hA := hI.avok
 clear hI
 obtain ⟨e23, hr⟩ := ck_some hr
 refine HT.u hA hF (eI y5 :: eI (y5 + (1 : Int)) :: eI (y5 + (1 : Int)) :: []) ?_ ?_
 exact Obls.m h4 <| Obls.p (fun R' w' hw hs hd => of_add (hd.g 0 rfl) rfl e23) <| Obls.a <| Obls.nil
 intro R w hw hs hF' hA hF
 obtain ⟨h0, h3⟩ := k2 hs h0 h3
 have h4 := hF'.r 2 rfl
 replace f_v0 := f_v0.fr hw
 replace hO := hO.fr hw
 exact Exists.intro k (And.intro (Nat.lt_succ_self k) ⟨_, _, _, u22, hr, hA, hF, hAA, hO, h0, h3, h4, f_v0⟩)
 have hr := cnd_f c20 hr
 refine HT.skip ?_
 obtain ⟨e24, hr⟩ := ck_some hr
 refine HT.u hA hF (eI y5 :: eI (y5 + (1 : Int)) :: eI (y5 + (1 : Int)) :: []) ?_ ?_
 exact Obls.m h4 <| Obls.p (fun R' w' hw hs hd => of_add (hd.g 0 rfl) rfl e24) <| Obls.a <| Obls.nil
 intro R w hw hs hF' hA hF
 obtain ⟨h0, h3⟩ := k2 hs h0 h3
 have h4 := hF'.r 2 rfl
 replace f_v0 := f_v0.fr hw
 replace hO := hO.fr hw
 exact Exists.intro k (And.intro (Nat.lt_succ_self k) ⟨_, _, _, ul_u1, hr, hA, hF, hAA, hO, h0, h3, h4, f_v0⟩)
 have hr := cnd_f c7 hr
 refine HT.exit ?_
 obtain rfl := Option.some.inj hr
 exact Exists.intro _ ⟨_, ul_u1, rfl, hA, hF, hAA, hO, h3⟩
 rintro R w ⟨A, s4, uo_u1, es, hA, hF, hAA, hO, h3⟩
 obtain rfl := es.symm
 refine HT.seq ?_
 refine HT.u hA hF (eR uo_u1 :: eF (.rep eStr A (strB s4)) :: eF (.rep eStr A (strB s4)) :: []) ?_ ?_
 exact Obls.m h3 <| Obls.p (fun R' w' hw hs hd => of_conv_bytes ((vec_rep ((hO.fr hw).ok 0 _ rfl).1 hAA hA0).eq (hd.g 0 rfl)) Tryz.underlying22 Tryz.underlying5 Tryz.underlying9) <| Obls.p (fun R' w' hw hs hd => of_assign (hd.g 0 rfl)) <| Obls.nil
 intro R w hw hs hF' hA hF
 obtain ⟨u25, h2, f_u25⟩ : ∃ u, R 2 = u ∧ Rep eStr A w u (strB s4) := ⟨_, rfl, hF' 2 _ _ rfl rfl rfl⟩
 replace hO := hO.fr hw
 replace hO : IniOK [] A w := hO.sub [] trivial
 refine HT.ret ?_
 obtain rfl := Option.some.inj hr
 exact ⟨.inr rfl, [R 2], ⟨rfl, trivial⟩, (f_u25.eq h2).down hAA, hF⟩
def M_spec_CollapseSpaces_L0 (fu : Nat) (p0 : List UInt8) : Nat → Int → (List Int) → Option (List Int)
 | 0, _, _ => none
 | k + 1, y5, y6 =>
 bif (decide (y5 < (p0.length : Int))) then (
 ck (inR y5 p0.length) <|
 bif ((bAt p0 y5) != 32) then (
 ck (!(true && ((decide (0 < (y6.length : Int))) == true)) || i64B (y5 - 1)) <|
 ck (!(true && ((decide (0 < (y6.length : Int))) == true)) || inR (y5 - 1) p0.length) <|
 bd ((decide (0 < (y6.length : Int))) && ((bAt p0 (y5 - 1)) == 32)) fun x12 =>
 bif x12 then (
 ck (lenOK (y6.length + ([32] : List Int).length)) <|
 ck (inR y5 p0.length) <|
 ck (lenOK ((y6 ++ ([32] : List Int)).length + ([(bAt p0 y5)] : List Int).length)) <|
 ck (i64B (y5 + 1)) <|
 M_spec_CollapseSpaces_L0 fu p0 k (y5 + 1) ((y6 ++ ([32] : List Int)) ++ ([(bAt p0 y5)] : List Int))
 ) else (
 ck (inR y5 p0.length) <|
 ck (lenOK (y6.length + ([(bAt p0 y5)] : List Int).length)) <|
 ck (i64B (y5 + 1)) <|
 M_spec_CollapseSpaces_L0 fu p0 k (y5 + 1) (y6 ++ ([(bAt p0 y5)] : List Int))
 )
 ) else (
 ck (i64B (y5 + 1)) <|
 M_spec_CollapseSpaces_L0 fu p0 k (y5 + 1) y6
 )
 ) else (
 some y6
 )
def M_spec_CollapseSpaces (fu : Nat) (p0 : List UInt8) : Option (List UInt8) :=
 cl true (M_spec_CollapseSpaces_L0 fu p0 fu 0 ([] : List Int)) fun s4 =>
 some (strB s4)
theorem M_spec_CollapseSpaces_ok {fu : Nat} {A0 : Av} {p0 : List UInt8} {r : List UInt8} (hr : M_spec_CollapseSpaces fu p0 = some r) {w : World} {v0 : Value} (hA : AvOK A0 w) (h0 : Rep eStr A0 w v0 p0) :
 Calls Tryz.prog 131 #[v0] w fun e w' => ∃ v, e = .returned v ∧ (Rep eStr A0 w' v r ∧ Fr w w') := by
 unfold M_spec_CollapseSpaces at hr
 obtain ⟨w0, hw0⟩ : ∃ w0, w0 = w := ⟨_, rfl⟩
 have hF : Fr w0 w := hw0 ▸ Fr.refl _
 have hA0 : ∀ b o, A0 b o → b < w0.heap.size := fun b o h => hw0 ▸ hA b o h
 have hA00 : AvOK A0 w0 := hA0
 rw [show Fr w = Fr w0 from hw0 ▸ rfl]
 clear hw0
 obtain ⟨A, hAe⟩ : ∃ A, A = A0 := ⟨_, rfl⟩
 have hAA : ∀ b o, A0 b o → A b o := fun b o h => hAe ▸ h
 replace hA : AvOK A w := hAe ▸ hA
 have hO : IniOK [] A w := IniOK.nil
 refine calls_of_HT2 [.tmp 2] Tryz.func131 Tryz.ntmps131 (by decide) rfl rfl (Nat.le_of_ble_eq_true rfl) ?_
 intro R hR
 have f_v0 : Rep eStr A w v0 p0 := hAe ▸ h0
 replace h0 : R 0 = v0 := hR 0 _ rfl
 clear hR hAe
 refine HT.seq ?_
 refine HT.u hA hF (eF (.rep eStr A ([] : List UInt8)) :: []) ?_ ?_
 exact Obls.p (fun R' w' hw hs hd => of_assign ⟨_, rfl, ⟨_, rfl, rfl, by decide⟩⟩) <| Obls.nil
 intro R w hw hs hF' hA hF
 replace h0 := k1 hs h0
 replace f_v0 := f_v0.fr hw
 replace hO := hO.fr hw
 refine HT.seq ?_
 refine HT.textR [] (⟨_, true, [], some (.vec w0.heap.size 5 (eInt .u8) ([] : List Int)), true, fun A => .any⟩ :: ⟨_, true, [0], some (.vec w0.heap.size 5 (eInt .u8) ([] : List Int)), true, fun A => .any⟩ :: []) (by kernel_rfl) (by kernel_rfl) (Wf.mk' (by kernel_rfl) (ua (ua (UAll.nil))) (by kernel_rfl) (by kernel_rfl)) hO hA ?_ ?_
 exact OblsR.cons (OblR.made _ rfl rfl rfl rfl fun A' R' w' ho hd => by exact made_build [] (E := eInt .u8) trivial Tryz.underlying22 Tryz.sizeOf5 Tryz.zeroValue5 rfl rfl rfl (Nat.le_trans hF.size ho.ch.size)) <| OblsR.cons (OblR.took 0 _ _ rfl rfl rfl rfl rfl fun A' R' w' ho hd u hok hav hin hop hds => by exact took_assign (hop _ _ rfl rfl rfl rfl).symm hok hav) <| OblsR.nil
 intro done ρ σ A R w hdn hI
 replace h0 := k1 hI.rg h0
 obtain ⟨u1, e_u1⟩ : ∃ u, ρ 1 = u := ⟨_, rfl⟩
 have h3 : R 3 = u1 := (hI.opvR hdn 1 1 rfl rfl rfl rfl rfl).symm.trans e_u1
 replace f_v0 := f_v0.stp hI.stp
 replace hAA := hI.low' hAA hA0 (hO.ge (trivial))
 replace hF : Fr w0 w := hF.tr hI.ch (hO.ge (trivial))
 replace hO := hI.left hdn [(1, ob u1 (.vec w0.heap.size 5 (eInt .u8) ([] : List Int)))] ⟨rfl, rfl, e_u1, rfl, rfl, trivial⟩
 replace hA := hI.avok
 clear hI
 refine HT.seq ?_
 refine HT.seq ?_
 refine HT.u hA hF (eI 0 :: []) ?_ ?_
 exact Obls.p (fun R' w' hw hs hd => of_assign rfl) <| Obls.nil
 intro R w hw hs hF' hA hF
 obtain ⟨h0, h3⟩ := k2 hs h0 h3
 have h4 := hF'.r 0 rfl
 replace f_v0 := f_v0.fr hw
 replace hO := hO.fr hw
 obtain ⟨rl2, q3, hr⟩ := cl_some hr
 replace q3 := q3 rfl
 refine HT.cut0 (fun R w => ∃ A : Av, ∃ (s4 : (List Int)) (uo_u1 : Value), rl2 = s4 ∧ AvOK A w ∧ Fr w0 w ∧ (∀ b o, A0 b o → A b o) ∧ IniOK [ob uo_u1 (.vec w0.heap.size 5 (eInt .u8) s4)] A w ∧ R 3 = uo_u1) ?_ ?_
 refine HT.block ?_
 refine HT.loop (fun k R w => ∃ A : Av, ∃ (y5 : Int) (y6 : List Int) (ul_u1 : Value), M_spec_CollapseSpaces_L0 fu p0 k y5 y6 = some rl2 ∧ AvOK A w ∧ Fr w0 w ∧ (∀ b o, A0 b o → A b o) ∧ IniOK [ob ul_u1 (.vec w0.heap.size 5 (eInt .u8) y6)] A w ∧ R 0 = v0 ∧ R 3 = ul_u1 ∧ R 4 = .int .i64 y5 ∧ Rep eStr A w v0 p0) fu ⟨_, _, _, u1, q3, hA, hF, hAA, hO, h0, h3, h4, f_v0⟩ ?_
 have hr0 := hr; clear hr q3
 rintro k R w ⟨A, y5, y6, ul_u1, hr, hA, hF, hAA, hO, h0, h3, h4, f_v0⟩
 rcases k with _ | k
 cases (show none = some _ from hr)
 rw [M_spec_CollapseSpaces_L0] at hr
 refine HT.seq ?_
 refine HT.seq ?_
 refine HT.u hA hF (eI y5 :: eR v0 :: eI (p0.length : Int) :: eB (decide (y5 < (p0.length : Int))) :: []) ?_ ?_
 exact Obls.m h4 <| Obls.m h0 <| Obls.p (fun R' w' hw hs hd => of_len_str ((f_v0.fr hw).eq (hd.g 0 rfl)) Tryz.underlying9) <| Obls.p (fun R' w' hw hs hd => of_lss (hd.g 0 rfl) (hd.g 1 rfl)) <| Obls.nil
 intro R w hw hs hF' hA hF
 obtain ⟨h0, h3, h4⟩ := k3 hs h0 h3 h4
 have h9 := hF'.r 3 rfl
 replace f_v0 := f_v0.fr hw
 replace hO := hO.fr hw
 refine HT.cond (decide (y5 < (p0.length : Int))) h9 (fun c7 => ?_) (fun c7 => ?_)
 have hr := cnd_t c7 hr
 refine HT.skip ?_
 refine HT.seq ?_
 refine HT.block ?_
 refine HT.seq ?_
 obtain ⟨e8, hr⟩ := ck_some hr
 refine HT.u hA hF (eR v0 :: eI y5 :: eU (bAt p0 y5) :: eB ((bAt p0 y5) != (32 : Int)) :: []) ?_ ?_
 exact Obls.m h0 <| Obls.m h4 <| Obls.p (fun R' w' hw hs hd => of_strIndex ((f_v0.fr hw).eq (hd.g 0 rfl)) (hd.g 1 rfl) Tryz.underlying9 e8) <| Obls.p (fun R' w' hw hs hd => of_neq (hd.g 0 rfl) rfl) <| Obls.nil
 intro R w hw hs hF' hA hF
 obtain ⟨h0, h3, h4⟩ := k3 hs h0 h3 h4
 have h15 := hF'.r 3 rfl
 replace f_v0 := f_v0.fr hw
 replace hO := hO.fr hw
 refine HT.cond ((bAt p0 y5) != (32 : Int)) h15 (fun c9 => ?_) (fun c9 => ?_)
 have hr := cnd_t c9 hr
 refine HT.seq ?_
 refine HT.seq ?_
 obtain ⟨e10, hr⟩ := ck_some hr
 obtain ⟨e11, hr⟩ := ck_some hr
 obtain ⟨x12, q13, hr⟩ := bd_some hr
 refine HT.u hA hF (eR ul_u1 :: eI (y6.length : Int) :: eB (decide ((0 : Int) < (y6.length : Int))) :: eB (decide ((0 : Int) < (y6.length : Int))) :: gR (true && ((decide ((0 : Int) < (y6.length : Int))) == true)) v0 :: gI (true && ((decide ((0 : Int) < (y6.length : Int))) == true)) y5 :: gI (true && ((decide ((0 : Int) < (y6.length : Int))) == true)) (y5 - (1 : Int)) :: gU (true && ((decide ((0 : Int) < (y6.length : Int))) == true)) (bAt p0 (y5 - (1 : Int))) :: gB (true && ((decide ((0 : Int) < (y6.length : Int))) == true)) ((bAt p0 (y5 - (1 : Int))) == (32 : Int)) :: eB x12 :: []) ?_ ?_
 exact Obls.m h3 <| Obls.p (fun R' w' hw hs hd => of_len_vec (hO.ok 0 _ rfl).1 (hd.g 0 rfl) Tryz.underlying22) <| Obls.p (fun R' w' hw hs hd => of_gtr (hd.g 0 rfl) rfl) <| Obls.v <| Obls.g 3 true (fun hg R' w' hw hs hd => of_move ((hs 0 rfl).trans h0)) <| Obls.g 3 true (fun hg R' w' hw hs hd => of_move ((hs 4 rfl).trans h4)) <| Obls.g 3 true (fun hg R' w' hw hs hd => of_sub (hd.h 0 hg rfl) rfl (gd e10 hg)) <| Obls.g 3 true (fun hg R' w' hw hs hd => of_strIndex ((f_v0.fr hw).eq (hd.h 0 hg rfl)) (hd.h 1 hg rfl) Tryz.underlying9 (gd e11 hg)) <| Obls.g 3 true (fun hg R' w' hw hs hd => of_eql (hd.h 0 hg rfl) rfl) <| Obls.p (fun R' w' hw hs hd => of_pick (decide ((0 : Int) < (y6.length : Int))) (hd.g 0 rfl) (fun hc => by have a1 : R' 24 = .bool ((bAt p0 (y5 - (1 : Int))) == (32 : Int)) := hd 1 _ _ _ rfl rfl rfl rfl (g_and rfl (beq_of hc)); show _ = Value.bool x12; rw [q13, hc]; exact a1) (fun hc => by show _ = Value.bool x12; rw [q13, hc]; exact rfl)) <| Obls.nil
 intro R w hw hs hF' hA hF
 obtain ⟨h0, h3, h4⟩ := k3 hs h0 h3 h4
 have h25 := hF'.r 9 rfl
 replace f_v0 := f_v0.fr hw
 replace hO := hO.fr hw
 refine HT.cond x12 h25 (fun c14 => ?_) (fun c14 => ?_)
 have hr := cnd_t c14 hr
 obtain ⟨e15, hr⟩ := ck_some hr
 refine HT.textR [ob ul_u1 (.vec w0.heap.size 5 (eInt .u8) y6)] (rR ul_u1 :: (rF fun A => .rep (eSl (eInt .u8)) A ([(32 : Int)] : List Int)) :: ⟨_, true, [0], some (.vec w0.heap.size 5 (eInt .u8) (y6 ++ ([(32 : Int)] : List Int))), true, fun A => .any⟩ :: ⟨_, true, [3], some (.vec w0.heap.size 5 (eInt .u8) (y6 ++ ([(32 : Int)] : List Int))), true, fun A => .any⟩ :: []) (by kernel_rfl) (by kernel_rfl) (Wf.mk' (by kernel_rfl) (ur (up (ua (ua (UAll.nil))))) (by kernel_rfl) (by kernel_rfl)) hO hA ?_ ?_
 exact OblsR.m h3 <| OblsR.p (fun A' R' w' ho hd => of_build [_] (E := eInt .u8) ⟨(rep_int.eq rfl), trivial⟩ Tryz.underlying22 Tryz.sizeOf5 Tryz.zeroValue5 rfl rfl rfl ho.av) <| OblsR.cons (OblR.took 0 _ _ rfl rfl rfl rfl rfl fun A' R' w' ho hd u hok hav hin hop hds => by have a0 : R' 26 = ul_u1 := hd.g 0 rfl; have a1 : Rep (eSl (eInt .u8)) A' w' (R' 27) ([(32 : Int)] : List Int) := hd.g 1 rfl; exact took_append (a0.trans (hin _ rfl).symm) hok hav (Nat.le_trans hF.size ho.ch.size) a1 Tryz.underlying22 el_5 e15) <| OblsR.cons (OblR.took 3 _ _ rfl rfl rfl rfl rfl fun A' R' w' ho hd u hok hav hin hop hds => by exact took_assign (hop _ _ rfl rfl rfl rfl).symm hok hav) <| OblsR.nil
 intro done ρ σ A R w hdn hI
 obtain ⟨h0, h4⟩ := k2 hI.rg h0 h4
 obtain ⟨u16, e_u16⟩ : ∃ u, ρ 4 = u := ⟨_, rfl⟩
 have h3 : R 3 = u16 := (hI.opvR hdn 4 3 rfl rfl rfl rfl rfl).symm.trans e_u16
 replace f_v0 := f_v0.stp hI.stp
 replace hAA := hI.low' hAA hA0 (hO.ge (⟨rfl, trivial⟩))
 replace hF : Fr w0 w := hF.tr hI.ch (hO.ge (⟨rfl, trivial⟩))
 replace hO := hI.left hdn [(4, ob u16 (.vec w0.heap.size 5 (eInt .u8) (y6 ++ ([(32 : Int)] : List Int))))] ⟨rfl, rfl, e_u16, rfl, rfl, trivial⟩
 replace hA := hI.avok
 clear hI
 obtain ⟨e17, hr⟩ := ck_some hr
 obtain ⟨e18, hr⟩ := ck_some hr
 refine HT.textR [ob u16 (.vec w0.heap.size 5 (eInt .u8) (y6 ++ ([(32 : Int)] : List Int)))] (rR u16 :: rR v0 :: rI y5 :: rU (bAt p0 y5) :: (rF fun A => .rep (eSl (eInt .u8)) A ([(bAt p0 y5)] : List Int)) :: ⟨_, true, [0], some (.vec w0.heap.size 5 (eInt .u8) ((y6 ++ ([(32 : Int)] : List Int)) ++ ([(bAt p0 y5)] : List Int))), true, fun A => .any⟩ :: ⟨_, true, [6], some (.vec w0.heap.size 5 (eInt .u8) ((y6 ++ ([(32 : Int)] : List Int)) ++ ([(bAt p0 y5)] : List Int))), true, fun A => .any⟩ :: []) (by kernel_rfl) (by kernel_rfl) (Wf.mk' (by kernel_rfl) (ur (ur (ur (ur (up (ua (ua (UAll.nil)))))))) (by kernel_rfl) (by kernel_rfl)) hO hA ?_ ?_
 exact OblsR.m h3 <| OblsR.m h0 <| OblsR.m h4 <| OblsR.p (fun A' R' w' ho hd => of_strIndex ((f_v0.stp ho.stp).eq (hd.g 0 rfl)) (hd.g 1 rfl) Tryz.underlying9 e17) <| OblsR.p (fun A' R' w' ho hd => of_build [_] (E := eInt .u8) ⟨(rep_int.eq (hd.g 0 rfl)), trivial⟩ Tryz.underlying22 Tryz.sizeOf5 Tryz.zeroValue5 rfl rfl rfl ho.av) <| OblsR.cons (OblR.took 0 _ _ rfl rfl rfl rfl rfl fun A' R' w' ho hd u hok hav hin hop hds => by have a0 : R' 29 = u16 := hd.g 0 rfl; have a1 : Rep (eSl (eInt .u8)) A' w' (R' 33) ([(bAt p0 y5)] : List Int) := hd.g 1 rfl; exact took_append (a0.trans (hin _ rfl).symm) hok hav (Nat.le_trans hF.size ho.ch.size) a1 Tryz.underlying22 el_5 e18) <| OblsR.cons (OblR.took 6 _ _ rfl rfl rfl rfl rfl fun A' R' w' ho hd u hok hav hin hop hds => by exact took_assign (hop _ _ rfl rfl rfl rfl).symm hok hav) <| OblsR.nil
 intro done ρ σ A R w hdn hI
 obtain ⟨h0, h4⟩ := k2 hI.rg h0 h4
 obtain ⟨u19, e_u19⟩ : ∃ u, ρ 7 = u := ⟨_, rfl⟩
 have h3 : R 3 = u19 := (hI.opvR hdn 7 6 rfl rfl rfl rfl rfl).symm.trans e_u19
 replace f_v0 := f_v0.stp hI.stp
 replace hAA := hI.low' hAA hA0 (hO.ge (⟨rfl, trivial⟩))
 replace hF : Fr w0 w := hF.tr hI.ch (hO.ge (⟨rfl, trivial⟩))
 replace hO := hI.left hdn [(7, ob u19 (.vec w0.heap.size 5 (eInt .u8) ((y6 ++ ([(32 : Int)] : List Int)) ++ ([(bAt p0 y5)] : List Int))))] ⟨rfl, rfl, e_u19, rfl, rfl, trivial⟩
 replace hA := hI.avok
 clear hI
 obtain ⟨e20, hr⟩ := ck_some hr
 refine HT.u hA hF (eI y5 :: eI (y5 + (1 : Int)) :: eI (y5 + (1 : Int)) :: []) ?_ ?_
 exact Obls.m h4 <| Obls.p (fun R' w' hw hs hd => of_add (hd.g 0 rfl) rfl e20) <| Obls.a <| Obls.nil
 intro R w hw hs hF' hA hF
 obtain ⟨h0, h3⟩ := k2 hs h0 h3
 have h4 := hF'.r 2 rfl
 replace f_v0 := f_v0.fr hw
 replace hO := hO.fr hw
 exact Exists.intro k (And.intro (Nat.lt_succ_self k) ⟨_, _, _, u19, hr, hA, hF, hAA, hO, h0, h3, h4, f_v0⟩)
 have hr := cnd_f c14 hr
 refine HT.skip ?_
 obtain ⟨e21, hr⟩ := ck_some hr
 obtain ⟨e22, hr⟩ := ck_some hr
 refine HT.textR [ob ul_u1 (.vec w0.heap.size 5 (eInt .u8) y6)] (rR ul_u1 :: rR v0 :: rI y5 :: rU (bAt p0 y5) :: (rF fun A => .rep (eSl (eInt .u8)) A ([(bAt p0 y5)] : List Int)) :: ⟨_, true, [0], some (.vec w0.heap.size 5 (eInt .u8) (y6 ++ ([(bAt p0 y5)] : List Int))), true, fun A => .any⟩ :: ⟨_, true, [6], some (.vec w0.heap.size 5 (eInt .u8) (y6 ++ ([(bAt p0 y5)] : List Int))), true, fun A => .any⟩ :: []) (by kernel_rfl) (by kernel_rfl) (Wf.mk' (by kernel_rfl) (ur (ur (ur (ur (up (ua (ua (UAll.nil)))))))) (by kernel_rfl) (by kernel_rfl)) hO hA ?_ ?_
 exact OblsR.m h3 <| OblsR.m h0 <| OblsR.m h4 <| OblsR.p (fun A' R' w' ho hd => of_strIndex ((f_v0.stp ho.stp).eq (hd.g 0 rfl)) (hd.g 1 rfl) Tryz.underlying9 e21) <| OblsR.p (fun A' R' w' ho hd => of_build [_] (E := eInt .u8) ⟨(rep_int.eq (hd.g 0 rfl)), trivial⟩ Tryz.underlying22 Tryz.sizeOf5 Tryz.zeroValue5 rfl rfl rfl ho.av) <| OblsR.cons (OblR.took 0 _ _ rfl rfl rfl rfl rfl fun A' R' w' ho hd u hok hav hin hop hds => by have a0 : R' 29 = ul_u1 := hd.g 0 rfl; have a1 : Rep (eSl (eInt .u8)) A' w' (R' 33) ([(bAt p0 y5)] : List Int) := hd.g 1 rfl; exact took_append (a0.trans (hin _ rfl).symm) hok hav (Nat.le_trans hF.size ho.ch.size) a1 Tryz.underlying22 el_5 e22) <| OblsR.cons (OblR.took 6 _ _ rfl rfl rfl rfl rfl fun A' R' w' ho hd u hok hav hin hop hds => by exact took_assign (hop _ _ rfl rfl rfl rfl).symm hok hav) <| OblsR.nil
 intro done ρ σ A R w hdn hI
 obtain ⟨h0, h4⟩ := k2 hI.rg h0 h4
 obtain ⟨u23, e_u23⟩ : ∃ u, ρ 7 = u := ⟨_, rfl⟩
 have h3 : R 3 = u23 := (hI.opvR hdn 7 6 rfl rfl rfl rfl rfl).symm.trans e_u23
 replace f_v0 := f_v0.stp hI.stp
 replace hAA := hI.low' hAA hA0 (hO.ge (⟨rfl, trivial⟩))
 replace hF : Fr w0 w := hF.tr hI.ch (hO.ge (⟨rfl, trivial⟩))
 replace hO := hI.left hdn [(7, ob u23 (.vec w0.heap.size 5 (eInt .u8) (y6 ++ ([(bAt p0 y5)] : List Int))))] ⟨rfl, rfl, e_u23, rfl, rfl, trivial⟩
 replace hA := hI.avok
 clear hI
 obtain ⟨e24, hr⟩ := ck_some hr
 refine HT.u hA hF (eI y5 :: eI (y5 + (1 : Int)) :: eI (y5 + (1 : Int)) :: []) ?_ ?_
 exact Obls.m h4 <| Obls.p (fun R' w' hw hs hd => of_add (hd.g 0 rfl) rfl e24) <| Obls.a <| Obls.nil
 intro R w hw hs hF' hA hF
 obtain ⟨h0, h3⟩ := k2 hs h0 h3
 have h4 := hF'.r 2 rfl
 replace f_v0 := f_v0.fr hw
 replace hO := hO.fr hw
 exact Exists.intro k (And.intro (Nat.lt_succ_self k) ⟨_, _, _, u23, hr, hA, hF, hAA, hO, h0, h3, h4, f_v0⟩)
 have hr := cnd_f c9 hr
 refine HT.skip ?_
 obtain ⟨e25, hr⟩ := ck_some hr
 refine HT.u hA hF (eI y5 :: eI (y5 + (1 : Int)) :: eI (y5 + (1 : Int)) :: []) ?_ ?_
 exact Obls.m h4 <| Obls.p (fun R' w' hw hs hd => of_add (hd.g 0 rfl) rfl e25) <| Obls.a <| Obls.nil
 intro R w hw hs hF' hA hF
 obtain ⟨h0, h3⟩ := k2 hs h0 h3
 have h4 := hF'.r 2 rfl
 replace f_v0 := f_v0.fr hw
 replace hO := hO.fr hw
 exact Exists.intro k (And.intro (Nat.lt_succ_self k) ⟨_, _, _, ul_u1, hr, hA, hF, hAA, hO, h0, h3, h4, f_v0⟩)
 have hr := cnd_f c7 hr
 refine HT.exit ?_
 obtain rfl := Option.some.inj hr
 exact Exists.intro _ ⟨_, ul_u1, rfl, hA, hF, hAA, hO, h3⟩
 rintro R w ⟨A, s4, uo_u1, es, hA, hF, hAA, hO, h3⟩
 obtain rfl := es.symm
 refine HT.seq ?_
 refine HT.u hA hF (eR uo_u1 :: eF (.rep eStr A (strB s4)) :: eF (.rep eStr A (strB s4)) :: []) ?_ ?_
 exact Obls.m h3 <| Obls.p (fun R' w' hw hs hd => of_conv_bytes ((vec_rep ((hO.fr hw).ok 0 _ rfl).1 hAA hA0).eq (hd.g 0 rfl)) Tryz.underlying22 Tryz.underlying5 Tryz.underlying9) <| Obls.p (fun R' w' hw hs hd => of_assign (hd.g 0 rfl)) <| Obls.nil
 intro R w hw hs hF' hA hF
 obtain ⟨u26, h2, f_u26⟩ : ∃ u, R 2 = u ∧ Rep eStr A w u (strB s4) := ⟨_, rfl, hF' 2 _ _ rfl rfl rfl⟩
 replace hO := hO.fr hw
 replace hO : IniOK [] A w := hO.sub [] trivial
 refine HT.ret ?_
 obtain rfl := Option.some.inj hr
 exact ⟨.inr rfl, [R 2], ⟨rfl, trivial⟩, (f_u26.eq h2).down hAA, hF⟩
def M_spec_Normalize (fu : Nat) (p0 : List UInt8) : Option (List UInt8) :=
 cl true (M_spec_FoldCase fu p0) fun x1 =>
 cl true (M_spec_StripMarks fu x1) fun x3 =>
 cl true (M_spec_CollapseSpaces fu x3) fun x5 =>
 some x5
theorem M_spec_Normalize_ok {fu : Nat} {A : Av} {p0 : List UInt8} {r : List UInt8} (hr : M_spec_Normalize fu p0 = some r) {w : World} {v0 : Value} (hA : AvOK A w) (h0 : Rep eStr A w v0 p0) :
 Calls Tryz.prog 60 #[v0] w fun e w' => ∃ v, e = .returned v ∧ (Rep eStr A w' v r ∧ Fr w w') := by
 unfold M_spec_Normalize at hr
 obtain ⟨w0, hw0⟩ : ∃ w0, w0 = w := ⟨_, rfl⟩
 have hF : Fr w0 w := hw0 ▸ Fr.refl _
 rw [show Fr w = Fr w0 from hw0 ▸ rfl]
 clear hw0
 refine calls_of_HT2 [.tmp 2] Tryz.func60 Tryz.ntmps60 (by decide) rfl rfl (Nat.le_of_ble_eq_true rfl) ?_
 intro R hR
 have f_v0 := h0
 replace h0 : R 0 = v0 := hR 0 _ rfl
 clear hR
 refine HT.seq ?_
 refine HT.u hA hF (eF (.rep eStr A ([] : List UInt8)) :: []) ?_ ?_
 exact Obls.p (fun R' w' hw hs hd => of_assign ⟨_, rfl, ⟨_, rfl, rfl, by decide⟩⟩) <| Obls.nil
 intro R w hw hs hF' hA hF
 replace h0 := k1 hs h0
 replace f_v0 := f_v0.fr hw
 refine HT.seq ?_
 obtain ⟨x1, q2, hr⟩ := cl_some hr
 obtain ⟨x3, q4, hr⟩ := cl_some hr
 obtain ⟨x5, q6, hr⟩ := cl_some hr
 refine HT.u hA hF (eR v0 :: eF (.rep eStr A x1) :: eF (.rep eStr A x3) :: eF (.rep eStr A x5) :: eF (.rep eStr A x5) :: []) ?_ ?_
 exact Obls.m h0 <| Obls.p (fun R' w' hw hs hd => of_call Tryz.call133 (M_spec_FoldCase_ok (q2 rfl) (hA.fr hw.size) ((f_v0.fr hw).eq (hd.g 0 rfl)))) <| Obls.p (fun R' w' hw hs hd => of_call Tryz.call132 (M_spec_StripMarks_ok (q4 rfl) (hA.fr hw.size) (hd.g 0 rfl))) <| Obls.p (fun R' w' hw hs hd => of_call Tryz.call131 (M_spec_CollapseSpaces_ok (q6 rfl) (hA.fr hw.size) (hd.g 0 rfl))) <| Obls.p (fun R' w' hw hs hd => of_assign (hd.g 0 rfl)) <| Obls.nil
 intro R w hw hs hF' hA hF
 obtain ⟨u7, h2, f_u7⟩ : ∃ u, R 2 = u ∧ Rep eStr A w u x5 := ⟨_, rfl, hF' 4 _ _ rfl rfl rfl⟩
 refine HT.ret ?_
 obtain rfl := Option.some.inj hr
 exact ⟨.inr rfl, [R 2], ⟨rfl, trivial⟩, (f_u7.eq h2), hF⟩
def M_spec_l2Cut_L0 (fu : Nat) (p0 : List UInt8) (p1 : Int) : Nat → Int → Int → (List (List UInt8)) → Option (Int × (List (List UInt8)))
 | 0, _, _, _ => none
 | k + 1, y5, y6, y7 =>
 bif (decide (y6 < (p0.length : Int))) then (
 ck (inR y6 p0.length) <|
 bif ((bAt p0 y6) == p1) then (
 ck (subR y5 y6 p0.length) <|
 ck (lenOK (y7.length + ([(subL p0 y5 y6)] : List (List UInt8)).length)) <|
 ck (i64B (y6 + 1)) <|
 ck (i64B (y6 + 1)) <|
 M_spec_l2Cut_L0 fu p0 p1 k (y6 + 1) (y6 + 1) (y7 ++ ([(subL p0 y5 y6)] : List (List UInt8)))
 ) else (
 ck (i64B (y6 + 1)) <|
 M_spec_l2Cut_L0 fu p0 p1 k y5 (y6 + 1) y7
 )
 ) else (
 some (y5, y7)
 )
def M_spec_l2Cut (fu : Nat) (p0 : List UInt8) (p1 : Int) : Option (List (List UInt8)) :=
 cl true (M_spec_l2Cut_L0 fu p0 p1 fu 0 0 ([] : List (List UInt8))) fun s4 =>
 ck (subR s4.1 (p0.length : Int) p0.length) <|
 ck (lenOK (s4.2.length + ([(subL p0 s4.1 (p0.length : Int))] : List (List UInt8)).length)) <|
 some (s4.2 ++ ([(subL p0 s4.1 (p0.length : Int))] : List (List UInt8)))
theorem M_spec_l2Cut_ok {fu : Nat} {A0 : Av} {p0 : List UInt8} {p1 : Int} {r : List (List UInt8)} (hr : M_spec_l2Cut fu p0 p1 = some r) {w : World} {v0 : Value} {v1 : Value} (hA : AvOK A0 w) (h0 : Rep eStr A0 w v0 p0) (h1 : v1 = .int .u8 p1) :
 Calls Tryz.prog 160 #[v0, v1] w fun e w' => ∃ v, e = .returned v ∧ ((Res.vec w.heap.size 9 eStr r).ok (addA A0 v) v w' ∧ Fr w w') := by
 unfold M_spec_l2Cut at hr
 obtain ⟨w0, hw0⟩ : ∃ w0, w0 = w := ⟨_, rfl⟩
 have hF : Fr w0 w := hw0 ▸ Fr.refl _
 have hA0 : ∀ b o, A0 b o → b < w0.heap.size := fun b o h => hw0 ▸ hA b o h
 have hA00 : AvOK A0 w0 := hA0
 rw [show w.heap.size = w0.heap.size from hw0 ▸ rfl]
 rw [show Fr w = Fr w0 from hw0 ▸ rfl]
 clear hw0
 obtain ⟨A, hAe⟩ : ∃ A, A = A0 := ⟨_, rfl⟩
 have hAA : ∀ b o, A0 b o → A b o := fun b o h => hAe ▸ h
 replace hA : AvOK A w := hAe ▸ hA
 have hO : IniOK [] A w := IniOK.nil
 refine calls_of_HT2 [.tmp 4] Tryz.func160 Tryz.ntmps160 (by decide) rfl rfl (Nat.le_of_ble_eq_true rfl) ?_
 intro R hR
 have f_v0 : Rep eStr A w v0 p0 := hAe ▸ h0
 replace h0 : R 0 = v0 := hR 0 _ rfl
 replace h1 : R 1 = .int .u8 p1 := (hR 1 _ rfl).trans h1
 clear hR hAe
 refine HT.seq ?_
 refine HT.u hA hF (eA :: []) ?_ ?_
 exact Obls.p (fun R' w' hw hs hd => of_assign trivial) <| Obls.nil
 intro R w hw hs hF' hA hF
 obtain ⟨h0, h1⟩ := k2 hs h0 h1
 replace f_v0 := f_v0.fr hw
 replace hO := hO.fr hw
 refine HT.seq ?_
 refine HT.textR [] (⟨_, true, [], some (.vec w0.heap.size 9 eStr ([] : List (List UInt8))), true, fun A => .any⟩ :: ⟨_, true, [0], some (.vec w0.heap.size 9 eStr ([] : List (List UInt8))), true, fun A => .any⟩ :: []) (by kernel_rfl) (by kernel_rfl) (Wf.mk' (by kernel_rfl) (ua (ua (UAll.nil))) (by kernel_rfl) (by kernel_rfl)) hO hA ?_ ?_
 exact OblsR.cons (OblR.made _ rfl rfl rfl rfl fun A' R' w' ho hd => by exact made_build [] (E := eStr) trivial Tryz.underlying46 Tryz.sizeOf9 Tryz.zeroValue9 rfl rfl rfl (Nat.le_trans hF.size ho.ch.size)) <| OblsR.cons (OblR.took 0 _ _ rfl rfl rfl rfl rfl fun A' R' w' ho hd u hok hav hin hop hds => by exact took_assign (hop _ _ rfl rfl rfl rfl).symm hok hav) <| OblsR.nil
 intro done ρ σ A R w hdn hI
 obtain ⟨h0, h1⟩ := k2 hI.rg h0 h1
 obtain ⟨u1, e_u1⟩ : ∃ u, ρ 1 = u := ⟨_, rfl⟩
 have h5 : R 5 = u1 := (hI.opvR hdn 1 1 rfl rfl rfl rfl rfl).symm.trans e_u1
 replace f_v0 := f_v0.stp hI.stp
 replace hAA := hI.low' hAA hA0 (hO.ge (trivial))
 replace hF : Fr w0 w := hF.tr hI.ch (hO.ge (trivial))
 replace hO := hI.left hdn [(1, ob u1 (.vec w0.heap.size 9 eStr ([] : List (List UInt8))))] ⟨rfl, rfl, e_u1, rfl, rfl, trivial⟩
 replace hA := hI.avok
 clear hI
 refine HT.seq ?_
 refine HT.u hA hF (eI 0 :: []) ?_ ?_
 exact Obls.p (fun R' w' hw hs hd => of_assign rfl) <| Obls.nil
 intro R w hw hs hF' hA hF
 obtain ⟨h0, h1, h5⟩ := k3 hs h0 h1 h5
 have h6 := hF'.r 0 rfl
 replace f_v0 := f_v0.fr hw
 replace hO := hO.fr hw
 refine HT.seq ?_
 refine HT.seq ?_
 refine HT.u hA hF (eI 0 :: []) ?_ ?_
 exact Obls.p (fun R' w' hw hs hd => of_assign rfl) <| Obls.nil
 intro R w hw hs hF' hA hF
 obtain ⟨h0, h1, h5, h6⟩ := k4 hs h0 h1 h5 h6
 have h7 := hF'.r 0 rfl
 replace f_v0 := f_v0.fr hw
 replace hO := hO.fr hw
 obtain ⟨rl2, q3, hr⟩ := cl_some hr
 replace q3 := q3 rfl
 refine HT.cut0 (fun R w => ∃ A : Av, ∃ (s4 : Int × (List (List UInt8))) (uo_u1 : Value), rl2 = s4 ∧ AvOK A w ∧ Fr w0 w ∧ (∀ b o, A0 b o → A b o) ∧ IniOK [ob uo_u1 (.vec w0.heap.size 9 eStr s4.2)] A w ∧ R 0 = v0 ∧ R 5 = uo_u1 ∧ R 6 = .int .i64 s4.1 ∧ Rep eStr A w v0 p0) ?_ ?_
 refine HT.block ?_
 refine HT.loop (fun k R w => ∃ A : Av, ∃ (y5 : Int) (y6 : Int) (y7 : List (List UInt8)) (ul_u1 : Value), M_spec_l2Cut_L0 fu p0 p1 k y5 y6 y7 = some rl2 ∧ AvOK A w ∧ Fr w0 w ∧ (∀ b o, A0 b o → A b o) ∧ IniOK [ob ul_u1 (.vec w0.heap.size 9 eStr y7)] A w ∧ R 0 = v0 ∧ R 1 = .int .u8 p1 ∧ R 5 = ul_u1 ∧ R 6 = .int .i64 y5 ∧ R 7 = .int .i64 y6 ∧ Rep eStr A w v0 p0) fu ⟨_, _, _, _, u1, q3, hA, hF, hAA, hO, h0, h1, h5, h6, h7, f_v0⟩ ?_
 have hr0 := hr; clear hr q3
 rintro k R w ⟨A, y5, y6, y7, ul_u1, hr, hA, hF, hAA, hO, h0, h1, h5, h6, h7, f_v0⟩
 rcases k with _ | k
 cases (show none = some _ from hr)
 rw [M_spec_l2Cut_L0] at hr
 refine HT.seq ?_
 refine HT.seq ?_
 refine HT.u hA hF (eI y6 :: eR v0 :: eI (p0.length : Int) :: eB (decide (y6 < (p0.length : Int))) :: []) ?_ ?_
 exact Obls.m h7 <| Obls.m h0 <| Obls.p (fun R' w' hw hs hd => of_len_str ((f_v0.fr hw).eq (hd.g 0 rfl)) Tryz.underlying9) <| Obls.p (fun R' w' hw hs hd => of_lss (hd.g 0 rfl) (hd.g 1 rfl)) <| Obls.nil
 intro R w hw hs hF' hA hF
 obtain ⟨h0, h1, h5, h6, h7⟩ := k5 hs h0 h1 h5 h6 h7
 have h12 := hF'.r 3 rfl
 replace f_v0 := f_v0.fr hw
 replace hO := hO.fr hw
 refine HT.cond (decide (y6 < (p0.length : Int))) h12 (fun c8 => ?_) (fun c8 => ?_)
 have hr := cnd_t c8 hr
 refine HT.skip ?_
 refine HT.seq ?_
 refine HT.block ?_
 refine HT.seq ?_
 obtain ⟨e9, hr⟩ := ck_some hr
 refine HT.u hA hF (eR v0 :: eI y6 :: eU (bAt p0 y6) :: eU p1 :: eB ((bAt p0 y6) == p1) :: []) ?_ ?_
 exact Obls.m h0 <| Obls.m h7 <| Obls.p (fun R' w' hw hs hd => of_strIndex ((f_v0.fr hw).eq (hd.g 0 rfl)) (hd.g 1 rfl) Tryz.underlying9 e9) <| Obls.m h1 <| Obls.p (fun R' w' hw hs hd => of_eql (hd.g 0 rfl) (hd.g 1 rfl)) <| Obls.nil
 intro R w hw hs hF' hA hF
 obtain ⟨h0, h1, h5, h6, h7⟩ := k5 hs h0 h1 h5 h6 h7
 have h19 := hF'.r 4 rfl
 replace f_v0 := f_v0.fr hw
 replace hO := hO.fr hw
 refine HT.cond ((bAt p0 y6) == p1) h19 (fun c10 => ?_) (fun c10 => ?_)
 have hr := cnd_t c10 hr
 refine HT.seq ?_
 obtain ⟨e11, hr⟩ := ck_some hr
 obtain ⟨e12, hr⟩ := ck_some hr
 refine HT.textR [ob ul_u1 (.vec w0.heap.size 9 eStr y7)] (rR ul_u1 :: rR v0 :: rI y5 :: rI y6 :: (rF fun A => .rep eStr A (subL p0 y5 y6)) :: (rF fun A => .rep (eSl eStr) A ([(subL p0 y5 y6)] : List (List UInt8))) :: ⟨_, true, [0], some (.vec w0.heap.size 9 eStr (y7 ++ ([(subL p0 y5 y6)] : List (List UInt8)))), true, fun A => .any⟩ :: ⟨_, true, [7], some (.vec w0.heap.size 9 eStr (y7 ++ ([(subL p0 y5 y6)] : List (List UInt8)))), true, fun A => .any⟩ :: []) (by kernel_rfl) (by kernel_rfl) (Wf.mk' (by kernel_rfl) (ur (ur (ur (ur (up (up (ua (ua (UAll.nil))))))))) (by kernel_rfl) (by kernel_rfl)) hO hA ?_ ?_
 exact OblsR.m h5 <| OblsR.m h0 <| OblsR.m h6 <| OblsR.m h7 <| OblsR.p (fun A' R' w' ho hd => of_slice_str ((f_v0.stp ho.stp).eq (hd.g 0 rfl)) (hd.g 1 rfl) (hd.g 2 rfl) Tryz.underlying9  e11) <| OblsR.p (fun A' R' w' ho hd => of_build [_] (E := eStr) ⟨(hd.g 0 rfl), trivial⟩ Tryz.underlying46 Tryz.sizeOf9 Tryz.zeroValue9 rfl rfl rfl ho.av) <| OblsR.cons (OblR.took 0 _ _ rfl rfl rfl rfl rfl fun A' R' w' ho hd u hok hav hin hop hds => by have a0 : R' 20 = ul_u1 := hd.g 0 rfl; have a1 : Rep (eSl eStr) A' w' (R' 25) ([(subL p0 y5 y6)] : List (List UInt8)) := hd.g 1 rfl; exact took_append (a0.trans (hin _ rfl).symm) hok hav (Nat.le_trans hF.size ho.ch.size) a1 Tryz.underlying46 el_9 e12) <| OblsR.cons (OblR.took 7 _ _ rfl rfl rfl rfl rfl fun A' R' w' ho hd u hok hav hin hop hds => by exact took_assign (hop _ _ rfl rfl rfl rfl).symm hok hav) <| OblsR.nil
 intro done ρ σ A R w hdn hI
 obtain ⟨h0, h1, h7⟩ := k3 hI.rg h0 h1 h7
 obtain ⟨u13, e_u13⟩ : ∃ u, ρ 8 = u := ⟨_, rfl⟩
 have h5 : R 5 = u13 := (hI.opvR hdn 8 7 rfl rfl rfl rfl rfl).symm.trans e_u13
 replace f_v0 := f_v0.stp hI.stp
 replace hAA := hI.low' hAA hA0 (hO.ge (⟨rfl, trivial⟩))
 replace hF : Fr w0 w := hF.tr hI.ch (hO.ge (⟨rfl, trivial⟩))
 replace hO := hI.left hdn [(8, ob u13 (.vec w0.heap.size 9 eStr (y7 ++ ([(subL p0 y5 y6)] : List (List UInt8)))))] ⟨rfl, rfl, e_u13, rfl, rfl, trivial⟩
 replace hA := hI.avok
 clear hI
 obtain ⟨e14, hr⟩ := ck_some hr
 refine HT.u hA hF (eI y6 :: eI (y6 + (1 : Int)) :: eI (y6 + (1 : Int)) :: []) ?_ ?_
 exact Obls.m h7 <| Obls.p (fun R' w' hw hs hd => of_add (hd.g 0 rfl) rfl e14) <| Obls.a <| Obls.nil
 intro R w hw hs hF' hA hF
 obtain ⟨h0, h1, h5, h7⟩ := k4 hs h0 h1 h5 h7
 have h6 := hF'.r 2 rfl
 replace f_v0 := f_v0.fr hw
 replace hO := hO.fr hw
 obtain ⟨e15, hr⟩ := ck_some hr
 refine HT.u hA hF (eI y6 :: eI (y6 + (1 : Int)) :: eI (y6 + (1 : Int)) :: []) ?_ ?_
 exact Obls.m h7 <| Obls.p (fun R' w' hw hs hd => of_add (hd.g 0 rfl) rfl e15) <| Obls.a <| Obls.nil
 intro R w hw hs hF' hA hF
 obtain ⟨h0, h1, h5, h6⟩ := k4 hs h0 h1 h5 h6
 have h7 := hF'.r 2 rfl
 replace f_v0 := f_v0.fr hw
 replace hO := hO.fr hw
 exact Exists.intro k (And.intro (Nat.lt_succ_self k) ⟨_, _, _, _, u13, hr, hA, hF, hAA, hO, h0, h1, h5, h6, h7, f_v0⟩)
 have hr := cnd_f c10 hr
 refine HT.skip ?_
 obtain ⟨e16, hr⟩ := ck_some hr
 refine HT.u hA hF (eI y6 :: eI (y6 + (1 : Int)) :: eI (y6 + (1 : Int)) :: []) ?_ ?_
 exact Obls.m h7 <| Obls.p (fun R' w' hw hs hd => of_add (hd.g 0 rfl) rfl e16) <| Obls.a <| Obls.nil
 intro R w hw hs hF' hA hF
 obtain ⟨h0, h1, h5, h6⟩ := k4 hs h0 h1 h5 h6
 have h7 := hF'.r 2 rfl
 replace f_v0 := f_v0.fr hw
 replace hO := hO.fr hw
 exact Exists.intro k (And.intro (Nat.lt_succ_self k) ⟨_, _, _, _, ul_u1, hr, hA, hF, hAA, hO, h0, h1, h5, h6, h7, f_v0⟩)
 have hr := cnd_f c8 hr
 refine HT.exit ?_
 obtain rfl := Option.some.inj hr
 exact Exists.intro _ ⟨_, ul_u1, rfl, hA, hF, hAA, hO, h0, h5, h6, f_v0⟩
 rintro R w ⟨A, s4, uo_u1, es, hA, hF, hAA, hO, h0, h5, h6, f_v0⟩
 obtain rfl := es.symm
 refine HT.seq ?_
 obtain ⟨e17, hr⟩ := ck_some hr
 obtain ⟨e18, hr⟩ := ck_some hr
 refine HT.textR [ob uo_u1 (.vec w0.heap.size 9 eStr s4.2)] (rR uo_u1 :: rR v0 :: rI s4.1 :: (rF fun A => .rep eStr A (subL p0 s4.1 (p0.length : Int))) :: (rF fun A => .rep (eSl eStr) A ([(subL p0 s4.1 (p0.length : Int))] : List (List UInt8))) :: ⟨_, true, [0], some (.vec w0.heap.size 9 eStr (s4.2 ++ ([(subL p0 s4.1 (p0.length : Int))] : List (List UInt8)))), true, fun A => .any⟩ :: ⟨_, true, [6], some (.vec w0.heap.size 9 eStr (s4.2 ++ ([(subL p0 s4.1 (p0.length : Int))] : List (List UInt8)))), true, fun A => .any⟩ :: []) (by kernel_rfl) (by kernel_rfl) (Wf.mk' (by kernel_rfl) (ur (ur (ur (up (up (ua (ua (UAll.nil)))))))) (by kernel_rfl) (by kernel_rfl)) hO hA ?_ ?_
 exact OblsR.m h5 <| OblsR.m h0 <| OblsR.m h6 <| OblsR.p (fun A' R' w' ho hd => of_slice_str_lo ((f_v0.stp ho.stp).eq (hd.g 0 rfl)) (hd.g 1 rfl) Tryz.underlying9  e17) <| OblsR.p (fun A' R' w' ho hd => of_build [_] (E := eStr) ⟨(hd.g 0 rfl), trivial⟩ Tryz.underlying46 Tryz.sizeOf9 Tryz.zeroValue9 rfl rfl rfl ho.av) <| OblsR.cons (OblR.took 0 _ _ rfl rfl rfl rfl rfl fun A' R' w' ho hd u hok hav hin hop hds => by have a0 : R' 29 = uo_u1 := hd.g 0 rfl; have a1 : Rep (eSl eStr) A' w' (R' 33) ([(subL p0 s4.1 (p0.length : Int))] : List (List UInt8)) := hd.g 1 rfl; exact took_append (a0.trans (hin _ rfl).symm) hok hav (Nat.le_trans hF.size ho.ch.size) a1 Tryz.underlying46 el_9 e18) <| OblsR.cons (OblR.took 6 _ _ rfl rfl rfl rfl rfl fun A' R' w' ho hd u hok hav hin hop hds => by exact took_assign (hop _ _ rfl rfl rfl rfl).symm hok hav) <| OblsR.nil
 intro done ρ σ A R w hdn hI
 obtain ⟨u19, e_u19⟩ : ∃ u, ρ 7 = u := ⟨_, rfl⟩
 have h4 : R 4 = u19 := (hI.opvR hdn 7 6 rfl rfl rfl rfl rfl).symm.trans e_u19
 replace hAA := hI.low' hAA hA0 (hO.ge (⟨rfl, trivial⟩))
 replace hF : Fr w0 w := hF.tr hI.ch (hO.ge (⟨rfl, trivial⟩))
 replace hO := hI.left hdn [(7, ob u19 (.vec w0.heap.size 9 eStr (s4.2 ++ ([(subL p0 s4.1 (p0.length : Int))] : List (List UInt8)))))] ⟨rfl, rfl, e_u19, rfl, rfl, trivial⟩
 replace hA := hI.avok
 clear hI
 refine HT.ret ?_
 obtain rfl := Option.some.inj hr
 exact ⟨.inr rfl, [R 4], ⟨rfl, trivial⟩, (own_post (hO.ok 0 _ rfl) hAA h4), hF⟩
theorem M_spec_l2Cut_okR {fu : Nat} {A0 : Av} {p0 : List UInt8} {p1 : Int} {r : List (List UInt8)} (hr : M_spec_l2Cut fu p0 p1 = some r) {w : World} {v0 : Value} {v1 : Value} (hA : AvOK A0 w) (h0 : Rep eStr A0 w v0 p0) (h1 : v1 = .int .u8 p1) :
 Calls Tryz.prog 160 #[v0, v1] w fun e w' => ∃ v, e = .returned v ∧ (Rep (eSl eStr) A0 w' v r ∧ Fr w w') := by
 refine Calls.mono (M_spec_l2Cut_ok hr hA h0 h1) ?_
 rintro e w' ⟨v, he, hv, hf⟩
 exact ⟨v, he, vec_rep hv (fun b o h => .inl h) hA, hf⟩
def M_spec_l3Put_L0 (fu : Nat) (p0 : List (List UInt8)) (p1 : List UInt8) : Nat → Int → Option Int
 | 0, _ => none
 | k + 1, y4 =>
 ck (!(true && ((decide (y4 < (p0.length : Int))) == true)) || inR y4 p0.length) <|
 bd ((decide (y4 < (p0.length : Int))) && (bLt (gtD p0 y4) p1)) fun x6 =>
 bif x6 then (
 ck (i64B (y4 + 1)) <|
 M_spec_l3Put_L0 fu p0 p1 k (y4 + 1)
 ) else (
 some y4
 )
def M_spec_l3Put (fu : Nat) (p0 : List (List UInt8)) (p1 : List UInt8) (p2 : Bool) : Option (List (List UInt8)) :=
 cl true (M_spec_l3Put_L0 fu p0 p1 fu 0) fun s3 =>
 bd ((!p2) && (decide (s3 < (p0.length : Int)))) fun x10 =>
 ck (!(true && (x10 == true)) || inR s3 p0.length) <|
 bd (x10 && ((gtD p0 s3) == p1)) fun x13 =>
 bif x13 then (
 some p0
 ) else (
 ck (subR 0 s3 p0.length) <|
 bd (s3.toNat - (0 : Int).toNat) fun x17 =>
 ck (lenOK (([] : List (List UInt8)).length + (subL p0 0 s3).length)) <|
 ck (lenOK ((([] : List (List UInt8)) ++ (subL p0 0 s3)).length + ([p1] : List (List UInt8)).length)) <|
 ck (subR s3 (p0.length : Int) p0.length) <|
 bd ((p0.length : Int).toNat - s3.toNat) fun x22 =>
 ck (lenOK (((([] : List (List UInt8)) ++ (subL p0 0 s3)) ++ ([p1] : List (List UInt8))).length + (subL p0 s3 (p0.length : Int)).length)) <|
 some (((([] : List (List UInt8)) ++ (subL p0 0 s3)) ++ ([p1] : List (List UInt8))) ++ (subL p0 s3 (p0.length : Int)))
 )
theorem M_spec_l3Put_ok {fu : Nat} {A0 : Av} {p0 : List (List UInt8)} {p1 : List UInt8} {p2 : Bool} {r : List (List UInt8)} (hr : M_spec_l3Put fu p0 p1 p2 = some r) {w : World} {v0 : Value} {v1 : Value} {v2 : Value} {B0 : Nat} (hA : AvOK A0 w) (hN : ∀ b o, A0 b o → ¬ ownsB v0 b) (hB0 : B0 ≤ w.heap.size) (h0 : (Res.vec B0 9 eStr p0).ok A0 v0 w) (h1 : Rep eStr A0 w v1 p1) (h2 : v2 = .bool p2) :
 Calls Tryz.prog 109 #[v0, v1, v2] w fun e w' => ∃ v, e = .returned v ∧ Took (addA A0 v0) true v0 (.vec B0 9 eStr r) (fun _ => .any) w v w' := by
 unfold M_spec_l3Put at hr
 obtain ⟨w0, hw0⟩ : ∃ w0, w0 = w := ⟨_, rfl⟩
 have hF : Ch (ownsB v0) w0 w := hw0 ▸ Ch.refl _ _
 replace hB0 : B0 ≤ w0.heap.size := hw0 ▸ hB0
 have hA0 : ∀ b o, A0 b o → b < w0.heap.size := fun b o h => hw0 ▸ hA b o h
 have hA00 : AvOK A0 w0 := hA0
 rw [show Took (addA A0 v0) true v0 (.vec B0 9 eStr r) (fun _ => .any) w = Took (addA A0 v0) true v0 (.vec B0 9 eStr r) (fun _ => .any) w0 from hw0 ▸ rfl]
 clear hw0
 obtain ⟨A, hAe⟩ : ∃ A, A = addA A0 v0 := ⟨_, rfl⟩
 have hAA : ∀ b o, A0 b o → A b o := fun b o h => hAe ▸ .inl h
 replace hA : AvOK A w := hAe ▸ hA.one h0
 have hO : IniOK [ob v0 (.vec B0 9 eStr p0)] A w := hAe ▸ IniOK.one h0 (fun _ _ _ _ _ h => h)
 refine calls_of_HT2 [.tmp 6] Tryz.func109 Tryz.ntmps109 (by decide) rfl rfl (Nat.le_of_ble_eq_true rfl) ?_
 intro R hR
 replace h0 : R 0 = v0 := hR 0 _ rfl
 have f_v1 : Rep eStr A w v1 p1 := h1
 replace h1 : R 1 = v1 := hR 1 _ rfl
 replace h2 : R 2 = .bool p2 := (hR 2 _ rfl).trans h2
 clear hR hAe
 refine HT.seq ?_
 refine HT.t (eA :: []) ?_ ?_
 exact Obls.p (fun R' w' hw hs hd => of_assign trivial) <| Obls.nil
 intro R w hw hs hF'
 obtain ⟨h0, h1, h2⟩ := k3 hs h0 h1 h2
 replace f_v1 := f_v1.fr hw
 replace hO := hO.fr hw
 replace hA := hA.fr hw.size
 replace hF := hF.tr (hw.ch noB) fun _ h => False.elim h
 refine HT.seq ?_
 refine HT.t (eI 0 :: []) ?_ ?_
 exact Obls.p (fun R' w' hw hs hd => of_assign rfl) <| Obls.nil
 intro R w hw hs hF'
 obtain ⟨h0, h1, h2⟩ := k3 hs h0 h1 h2
 have h7 := hF'.r 0 rfl
 replace f_v1 := f_v1.fr hw
 replace hO := hO.fr hw
 replace hA := hA.fr hw.size
 replace hF := hF.tr (hw.ch noB) fun _ h => False.elim h
 obtain ⟨rl1, q2, hr⟩ := cl_some hr
 replace q2 := q2 rfl
 refine HT.cut (fun R w => ∃ A : Av, ∃ (s3 : Int), rl1 = s3 ∧ AvOK A w ∧ Ch (ownsB v0) w0 w ∧ (∀ b o, A0 b o → A b o) ∧ IniOK [ob v0 (.vec B0 9 eStr p0)] A w ∧ R 0 = v0 ∧ R 1 = v1 ∧ R 2 = .bool p2 ∧ R 7 = .int .i64 s3 ∧ Rep eStr A w v1 p1) ?_ ?_
 refine HT.block ?_
 refine HT.loop (fun k R w => ∃ A : Av, ∃ (y4 : Int), M_spec_l3Put_L0 fu p0 p1 k y4 = some rl1 ∧ AvOK A w ∧ Ch (ownsB v0) w0 w ∧ (∀ b o, A0 b o → A b o) ∧ IniOK [ob v0 (.vec B0 9 eStr p0)] A w ∧ R 0 = v0 ∧ R 1 = v1 ∧ R 2 = .bool p2 ∧ R 7 = .int .i64 y4 ∧ Rep eStr A w v1 p1) fu ⟨_, _, q2, hA, hF, hAA, hO, h0, h1, h2, h7, f_v1⟩ ?_
 have hr0 := hr; clear hr q2
 rintro k R w ⟨A, y4, hr, hA, hF, hAA, hO, h0, h1, h2, h7, f_v1⟩
 rcases k with _ | k
 cases (show none = some _ from hr)
 rw [M_spec_l3Put_L0] at hr
 refine HT.seq ?_
 refine HT.seq ?_
 obtain ⟨e5, hr⟩ := ck_some hr
 obtain ⟨x6, q7, hr⟩ := bd_some hr
 refine HT.t (eI y4 :: eR v0 :: eI (p0.length : Int) :: eB (decide (y4 < (p0.length : Int))) :: eB (decide (y4 < (p0.length : Int))) :: gR (true && ((decide (y4 < (p0.length : Int))) == true)) v0 :: gI (true && ((decide (y4 < (p0.length : Int))) == true)) y4 :: gR (true && ((decide (y4 < (p0.length : Int))) == true)) (vptr v0 (y4.toNat * 1)) :: gF (true && ((decide (y4 < (p0.length : Int))) == true)) (.rep eStr A (gtD p0 y4)) :: gR (true && ((decide (y4 < (p0.length : Int))) == true)) v1 :: gB (true && ((decide (y4 < (p0.length : Int))) == true)) (bLt (gtD p0 y4) p1) :: eB x6 :: []) ?_ ?_
 exact Obls.m h7 <| Obls.m h0 <| Obls.p (fun R' w' hw hs hd => of_len_vec (hO.ok 0 _ rfl).1 (hd.g 0 rfl) Tryz.underlying46) <| Obls.p (fun R' w' hw hs hd => of_lss (hd.g 0 rfl) (hd.g 1 rfl)) <| Obls.v <| Obls.g 4 true (fun hg R' w' hw hs hd => of_move ((hs 0 rfl).trans h0)) <| Obls.g 4 true (fun hg R' w' hw hs hd => of_move ((hs 7 rfl).trans h7)) <| Obls.g 4 true (fun hg R' w' hw hs hd => of_indexAddr_vec (hO.ok 0 _ rfl).1 (hd.h 0 hg rfl) (hd.h 1 hg rfl) Tryz.underlying46 Tryz.sizeOf9 (gd e5 hg) rfl) <| Obls.g 4 true (fun hg R' w' hw hs hd => (of_load_vec ((hO.fr hw).ok 0 _ rfl).1 (hd.h 0 hg rfl) (gd e5 hg) rfl (Fld.id _) rfl Tryz.isAgg9 Tryz.sizeOf9)) <| Obls.g 4 true (fun hg R' w' hw hs hd => of_move ((hs 1 rfl).trans h1)) <| Obls.g 4 true (fun hg R' w' hw hs hd => of_slss (hd.h 0 hg rfl) ((f_v1.fr hw).eq (hd.h 1 hg rfl))) <| Obls.p (fun R' w' hw hs hd => of_pick (decide (y4 < (p0.length : Int))) (hd.g 0 rfl) (fun hc => by have a1 : R' 18 = .bool (bLt (gtD p0 y4) p1) := hd 1 _ _ _ rfl rfl rfl rfl (g_and rfl (beq_of hc)); show _ = Value.bool x6; rw [q7, hc]; exact a1) (fun hc => by show _ = Value.bool x6; rw [q7, hc]; exact rfl)) <| Obls.nil
 intro R w hw hs hF'
 obtain ⟨h0, h1, h2, h7⟩ := k4 hs h0 h1 h2 h7
 have h19 := hF'.r 11 rfl
 replace f_v1 := f_v1.fr hw
 replace hO := hO.fr hw
 replace hA := hA.fr hw.size
 replace hF := hF.tr (hw.ch noB) fun _ h => False.elim h
 refine HT.cond x6 h19 (fun c8 => ?_) (fun c8 => ?_)
 have hr := cnd_t c8 hr
 refine HT.skip ?_
 refine HT.block ?_
 obtain ⟨e9, hr⟩ := ck_some hr
 refine HT.t (eI y4 :: eI (y4 + (1 : Int)) :: eI (y4 + (1 : Int)) :: []) ?_ ?_
 exact Obls.m h7 <| Obls.p (fun R' w' hw hs hd => of_add (hd.g 0 rfl) rfl e9) <| Obls.a <| Obls.nil
 intro R w hw hs hF'
 obtain ⟨h0, h1, h2⟩ := k3 hs h0 h1 h2
 have h7 := hF'.r 2 rfl
 replace f_v1 := f_v1.fr hw
 replace hO := hO.fr hw
 replace hA := hA.fr hw.size
 replace hF := hF.tr (hw.ch noB) fun _ h => False.elim h
 exact Exists.intro k (And.intro (Nat.lt_succ_self k) ⟨_, _, hr, hA, hF, hAA, hO, h0, h1, h2, h7, f_v1⟩)
 have hr := cnd_f c8 hr
 refine HT.exit ?_
 obtain rfl := Option.some.inj hr
 exact Exists.intro _ ⟨_, rfl, hA, hF, hAA, hO, h0, h1, h2, h7, f_v1⟩
 rintro R w ⟨A, s3, es, hA, hF, hAA, hO, h0, h1, h2, h7, f_v1⟩
 obtain rfl := es.symm
 refine HT.seq ?_
 refine HT.seq ?_
 obtain ⟨x10, q11, hr⟩ := bd_some hr
 obtain ⟨e12, hr⟩ := ck_some hr
 obtain ⟨x13, q14, hr⟩ := bd_some hr
 refine HT.t (eB p2 :: eB (!p2) :: eB (!p2) :: gI (true && ((!p2) == true)) s3 :: gR (true && ((!p2) == true)) v0 :: gI (true && ((!p2) == true)) (p0.length : Int) :: gB (true && ((!p2) == true)) (decide (s3 < (p0.length : Int))) :: eB x10 :: eB x10 :: gR (true && (x10 == true)) v0 :: gI (true && (x10 == true)) s3 :: gR (true && (x10 == true)) (vptr v0 (s3.toNat * 1)) :: gF (true && (x10 == true)) (.rep eStr A (gtD p0 s3)) :: gR (true && (x10 == true)) v1 :: gB (true && (x10 == true)) ((gtD p0 s3) == p1) :: eB x13 :: []) ?_ ?_
 exact Obls.m h2 <| Obls.p (fun R' w' hw hs hd => of_not (hd.g 0 rfl)) <| Obls.v <| Obls.g 2 true (fun hg R' w' hw hs hd => of_move ((hs 7 rfl).trans h7)) <| Obls.g 2 true (fun hg R' w' hw hs hd => of_move ((hs 0 rfl).trans h0)) <| Obls.g 2 true (fun hg R' w' hw hs hd => of_len_vec (hO.ok 0 _ rfl).1 (hd.h 0 hg rfl) Tryz.underlying46) <| Obls.g 2 true (fun hg R' w' hw hs hd => of_lss (hd.h 0 hg rfl) (hd.h 1 hg rfl)) <| Obls.p (fun R' w' hw hs hd => of_pick (!p2) (hd.g 0 rfl) (fun hc => by have a1 : R' 28 = .bool (decide (s3 < (p0.length : Int))) := hd 1 _ _ _ rfl rfl rfl rfl (g_and rfl (beq_of hc)); show _ = Value.bool x10; rw [q11, hc]; exact a1) (fun hc => by show _ = Value.bool x10; rw [q11, hc]; exact rfl)) <| Obls.v <| Obls.g 8 true (fun hg R' w' hw hs hd => of_move ((hs 0 rfl).trans h0)) <| Obls.g 8 true (fun hg R' w' hw hs hd => of_move ((hs 7 rfl).trans h7)) <| Obls.g 8 true (fun hg R' w' hw hs hd => of_indexAddr_vec (hO.ok 0 _ rfl).1 (hd.h 0 hg rfl) (hd.h 1 hg rfl) Tryz.underlying46 Tryz.sizeOf9 (gd e12 hg) rfl) <| Obls.g 8 true (fun hg R' w' hw hs hd => (of_load_vec ((hO.fr hw).ok 0 _ rfl).1 (hd.h 0 hg rfl) (gd e12 hg) rfl (Fld.id _) rfl Tryz.isAgg9 Tryz.sizeOf9)) <| Obls.g 8 true (fun hg R' w' hw hs hd => of_move ((hs 1 rfl).trans h1)) <| Obls.g 8 true (fun hg R' w' hw hs hd => of_seql (hd.h 0 hg rfl) ((f_v1.fr hw).eq (hd.h 1 hg rfl))) <| Obls.p (fun R' w' hw hs hd => of_pick x10 (hd.g 0 rfl) (fun hc => by have a1 : R' 36 = .bool ((gtD p0 s3) == p1) := hd 1 _ _ _ rfl rfl rfl rfl (g_and rfl (beq_of hc)); show _ = Value.bool x13; rw [q14, hc]; exact a1) (fun hc => by show _ = Value.bool x13; rw [q14, hc]; exact rfl)) <| Obls.nil
 intro R w hw hs hF'
 obtain ⟨h0, h1, h7⟩ := k3 hs h0 h1 h7
 have h37 := hF'.r 15 rfl
 replace f_v1 := f_v1.fr hw
 replace hO := hO.fr hw
 replace hA := hA.fr hw.size
 replace hF := hF.tr (hw.ch noB) fun _ h => False.elim h
 refine HT.cond x13 h37 (fun c15 => ?_) (fun c15 => ?_)
 have hr := cnd_t c15 hr
 refine HT.seq ?_
 refine HT.t (eR v0 :: eR v0 :: []) ?_ ?_
 exact Obls.m h0 <| Obls.a <| Obls.nil
 intro R w hw hs hF'
 have h6 := hF'.r 1 rfl
 replace hO := hO.fr hw
 replace hA := hA.fr hw.size
 replace hF := hF.tr (hw.ch noB) fun _ h => False.elim h
 refine HT.ret ?_
 obtain rfl := Option.some.inj hr
 exact ⟨.inr rfl, [R 6], ⟨rfl, trivial⟩, by show Took _ true _ _ _ w0 (R 6) w; rw [h6]; exact took_post (fun k h o => .inr h) hF (hO.ok 0 _ rfl).1 (hO.own_ge (⟨.inr (fun k h => .inr h), trivial⟩) (i := 0) rfl) (fun _ _ _ _ _ h => h)⟩
 have hr := cnd_f c15 hr
 refine HT.skip ?_
 refine HT.seq ?_
 obtain ⟨e16, hr⟩ := ck_some hr
 obtain ⟨x17, q18, hr⟩ := bd_some hr
 obtain ⟨e19, hr⟩ := ck_some hr
 obtain ⟨e20, hr⟩ := ck_some hr
 obtain ⟨e21, hr⟩ := ck_some hr
 obtain ⟨x22, q23, hr⟩ := bd_some hr
 obtain ⟨e24, hr⟩ := ck_some hr
 refine HT.drawR [ob v0 (.vec B0 9 eStr p0)] (⟨_, true, [], some (.vec w0.heap.size 9 eStr ([] : List (List UInt8))), true, fun A => .any⟩ :: rR v0 :: rI s3 :: rR (vsub v0 (0 : Int).toNat x17 1) :: ⟨_, true, [1], some (.vec w0.heap.size 9 eStr (([] : List (List UInt8)) ++ (subL p0 0 s3))), true, fun A => .any⟩ :: rR v1 :: (rF fun A => .rep (eSl eStr) A ([p1] : List (List UInt8))) :: ⟨_, true, [5], some (.vec w0.heap.size 9 eStr ((([] : List (List UInt8)) ++ (subL p0 0 s3)) ++ ([p1] : List (List UInt8)))), true, fun A => .any⟩ :: rR v0 :: rI s3 :: rR (vsub v0 s3.toNat x22 1) :: ⟨_, true, [8], some (.vec w0.heap.size 9 eStr (((([] : List (List UInt8)) ++ (subL p0 0 s3)) ++ ([p1] : List (List UInt8))) ++ (subL p0 s3 (p0.length : Int)))), true, fun A => .any⟩ :: ⟨_, true, [12], some (.vec w0.heap.size 9 eStr (((([] : List (List UInt8)) ++ (subL p0 0 s3)) ++ ([p1] : List (List UInt8))) ++ (subL p0 s3 (p0.length : Int)))), true, fun A => .any⟩ :: []) (by kernel_rfl) (by kernel_rfl) (by kernel_rfl) (Wf.mk' (by kernel_rfl) (ua (ur (ur (ur (ua (ur (up (ua (ur (ur (ur (ua (ua (UAll.nil)))))))))))))) (by kernel_rfl) (by kernel_rfl)) hO hA ?_ ?_
 exact OblsR.cons (OblR.made _ rfl rfl rfl rfl fun A' R' w' ho hd => by exact made_build [] (E := eStr) trivial Tryz.underlying46 Tryz.sizeOf9 Tryz.zeroValue9 rfl rfl rfl (Nat.le_trans hF.size ho.ch.size)) <| OblsR.m h0 <| OblsR.m h7 <| OblsR.p (fun A' R' w' ho hd => (q18 ▸ of_view_hi (hO.ok 0 _ rfl).1 (hd.g 0 rfl) (hd.g 1 rfl) Tryz.underlying46 Tryz.sizeOf9 e16)) <| OblsR.cons (OblR.took 1 _ _ rfl rfl rfl rfl rfl fun A' R' w' ho hd u hok hav hin hop hds => by have a1 : R' 42 = (vsub v0 (0 : Int).toNat x17 1) := hd.g 1 rfl; have ra1 : Rep (eSl eStr) A0 w' (R' 42) _ := (view_rep (vec_repK (ho.rd 0 _ rfl rfl) (ho.lowK hAA hA0 hN (hO.geK (⟨.inr (fun k h => .inr h), trivial⟩))) hA0 hN (fun k h => .inr h)) e16 q18 rfl).eq a1; exact took_append1 (hop _ _ rfl rfl rfl rfl).symm hok hav (Nat.le_trans hF.size ho.ch.size) ra1 Tryz.underlying46 el_9 e19 (fun _ _ h => h)) <| OblsR.m h1 <| OblsR.p (fun A' R' w' ho hd => of_build [_] (E := eStr) ⟨((f_v1.stp ho.stp).eq (hd.g 0 rfl)), trivial⟩ Tryz.underlying46 Tryz.sizeOf9 Tryz.zeroValue9 rfl rfl rfl ho.av) <| OblsR.cons (OblR.took 5 _ _ rfl rfl rfl rfl rfl fun A' R' w' ho hd u hok hav hin hop hds => by have a1 : Rep (eSl eStr) A' w' (R' 45) ([p1] : List (List UInt8)) := hd.g 1 rfl; exact took_append (hop _ _ rfl rfl rfl rfl).symm hok hav (Nat.le_trans hF.size ho.ch.size) a1 Tryz.underlying46 el_9 e20) <| OblsR.m h0 <| OblsR.m h7 <| OblsR.p (fun A' R' w' ho hd => (q23 ▸ of_view (hO.ok 0 _ rfl).1 (hd.g 0 rfl) (hd.g 1 rfl) Tryz.underlying46 Tryz.sizeOf9 e21)) <| OblsR.cons (OblR.took 8 _ _ rfl rfl rfl rfl rfl fun A' R' w' ho hd u hok hav hin hop hds => by have a1 : R' 49 = (vsub v0 s3.toNat x22 1) := hd.g 1 rfl; have ra1 : Rep (eSl eStr) A0 w' (R' 49) _ := (view_rep (vec_repK (ho.rd 0 _ rfl rfl) (ho.lowK hAA hA0 hN (hO.geK (⟨.inr (fun k h => .inr h), trivial⟩))) hA0 hN (fun k h => .inr h)) e21 q23 rfl).eq a1; exact took_append1 (hop _ _ rfl rfl rfl rfl).symm hok hav (Nat.le_trans hF.size ho.ch.size) ra1 Tryz.underlying46 el_9 e24 (fun _ _ h => h)) <| OblsR.cons (OblR.took 12 _ _ rfl rfl rfl rfl rfl fun A' R' w' ho hd u hok hav hin hop hds => by exact took_assign (hop _ _ rfl rfl rfl rfl).symm hok hav) <| OblsR.nil
 intro done ρ σ A R w hdn hI
 have z25 := hI.inivR 0 rfl
 obtain ⟨u26, e_u26⟩ : ∃ u, ρ 13 = u := ⟨_, rfl⟩
 have h6 : R 6 = u26 := (hI.opvR hdn 13 12 rfl rfl rfl rfl rfl).symm.trans e_u26
 replace hAA := hI.lowK hAA hA0 hN (hO.geK (⟨.inr (fun k h => .inr h), trivial⟩))
 replace hF : Ch (ownsB v0) w0 w := hF.tr hI.ch (hO.geK (⟨.inr (fun k h => .inr h), trivial⟩))
 replace hO := hI.left hdn [(13, ob u26 (.vec w0.heap.size 9 eStr (((([] : List (List UInt8)) ++ (subL p0 0 s3)) ++ ([p1] : List (List UInt8))) ++ (subL p0 s3 (p0.length : Int)))))] ⟨rfl, rfl, e_u26, rfl, rfl, trivial⟩
 replace hA := hI.avok
 clear hI
 refine HT.ret ?_
 obtain rfl := Option.some.inj hr
 exact ⟨.inr rfl, [R 6], ⟨rfl, trivial⟩, by show Took _ true _ _ _ w0 (R 6) w; rw [h6]; exact took_post (fun k h o => .inr h) hF (vec_base hB0 (hO.ok 0 _ rfl).1) (hO.own_ge (⟨.inl rfl, trivial⟩) (i := 0) rfl) (fun _ _ _ _ _ h => h)⟩
def M_spec_Tokens_L0 (fu : Nat) (x4 : List (List UInt8)) : Nat → Int → (List (List UInt8)) → Option (List (List UInt8))
 | 0, _, _ => none
 | k + 1, y10, y11 =>
 bif (decide (y10 < (x4.length : Int))) then (
 ck (inR y10 x4.length) <|
 bif (!((gtD x4 y10) == ([] : List UInt8))) then (
 ck (inR y10 x4.length) <|
 cl true (M_spec_l3Put fu y11 (gtD x4 y10) false) fun x16 =>
 ck (i64B (y10 + 1)) <|
 M_spec_Tokens_L0 fu x4 k (y10 + 1) x16
 ) else (
 ck (i64B (y10 + 1)) <|
 M_spec_Tokens_L0 fu x4 k (y10 + 1) y11
 )
 ) else (
 some y11
 )
def M_spec_Tokens (fu : Nat) (p0 : List UInt8) : Option (List (List UInt8)) :=
 cl true (M_spec_Normalize fu p0) fun x2 =>
 cl true (M_spec_l2Cut fu x2 32) fun x4 =>
 cl true (M_spec_Tokens_L0 fu x4 fu 0 ([] : List (List UInt8))) fun s9 =>
 some s9
theorem M_spec_Tokens_ok {fu : Nat} {A0 : Av} {p0 : List UInt8} {r : List (List UInt8)} (hr : M_spec_Tokens fu p0 = some r) {w : World} {v0 : Value} (hA : AvOK A0 w) (h0 : Rep eStr A0 w v0 p0) :
 Calls Tryz.prog 111 #[v0] w fun e w' => ∃ v, e = .returned v ∧ ((Res.vec w.heap.size 9 eStr r).ok (addA A0 v) v w' ∧ Fr w w') := by
 unfold M_spec_Tokens at hr
 obtain ⟨w0, hw0⟩ : ∃ w0, w0 = w := ⟨_, rfl⟩
 have hF : Fr w0 w := hw0 ▸ Fr.refl _
 have hA0 : ∀ b o, A0 b o → b < w0.heap.size := fun b o h => hw0 ▸ hA b o h
 have hA00 : AvOK A0 w0 := hA0
 rw [show w.heap.size = w0.heap.size from hw0 ▸ rfl]
 rw [show Fr w = Fr w0 from hw0 ▸ rfl]
 clear hw0
 obtain ⟨A, hAe⟩ : ∃ A, A = A0 := ⟨_, rfl⟩
 have hAA : ∀ b o, A0 b o → A b o := fun b o h => hAe ▸ h
 replace hA : AvOK A w := hAe ▸ hA
 have hO : IniOK [] A w := IniOK.nil
 refine calls_of_HT2 [.tmp 2] Tryz.func111 Tryz.ntmps111 (by decide) rfl rfl (Nat.le_of_ble_eq_true rfl) ?_
 intro R hR
 have f_v0 : Rep eStr A w v0 p0 := hAe ▸ h0
 replace h0 : R 0 = v0 := hR 0 _ rfl
 clear hR hAe
 refine HT.seq ?_
 refine HT.u hA hF (eA :: []) ?_ ?_
 exact Obls.p (fun R' w' hw hs hd => of_assign trivial) <| Obls.nil
 intro R w hw hs hF' hA hF
 replace h0 := k1 hs h0
 replace f_v0 := f_v0.fr hw
 replace hO := hO.fr hw
 refine HT.seq ?_
 refine HT.textR [] (⟨_, true, [], some (.vec w0.heap.size 9 eStr ([] : List (List UInt8))), true, fun A => .any⟩ :: ⟨_, true, [0], some (.vec w0.heap.size 9 eStr ([] : List (List UInt8))), true, fun A => .any⟩ :: []) (by kernel_rfl) (by kernel_rfl) (Wf.mk' (by kernel_rfl) (ua (ua (UAll.nil))) (by kernel_rfl) (by kernel_rfl)) hO hA ?_ ?_
 exact OblsR.cons (OblR.made _ rfl rfl rfl rfl fun A' R' w' ho hd => by exact made_build [] (E := eStr) trivial Tryz.underlying46 Tryz.sizeOf9 Tryz.zeroValue9 rfl rfl rfl (Nat.le_trans hF.size ho.ch.size)) <| OblsR.cons (OblR.took 0 _ _ rfl rfl rfl rfl rfl fun A' R' w' ho hd u hok hav hin hop hds => by exact took_assign (hop _ _ rfl rfl rfl rfl).symm hok hav) <| OblsR.nil
 intro done ρ σ A R w hdn hI
 replace h0 := k1 hI.rg h0
 obtain ⟨u1, e_u1⟩ : ∃ u, ρ 1 = u := ⟨_, rfl⟩
 have h3 : R 3 = u1 := (hI.opvR hdn 1 1 rfl rfl rfl rfl rfl).symm.trans e_u1
 replace f_v0 := f_v0.stp hI.stp
 replace hAA := hI.low' hAA hA0 (hO.ge (trivial))
 replace hF : Fr w0 w := hF.tr hI.ch (hO.ge (trivial))
 replace hO := hI.left hdn [(1, ob u1 (.vec w0.heap.size 9 eStr ([] : List (List UInt8))))] ⟨rfl, rfl, e_u1, rfl, rfl, trivial⟩
 replace hA := hI.avok
 clear hI
 refine HT.seq ?_
 obtain ⟨x2, q3, hr⟩ := cl_some hr
 obtain ⟨x4, q5, hr⟩ := cl_some hr
 refine HT.u hA hF (eR v0 :: eF (.rep eStr A x2) :: eF (.rep (eSl eStr) A x4) :: eF (.rep (eSl eStr) A x4) :: []) ?_ ?_
 exact Obls.m h0 <| Obls.p (fun R' w' hw hs hd => of_call Tryz.call60 (M_spec_Normalize_ok (q3 rfl) (hA.fr hw.size) ((f_v0.fr hw).eq (hd.g 0 rfl)))) <| Obls.p (fun R' w' hw hs hd => of_call Tryz.call160 (M_spec_l2Cut_okR (q5 rfl) (hA.fr hw.size) (hd.g 0 rfl) rfl)) <| Obls.p (fun R' w' hw hs hd => of_assign (hd.g 0 rfl)) <| Obls.nil
 intro R w hw hs hF' hA hF
 replace h3 := k1 hs h3
 obtain ⟨u6, h4, f_u6⟩ : ∃ u, R 4 = u ∧ Rep (eSl eStr) A w u x4 := ⟨_, rfl, hF' 3 _ _ rfl rfl rfl⟩
 replace hO := hO.fr hw
 refine HT.seq ?_
 refine HT.seq ?_
 refine HT.u hA hF (eI 0 :: []) ?_ ?_
 exact Obls.p (fun R' w' hw hs hd => of_assign rfl) <| Obls.nil
 intro R w hw hs hF' hA hF
 obtain ⟨h3, h4⟩ := k2 hs h3 h4
 have h5 := hF'.r 0 rfl
 replace f_u6 := f_u6.fr hw
 replace hO := hO.fr hw
 obtain ⟨rl7, q8, hr⟩ := cl_some hr
 replace q8 := q8 rfl
 refine HT.cut0 (fun R w => ∃ A : Av, ∃ (s9 : (List (List UInt8))) (uo_u1 : Value), rl7 = s9 ∧ AvOK A w ∧ Fr w0 w ∧ (∀ b o, A0 b o → A b o) ∧ IniOK [ob uo_u1 (.vec w0.heap.size 9 eStr s9)] A w ∧ R 3 = uo_u1) ?_ ?_
 refine HT.block ?_
 refine HT.loop (fun k R w => ∃ A : Av, ∃ (y10 : Int) (y11 : List (List UInt8)) (ul_u1 : Value), M_spec_Tokens_L0 fu x4 k y10 y11 = some rl7 ∧ AvOK A w ∧ Fr w0 w ∧ (∀ b o, A0 b o → A b o) ∧ IniOK [ob ul_u1 (.vec w0.heap.size 9 eStr y11)] A w ∧ R 3 = ul_u1 ∧ R 4 = u6 ∧ R 5 = .int .i64 y10 ∧ Rep (eSl eStr) A w u6 x4) fu ⟨_, _, _, u1, q8, hA, hF, hAA, hO, h3, h4, h5, f_u6⟩ ?_
 have hr0 := hr; clear hr q8
 rintro k R w ⟨A, y10, y11, ul_u1, hr, hA, hF, hAA, hO, h3, h4, h5, f_u6⟩
 rcases k with _ | k
 cases (show none = some _ from hr)
 rw [M_spec_Tokens_L0] at hr
 refine HT.seq ?_
 refine HT.seq ?_
 refine HT.u hA hF (eI y10 :: eR u6 :: eI (x4.length : Int) :: eB (decide (y10 < (x4.length : Int))) :: []) ?_ ?_
 exact Obls.m h5 <| Obls.m h4 <| Obls.p (fun R' w' hw hs hd => of_len_sl (aT := #[]) ((f_u6.fr hw).eq (hd.g 0 rfl)) Tryz.underlying46) <| Obls.p (fun R' w' hw hs hd => of_lss (hd.g 0 rfl) (hd.g 1 rfl)) <| Obls.nil
 intro R w hw hs hF' hA hF
 obtain ⟨h3, h4, h5⟩ := k3 hs h3 h4 h5
 have h13 := hF'.r 3 rfl
 replace f_u6 := f_u6.fr hw
 replace hO := hO.fr hw
 refine HT.cond (decide (y10 < (x4.length : Int))) h13 (fun c12 => ?_) (fun c12 => ?_)
 have hr := cnd_t c12 hr
 refine HT.skip ?_
 refine HT.seq ?_
 refine HT.block ?_
 refine HT.seq ?_
 obtain ⟨e13, hr⟩ := ck_some hr
 refine HT.u hA hF (eR u6 :: eI y10 :: eF (.qtr eStr A (gtD x4 y10)) :: eF (.rep eStr A (gtD x4 y10)) :: eB (!((gtD x4 y10) == ([] : List UInt8))) :: []) ?_ ?_
 exact Obls.m h4 <| Obls.m h5 <| Obls.p (fun R' w' hw hs hd => of_indexAddr ((f_u6.fr hw).eq (hd.g 0 rfl)) (hd.g 1 rfl) Tryz.underlying46 Tryz.sizeOf9 e13) <| Obls.p (fun R' w' hw hs hd => (of_load (QRep.ptr (hd.g 0 rfl)) Tryz.isAgg9 Tryz.sizeOf9)) <| Obls.p (fun R' w' hw hs hd => of_sneq (hd.g 0 rfl) ⟨_, rfl, ⟨_, rfl, rfl, by decide⟩⟩) <| Obls.nil
 intro R w hw hs hF' hA hF
 obtain ⟨h3, h4, h5⟩ := k3 hs h3 h4 h5
 have h20 := hF'.r 4 rfl
 replace f_u6 := f_u6.fr hw
 replace hO := hO.fr hw
 refine HT.cond (!((gtD x4 y10) == ([] : List UInt8))) h20 (fun c14 => ?_) (fun c14 => ?_)
 have hr := cnd_t c14 hr
 obtain ⟨e15, hr⟩ := ck_some hr
 obtain ⟨x16, q17, hr⟩ := cl_some hr
 refine HT.textR [ob ul_u1 (.vec w0.heap.size 9 eStr y11)] (rR ul_u1 :: rR u6 :: rI y10 :: (rF fun A => .qtr eStr A (gtD x4 y10)) :: (rF fun A => .rep eStr A (gtD x4 y10)) :: ⟨_, true, [0], some (.vec w0.heap.size 9 eStr x16), true, fun A => .any⟩ :: ⟨_, true, [6], some (.vec w0.heap.size 9 eStr x16), true, fun A => .any⟩ :: []) (by kernel_rfl) (by kernel_rfl) (Wf.mk' (by kernel_rfl) (ur (ur (ur (UAll.cons ust_qtr (up (ua (ua (UAll.nil)))))))) (by kernel_rfl) (by kernel_rfl)) hO hA ?_ ?_
 exact OblsR.m h3 <| OblsR.m h4 <| OblsR.m h5 <| OblsR.p (fun A' R' w' ho hd => of_indexAddr ((f_u6.stp ho.stp).eq (hd.g 0 rfl)) (hd.g 1 rfl) Tryz.underlying46 Tryz.sizeOf9 e15) <| OblsR.p (fun A' R' w' ho hd => (of_load (QRep.ptr (hd.g 0 rfl)) Tryz.isAgg9 Tryz.sizeOf9)) <| OblsR.cons (OblR.took 0 _ _ rfl rfl rfl rfl rfl fun A' R' w' ho hd u hok hav hin hop hds => by have a0 : R' 21 = ul_u1 := hd.g 0 rfl; have a1 : Rep eStr A' w' (R' 25) (gtD x4 y10) := hd.g 1 rfl; have hu0 : evalR R' (.tmp 21) = u := a0.trans (hin _ rfl).symm; exact took_callm Tryz.call109 hav (by simp only [List.map, hu0]; exact M_spec_l3Put_ok (q17 rfl) (ho.av.sub _) (fun b o h => h.2) (Nat.le_trans hF.size ho.ch.size) (Vec.flat hok (fun _ _ _ _ _ h => h)) (a1.less fun b o h => h.1) rfl)) <| OblsR.cons (OblR.took 6 _ _ rfl rfl rfl rfl rfl fun A' R' w' ho hd u hok hav hin hop hds => by exact took_assign (hop _ _ rfl rfl rfl rfl).symm hok hav) <| OblsR.nil
 intro done ρ σ A R w hdn hI
 obtain ⟨h4, h5⟩ := k2 hI.rg h4 h5
 obtain ⟨u18, e_u18⟩ : ∃ u, ρ 7 = u := ⟨_, rfl⟩
 have h3 : R 3 = u18 := (hI.opvR hdn 7 6 rfl rfl rfl rfl rfl).symm.trans e_u18
 replace f_u6 := f_u6.stp hI.stp
 replace hAA := hI.low' hAA hA0 (hO.ge (⟨rfl, trivial⟩))
 replace hF : Fr w0 w := hF.tr hI.ch (hO.ge (⟨rfl, trivial⟩))
 replace hO := hI.left hdn [(7, ob u18 (.vec w0.heap.size 9 eStr x16))] ⟨rfl, rfl, e_u18, rfl, rfl, trivial⟩
 replace hA := hI.avok
 clear hI
 obtain ⟨e19, hr⟩ := ck_some hr
 refine HT.u hA hF (eI y10 :: eI (y10 + (1 : Int)) :: eI (y10 + (1 : Int)) :: []) ?_ ?_
 exact Obls.m h5 <| Obls.p (fun R' w' hw hs hd => of_add (hd.g 0 rfl) rfl e19) <| Obls.a <| Obls.nil
 intro R w hw hs hF' hA hF
 obtain ⟨h3, h4⟩ := k2 hs h3 h4
 have h5 := hF'.r 2 rfl
 replace f_u6 := f_u6.fr hw
 replace hO := hO.fr hw
 exact Exists.intro k (And.intro (Nat.lt_succ_self k) ⟨_, _, _, u18, hr, hA, hF, hAA, hO, h3, h4, h5, f_u6⟩)
 have hr := cnd_f c14 hr
 refine HT.skip ?_
 obtain ⟨e20, hr⟩ := ck_some hr
 refine HT.u hA hF (eI y10 :: eI (y10 + (1 : Int)) :: eI (y10 + (1 : Int)) :: []) ?_ ?_
 exact Obls.m h5 <| Obls.p (fun R' w' hw hs hd => of_add (hd.g 0 rfl) rfl e20) <| Obls.a <| Obls.nil
 intro R w hw hs hF' hA hF
 obtain ⟨h3, h4⟩ := k2 hs h3 h4
 have h5 := hF'.r 2 rfl
 replace f_u6 := f_u6.fr hw
 replace hO := hO.fr hw
 exact Exists.intro k (And.intro (Nat.lt_succ_self k) ⟨_, _, _, ul_u1, hr, hA, hF, hAA, hO, h3, h4, h5, f_u6⟩)
 have hr := cnd_f c12 hr
 refine HT.exit ?_
 obtain rfl := Option.some.inj hr
 exact Exists.intro _ ⟨_, ul_u1, rfl, hA, hF, hAA, hO, h3⟩
 rintro R w ⟨A, s9, uo_u1, es, hA, hF, hAA, hO, h3⟩
 obtain rfl := es.symm
 refine HT.seq ?_
 refine HT.u hA hF (eR uo_u1 :: eR uo_u1 :: []) ?_ ?_
 exact Obls.m h3 <| Obls.a <| Obls.nil
 intro R w hw hs hF' hA hF
 have h2 := hF'.r 1 rfl
 replace hO := hO.fr hw
 refine HT.ret ?_
 obtain rfl := Option.some.inj hr
 exact ⟨.inr rfl, [R 2], ⟨rfl, trivial⟩, (own_post (hO.ok 0 _ rfl) hAA h2), hF⟩
theorem M_spec_Tokens_okR {fu : Nat} {A0 : Av} {p0 : List UInt8} {r : List (List UInt8)} (hr : M_spec_Tokens fu p0 = some r) {w : World} {v0 : Value} (hA : AvOK A0 w) (h0 : Rep eStr A0 w v0 p0) :
 Calls Tryz.prog 111 #[v0] w fun e w' => ∃ v, e = .returned v ∧ (Rep (eSl eStr) A0 w' v r ∧ Fr w w') := by
 refine Calls.mono (M_spec_Tokens_ok hr hA h0) ?_
 rintro e w' ⟨v, he, hv, hf⟩
 exact ⟨v, he, vec_rep hv (fun b o h => .inl h) hA, hf⟩
def M_spec_SoundCode (fu : Nat) (p0 : Int) : Option Int :=
 cl true (M_spec_FoldCase fu (strB ([p0] : List Int))) fun x1 =>
 bif (x1 == ([98] : List UInt8)) then (
 some 1
 ) else (
 bif (x1 == ([102] : List UInt8)) then (
 some 1
 ) else (
 bif (x1 == ([112] : List UInt8)) then (
 some 1
 ) else (
 bif (x1 == ([118] : List UInt8)) then (
 some 1
 ) else (
 bif (x1 == ([99] : List UInt8)) then (
 some 2
 ) else (
 bif (x1 == ([103] : List UInt8)) then (
 some 2
 ) else (
 bif (x1 == ([106] : List UInt8)) then (
 some 2
 ) else (
 bif (x1 == ([107] : List UInt8)) then (
 some 2
 ) else (
 bif (x1 == ([113] : List UInt8)) then (
 some 2
 ) else (
 bif (x1 == ([115] : List UInt8)) then (
 some 2
 ) else (
 bif (x1 == ([120] : List UInt8)) then (
 some 2
 ) else (
 bif (x1 == ([122] : List UInt8)) then (
 some 2
 ) else (
 bif (x1 == ([100] : List UInt8)) then (
 some 3
 ) else (
 bif (x1 == ([116] : List UInt8)) then (
 some 3
 ) else (
 bif (x1 == ([108] : List UInt8)) then (
 some 4
 ) else (
 bif (x1 == ([109] : List UInt8)) then (
 some 5
 ) else (
 bif (x1 == ([110] : List UInt8)) then (
 some 5
 ) else (
 bif (x1 == ([114] : List UInt8)) then (
 some 6
 ) else (
 bif (x1 == ([97] : List UInt8)) then (
 some 0
 ) else (
 bif (x1 == ([101] : List UInt8)) then (
 some 0
 ) else (
 bif (x1 == ([105] : List UInt8)) then (
 some 0
 ) else (
 bif (x1 == ([111] : List UInt8)) then (
 some 0
 ) else (
 bif (x1 == ([117] : List UInt8)) then (
 some 0
 ) else (
 bif (x1 == ([121] : List UInt8)) then (
 some 0
 ) else (
 bif (x1 == ([104] : List UInt8)) then (
 some (-1)
 ) else (
 bif (x1 == ([119] : List UInt8)) then (
 some (-1)
 ) else (
 some (-2)
 )
 )
 )
 )
 )
 )
 )
 )
 )
 )
 )
 )
 )
 )
 )
 )
 )
 )
 )
 )
 )
 )
 )
 )
 )
 )
theorem M_spec_SoundCode_ok {fu : Nat} {A : Av} {p0 : Int} {r : Int} (hr : M_spec_SoundCode fu p0 = some r) {w : World} {v0 : Value} (hA : AvOK A w) (h0 : v0 = .int .u8 p0) :
 Calls Tryz.prog 210 #[v0] w fun e w' => ∃ v, e = .returned v ∧ (v = .int .i64 r ∧ Fr w w') := by
 unfold M_spec_SoundCode at hr
 obtain ⟨w0, hw0⟩ : ∃ w0, w0 = w := ⟨_, rfl⟩
 have hF : Fr w0 w := hw0 ▸ Fr.refl _
 rw [show Fr w = Fr w0 from hw0 ▸ rfl]
 clear hw0
 refine calls_of_HT2 [.tmp 2] Tryz.func210 Tryz.ntmps210 (by decide) rfl rfl (Nat.le_of_ble_eq_true rfl) ?_
 intro R hR
 replace h0 : R 0 = .int .u8 p0 := (hR 0 _ rfl).trans h0
 clear hR
 refine HT.seq ?_
 refine HT.u hA hF (eI 0 :: []) ?_ ?_
 exact Obls.p (fun R' w' hw hs hd => of_assign rfl) <| Obls.nil
 intro R w hw hs hF' hA hF
 replace h0 := k1 hs h0
 refine HT.seq ?_
 refine HT.seq ?_
 obtain ⟨x1, q2, hr⟩ := cl_some hr
 refine HT.u hA hF (eU p0 :: eF (.rep (eSl (eInt .u8)) A ([p0] : List Int)) :: eF (.rep eStr A (strB ([p0] : List Int))) :: eF (.rep eStr A x1) :: []) ?_ ?_
 exact Obls.m h0 <| Obls.p (fun R' w' hw hs hd => of_build [_] (E := eInt .u8) ⟨(rep_int.eq (hd.g 0 rfl)), trivial⟩ Tryz.underlying22 Tryz.sizeOf5 Tryz.zeroValue5 rfl rfl rfl (hA.fr hw.size)) <| Obls.p (fun R' w' hw hs hd => of_conv_bytes (hd.g 0 rfl) Tryz.underlying22 Tryz.underlying5 Tryz.underlying9) <| Obls.p (fun R' w' hw hs hd => of_call Tryz.call133 (M_spec_FoldCase_ok (q2 rfl) (hA.fr hw.size) (hd.g 0 rfl))) <| Obls.nil
 intro R w hw hs hF' hA hF
 obtain ⟨u3, h6, f_u3⟩ : ∃ u, R 6 = u ∧ Rep eStr A w u x1 := ⟨_, rfl, hF' 3 _ _ rfl rfl rfl⟩
 refine HT.block ?_
 refine HT.seq ?_
 refine HT.seq ?_
 refine HT.u hA hF (eB (x1 == ([98] : List UInt8)) :: eB (x1 == ([98] : List UInt8)) :: []) ?_ ?_
 exact Obls.p (fun R' w' hw hs hd => of_seql ((f_u3.fr hw).eq ((hs 6 rfl).trans h6)) ⟨_, rfl, ⟨_, rfl, rfl, by decide⟩⟩) <| Obls.a <| Obls.nil
 intro R w hw hs hF' hA hF
 replace h6 := k1 hs h6
 have h7 := hF'.r 1 rfl
 replace f_u3 := f_u3.fr hw
 refine HT.cond (x1 == ([98] : List UInt8)) h7 (fun c4 => ?_) (fun c4 => ?_)
 have hr := cnd_t c4 hr
 refine HT.skip ?_
 refine HT.cond (x1 == ([98] : List UInt8)) h7 (fun c5 => ?_) (fun c5 => absurd (c4.symm.trans c5) (by decide))
 refine HT.seq ?_
 refine HT.u hA hF (eI 1 :: []) ?_ ?_
 exact Obls.p (fun R' w' hw hs hd => of_assign rfl) <| Obls.nil
 intro R w hw hs hF' hA hF
 have h2 := hF'.r 0 rfl
 refine HT.ret ?_
 obtain rfl := Option.some.inj hr
 exact ⟨.inr rfl, [R 2], ⟨rfl, trivial⟩, h2, hF⟩
 have hr := cnd_f c4 hr
 refine HT.seq ?_
 refine HT.u hA hF (eB (x1 == ([102] : List UInt8)) :: eB (x1 == ([102] : List UInt8)) :: []) ?_ ?_
 exact Obls.p (fun R' w' hw hs hd => of_seql ((f_u3.fr hw).eq ((hs 6 rfl).trans h6)) ⟨_, rfl, ⟨_, rfl, rfl, by decide⟩⟩) <| Obls.a <| Obls.nil
 intro R w hw hs hF' hA hF
 replace h6 := k1 hs h6
 have h7 := hF'.r 1 rfl
 replace f_u3 := f_u3.fr hw
 refine HT.cond (x1 == ([102] : List UInt8)) h7 (fun c6 => ?_) (fun c6 => ?_)
 have hr := cnd_t c6 hr
 refine HT.skip ?_
 refine HT.cond (x1 == ([102] : List UInt8)) h7 (fun c7 => ?_) (fun c7 => absurd (c6.symm.trans c7) (by decide))
 refine HT.seq ?_
 refine HT.u hA hF (eI 1 :: []) ?_ ?_
 exact Obls.p (fun R' w' hw hs hd => of_assign rfl) <| Obls.nil
 intro R w hw hs hF' hA hF
 have h2 := hF'.r 0 rfl
 refine HT.ret ?_
 obtain rfl := Option.some.inj hr
 exact ⟨.inr rfl, [R 2], ⟨rfl, trivial⟩, h2, hF⟩
 have hr := cnd_f c6 hr
 refine HT.seq ?_
 refine HT.u hA hF (eB (x1 == ([112] : List UInt8)) :: eB (x1 == ([112] : List UInt8)) :: []) ?_ ?_
 exact Obls.p (fun R' w' hw hs hd => of_seql ((f_u3.fr hw).eq ((hs 6 rfl).trans h6)) ⟨_, rfl, ⟨_, rfl, rfl, by decide⟩⟩) <| Obls.a <| Obls.nil
 intro R w hw hs hF' hA hF
 replace h6 := k1 hs h6
 have h7 := hF'.r 1 rfl
 replace f_u3 := f_u3.fr hw
 refine HT.cond (x1 == ([112] : List UInt8)) h7 (fun c8 => ?_) (fun c8 => ?_)
 have hr := cnd_t c8 hr
 refine HT.skip ?_
 refine HT.cond (x1 == ([112] : List UInt8)) h7 (fun c9 => ?_) (fun c9 => absurd (c8.symm.trans c9) (by decide))
 refine HT.seq ?_
 refine HT.u hA hF (eI 1 :: []) ?_ ?_
 exact Obls.p (fun R' w' hw hs hd => of_assign rfl) <| Obls.nil
 intro R w hw hs hF' hA hF
 have h2 := hF'.r 0 rfl
 refine HT.ret ?_
 obtain rfl := Option.some.inj hr
 exact ⟨.inr rfl, [R 2], ⟨rfl, trivial⟩, h2, hF⟩
 have hr := cnd_f c8 hr
 refine HT.u hA hF (eB (x1 == ([118] : List UInt8)) :: eB (x1 == ([118] : List UInt8)) :: []) ?_ ?_
 exact Obls.p (fun R' w' hw hs hd => of_seql ((f_u3.fr hw).eq ((hs 6 rfl).trans h6)) ⟨_, rfl, ⟨_, rfl, rfl, by decide⟩⟩) <| Obls.a <| Obls.nil
 intro R w hw hs hF' hA hF
 replace h6 := k1 hs h6
 have h7 := hF'.r 1 rfl
 replace f_u3 := f_u3.fr hw
 refine HT.cond (x1 == ([118] : List UInt8)) h7 (fun c10 => ?_) (fun c10 => ?_)
 have hr := cnd_t c10 hr
 refine HT.seq ?_
 refine HT.u hA hF (eI 1 :: []) ?_ ?_
 exact Obls.p (fun R' w' hw hs hd => of_assign rfl) <| Obls.nil
 intro R w hw hs hF' hA hF
 have h2 := hF'.r 0 rfl
 refine HT.ret ?_
 obtain rfl := Option.some.inj hr
 exact ⟨.inr rfl, [R 2], ⟨rfl, trivial⟩, h2, hF⟩
 have hr := cnd_f c10 hr
 refine HT.seq ?_
 refine HT.seq ?_
 refine HT.u hA hF (eB (x1 == ([99] : List UInt8)) :: eB (x1 == ([99] : List UInt8)) :: []) ?_ ?_
 exact Obls.p (fun R' w' hw hs hd => of_seql ((f_u3.fr hw).eq ((hs 6 rfl).trans h6)) ⟨_, rfl, ⟨_, rfl, rfl, by decide⟩⟩) <| Obls.a <| Obls.nil
 intro R w hw hs hF' hA hF
 replace h6 := k1 hs h6
 have h12 := hF'.r 1 rfl
 replace f_u3 := f_u3.fr hw
 refine HT.cond (x1 == ([99] : List UInt8)) h12 (fun c11 => ?_) (fun c11 => ?_)
 have hr := cnd_t c11 hr
 refine HT.skip ?_
 refine HT.cond (x1 == ([99] : List UInt8)) h12 (fun c12 => ?_) (fun c12 => absurd (c11.symm.trans c12) (by decide))
 refine HT.seq ?_
 refine HT.u hA hF (eI 2 :: []) ?_ ?_
 exact Obls.p (fun R' w' hw hs hd => of_assign rfl) <| Obls.nil
 intro R w hw hs hF' hA hF
 have h2 := hF'.r 0 rfl
 refine HT.ret ?_
 obtain rfl := Option.some.inj hr
 exact ⟨.inr rfl, [R 2], ⟨rfl, trivial⟩, h2, hF⟩
 have hr := cnd_f c11 hr
 refine HT.seq ?_
 refine HT.u hA hF (eB (x1 == ([103] : List UInt8)) :: eB (x1 == ([103] : List UInt8)) :: []) ?_ ?_
 exact Obls.p (fun R' w' hw hs hd => of_seql ((f_u3.fr hw).eq ((hs 6 rfl).trans h6)) ⟨_, rfl, ⟨_, rfl, rfl, by decide⟩⟩) <| Obls.a <| Obls.nil
 intro R w hw hs hF' hA hF
 replace h6 := k1 hs h6
 have h12 := hF'.r 1 rfl
 replace f_u3 := f_u3.fr hw
 refine HT.cond (x1 == ([103] : List UInt8)) h12 (fun c13 => ?_) (fun c13 => ?_)
 have hr := cnd_t c13 hr
 refine HT.skip ?_
 refine HT.cond (x1 == ([103] : List UInt8)) h12 (fun c14 => ?_) (fun c14 => absurd (c13.symm.trans c14) (by decide))
 refine HT.seq ?_
 refine HT.u hA hF (eI 2 :: []) ?_ ?_
 exact Obls.p (fun R' w' hw hs hd => of_assign rfl) <| Obls.nil
 intro R w hw hs hF' hA hF
 have h2 := hF'.r 0 rfl
 refine HT.ret ?_
 obtain rfl := Option.some.inj hr
 exact ⟨.inr rfl, [R 2], ⟨rfl, trivial⟩, h2, hF⟩
 have hr := cnd_f c13 hr
 refine HT.seq ?_
 refine HT.u hA hF (eB (x1 == ([106] : List UInt8)) :: eB (x1 == ([106] : List UInt8)) :: []) ?_ ?_
 exact Obls.p (fun R' w' hw hs hd => of_seql ((f_u3.fr hw).eq ((hs 6 rfl).trans h6)) ⟨_, rfl, ⟨_, rfl, rfl, by decide⟩⟩) <| Obls.a <| Obls.nil
 intro R w hw hs hF' hA hF
 replace h6 := k1 hs h6
 have h12 := hF'.r 1 rfl
 replace f_u3 := f_u3.fr hw
 refine HT.cond (x1 == ([106] : List UInt8)) h12 (fun c15 => ?_) (fun c15 => ?_)
 have hr := cnd_t c15 hr
 refine HT.skip ?_
 refine HT.cond (x1 == ([106] : List UInt8)) h12 (fun c16 => ?_) (fun c16 => absurd (c15.symm.trans c16) (by decide))
 refine HT.seq ?_
 refine HT.u hA hF (eI 2 :: []) ?_ ?_
 exact Obls.p (fun R' w' hw hs hd => of_assign rfl) <| Obls.nil
 intro R w hw hs hF' hA hF
 have h2 := hF'.r 0 rfl
 refine HT.ret ?_
 obtain rfl := Option.some.inj hr
 exact ⟨.inr rfl, [R 2], ⟨rfl, trivial⟩, h2, hF⟩
 have hr := cnd_f c15 hr
 refine HT.seq ?_
 refine HT.u hA hF (eB (x1 == ([107] : List UInt8)) :: eB (x1 == ([107] : List UInt8)) :: []) ?_ ?_
 exact Obls.p (fun R' w' hw hs hd => of_seql ((f_u3.fr hw).eq ((hs 6 rfl).trans h6)) ⟨_, rfl, ⟨_, rfl, rfl, by decide⟩⟩) <| Obls.a <| Obls.nil
 intro R w hw hs hF' hA hF
 replace h6 := k1 hs h6
 have h12 := hF'.r 1 rfl
 replace f_u3 := f_u3.fr hw
 refine HT.cond (x1 == ([107] : List UInt8)) h12 (fun c17 => ?_) (fun c17 => ?_)
 have hr := cnd_t c17 hr
 refine HT.skip ?_
 refine HT.cond (x1 == ([107] : List UInt8)) h12 (fun c18 => ?_) (fun c18 => absurd (c17.symm.trans c18) (by decide))
 refine HT.seq ?_
 refine HT.u hA hF (eI 2 :: []) ?_ ?_
 exact Obls.p (fun R' w' hw hs hd => of_assign rfl) <| Obls.nil
 intro R w hw hs hF' hA hF
 have h2 := hF'.r 0 rfl
 refine HT.ret ?_
 obtain rfl := Option.some.inj hr
 exact ⟨.inr rfl, [R 2], ⟨rfl, trivial⟩, h2, hF⟩
 have hr := cnd_f c17 hr
 refine HT.seq ?_
 refine HT.u hA hF (eB (x1 == ([113] : List UInt8)) :: eB (x1 == ([113] : List UInt8)) :: []) ?_ ?_
 exact Obls.p (fun R' w' hw hs hd => of_seql ((f_u3.fr hw).eq ((hs 6 rfl).trans h6)) ⟨_, rfl, ⟨_, rfl, rfl, by decide⟩⟩) <| Obls.a <| Obls.nil
 intro R w hw hs hF' hA hF
 replace h6 := k1 hs h6
 have h12 := hF'.r 1 rfl
 replace f_u3 := f_u3.fr hw
 refine HT.cond (x1 == ([113] : List UInt8)) h12 (fun c19 => ?_) (fun c19 => ?_)
 have hr := cnd_t c19 hr
 refine HT.skip ?_
 refine HT.cond (x1 == ([113] : List UInt8)) h12 (fun c20 => ?_) (fun c20 => absurd (c19.symm.trans c20) (by decide))
 refine HT.seq ?_
 refine HT.u hA hF (eI 2 :: []) ?_ ?_
 exact Obls.p (fun R' w' hw hs hd => of_assign rfl) <| Obls.nil
 intro R w hw hs hF' hA hF
 have h2 := hF'.r 0 rfl
 refine HT.ret ?_
 obtain rfl := Option.some.inj hr
 exact ⟨.inr rfl, [R 2], ⟨rfl, trivial⟩, h2, hF⟩
 have hr := cnd_f c19 hr
 refine HT.seq ?_
 refine HT.u hA hF (eB (x1 == ([115] : List UInt8)) :: eB (x1 == ([115] : List UInt8)) :: []) ?_ ?_
 exact Obls.p (fun R' w' hw hs hd => of_seql ((f_u3.fr hw).eq ((hs 6 rfl).trans h6)) ⟨_, rfl, ⟨_, rfl, rfl, by decide⟩⟩) <| Obls.a <| Obls.nil
 intro R w hw hs hF' hA hF
 replace h6 := k1 hs h6
 have h12 := hF'.r 1 rfl
 replace f_u3 := f_u3.fr hw
 refine HT.cond (x1 == ([115] : List UInt8)) h12 (fun c21 => ?_) (fun c21 => ?_)
 have hr := cnd_t c21 hr
 refine HT.skip ?_
 refine HT.cond (x1 == ([115] : List UInt8)) h12 (fun c22 => ?_) (fun c22 => absurd (c21.symm.trans c22) (by decide))
 refine HT.seq ?_
 refine HT.u hA hF (eI 2 :: []) ?_ ?_
 exact Obls.p (fun R' w' hw hs hd => of_assign rfl) <| Obls.nil
 intro R w hw hs hF' hA hF
 have h2 := hF'.r 0 rfl
 refine HT.ret ?_
 obtain rfl := Option.some.inj hr
 exact ⟨.inr rfl, [R 2], ⟨rfl, trivial⟩, h2, hF⟩
 have hr := cnd_f c21 hr
 refine HT.seq ?_
 refine HT.u hA hF (eB (x1 == ([120] : List UInt8)) :: eB (x1 == ([120] : List UInt8)) :: []) ?_ ?_
 exact Obls.p (fun R' w' hw hs hd => of_seql ((f_u3.fr hw).eq ((hs 6 rfl).trans h6)) ⟨_, rfl, ⟨_, rfl, rfl, by decide⟩⟩) <| Obls.a <| Obls.nil
 intro R w hw hs hF' hA hF
 replace h6 := k1 hs h6
 have h12 := hF'.r 1 rfl
 replace f_u3 := f_u3.fr hw
 refine HT.cond (x1 == ([120] : List UInt8)) h12 (fun c23 => ?_) (fun c23 => ?_)
 have hr := cnd_t c23 hr
 refine HT.skip ?_
 refine HT.cond (x1 == ([120] : List UInt8)) h12 (fun c24 => ?_) (fun c24 => absurd (c23.symm.trans c24) (by decide))
 refine HT.seq ?_
 refine HT.u hA hF (eI 2 :: []) ?_ ?_
 exact Obls.p (fun R' w' hw hs hd => of_assign rfl) <| Obls.nil
 intro R w hw hs hF' hA hF
 have h2 := hF'.r 0 rfl
 refine HT.ret ?_
 obtain rfl := Option.some.inj hr
 exact ⟨.inr rfl, [R 2], ⟨rfl, trivial⟩, h2, hF⟩
 have hr := cnd_f c23 hr
 refine HT.u hA hF (eB (x1 == ([122] : List UInt8)) :: eB (x1 == ([122] : List UInt8)) :: []) ?_ ?_
 exact Obls.p (fun R' w' hw hs hd => of_seql ((f_u3.fr hw).eq ((hs 6 rfl).trans h6)) ⟨_, rfl, ⟨_, rfl, rfl, by decide⟩⟩) <| Obls.a <| Obls.nil
 intro R w hw hs hF' hA hF
 replace h6 := k1 hs h6
 have h12 := hF'.r 1 rfl
 replace f_u3 := f_u3.fr hw
 refine HT.cond (x1 == ([122] : List UInt8)) h12 (fun c25 => ?_) (fun c25 => ?_)
 have hr := cnd_t c25 hr
 refine HT.seq ?_
 refine HT.u hA hF (eI 2 :: []) ?_ ?_
 exact Obls.p (fun R' w' hw hs hd => of_assign rfl) <| Obls.nil
 intro R w hw hs hF' hA hF
 have h2 := hF'.r 0 rfl
 refine HT.ret ?_
 obtain rfl := Option.some.inj hr
 exact ⟨.inr rfl, [R 2], ⟨rfl, trivial⟩, h2, hF⟩
 have hr := cnd_f c25 hr
 refine HT.seq ?_
 refine HT.seq ?_
 refine HT.u hA hF (eB (x1 == ([100] : List UInt8)) :: eB (x1 == ([100] : List UInt8)) :: []) ?_ ?_
 exact Obls.p (fun R' w' hw hs hd => of_seql ((f_u3.fr hw).eq ((hs 6 rfl).trans h6)) ⟨_, rfl, ⟨_, rfl, rfl, by decide⟩⟩) <| Obls.a <| Obls.nil
 intro R w hw hs hF' hA hF
 replace h6 := k1 hs h6
 have h21 := hF'.r 1 rfl
 replace f_u3 := f_u3.fr hw
 refine HT.cond (x1 == ([100] : List UInt8)) h21 (fun c26 => ?_) (fun c26 => ?_)
 have hr := cnd_t c26 hr
 refine HT.skip ?_
 refine HT.cond (x1 == ([100] : List UInt8)) h21 (fun c27 => ?_) (fun c27 => absurd (c26.symm.trans c27) (by decide))
 refine HT.seq ?_
 refine HT.u hA hF (eI 3 :: []) ?_ ?_
 exact Obls.p (fun R' w' hw hs hd => of_assign rfl) <| Obls.nil
 intro R w hw hs hF' hA hF
 have h2 := hF'.r 0 rfl
 refine HT.ret ?_
 obtain rfl := Option.some.inj hr
 exact ⟨.inr rfl, [R 2], ⟨rfl, trivial⟩, h2, hF⟩
 have hr := cnd_f c26 hr
 refine HT.u hA hF (eB (x1 == ([116] : List UInt8)) :: eB (x1 == ([116] : List UInt8)) :: []) ?_ ?_
 exact Obls.p (fun R' w' hw hs hd => of_seql ((f_u3.fr hw).eq ((hs 6 rfl).trans h6)) ⟨_, rfl, ⟨_, rfl, rfl, by decide⟩⟩) <| Obls.a <| Obls.nil
 intro R w hw hs hF' hA hF
 replace h6 := k1 hs h6
 have h21 := hF'.r 1 rfl
 replace f_u3 := f_u3.fr hw
 refine HT.cond (x1 == ([116] : List UInt8)) h21 (fun c28 => ?_) (fun c28 => ?_)
 have hr := cnd_t c28 hr
 refine HT.seq ?_
 refine HT.u hA hF (eI 3 :: []) ?_ ?_
 exact Obls.p (fun R' w' hw hs hd => of_assign rfl) <| Obls.nil
 intro R w hw hs hF' hA hF
 have h2 := hF'.r 0 rfl
 refine HT.ret ?_
 obtain rfl := Option.some.inj hr
 exact ⟨.inr rfl, [R 2], ⟨rfl, trivial⟩, h2, hF⟩
 have hr := cnd_f c28 hr
 refine HT.seq ?_
 refine HT.u hA hF (eB (x1 == ([108] : List UInt8)) :: eB (x1 == ([108] : List UInt8)) :: []) ?_ ?_
 exact Obls.p (fun R' w' hw hs hd => of_seql ((f_u3.fr hw).eq ((hs 6 rfl).trans h6)) ⟨_, rfl, ⟨_, rfl, rfl, by decide⟩⟩) <| Obls.a <| Obls.nil
 intro R w hw hs hF' hA hF
 replace h6 := k1 hs h6
 have h24 := hF'.r 1 rfl
 replace f_u3 := f_u3.fr hw
 refine HT.cond (x1 == ([108] : List UInt8)) h24 (fun c29 => ?_) (fun c29 => ?_)
 have hr := cnd_t c29 hr
 refine HT.seq ?_
 refine HT.u hA hF (eI 4 :: []) ?_ ?_
 exact Obls.p (fun R' w' hw hs hd => of_assign rfl) <| Obls.nil
 intro R w hw hs hF' hA hF
 have h2 := hF'.r 0 rfl
 refine HT.ret ?_
 obtain rfl := Option.some.inj hr
 exact ⟨.inr rfl, [R 2], ⟨rfl, trivial⟩, h2, hF⟩
 have hr := cnd_f c29 hr
 refine HT.seq ?_
 refine HT.seq ?_
 refine HT.u hA hF (eB (x1 == ([109] : List UInt8)) :: eB (x1 == ([109] : List UInt8)) :: []) ?_ ?_
 exact Obls.p (fun R' w' hw hs hd => of_seql ((f_u3.fr hw).eq ((hs 6 rfl).trans h6)) ⟨_, rfl, ⟨_, rfl, rfl, by decide⟩⟩) <| Obls.a <| Obls.nil
 intro R w hw hs hF' hA hF
 replace h6 := k1 hs h6
 have h26 := hF'.r 1 rfl
 replace f_u3 := f_u3.fr hw
 refine HT.cond (x1 == ([109] : List UInt8)) h26 (fun c30 => ?_) (fun c30 => ?_)
 have hr := cnd_t c30 hr
 refine HT.skip ?_
 refine HT.cond (x1 == ([109] : List UInt8)) h26 (fun c31 => ?_) (fun c31 => absurd (c30.symm.trans c31) (by decide))
 refine HT.seq ?_
 refine HT.u hA hF (eI 5 :: []) ?_ ?_
 exact Obls.p (fun R' w' hw hs hd => of_assign rfl) <| Obls.nil
 intro R w hw hs hF' hA hF
 have h2 := hF'.r 0 rfl
 refine HT.ret ?_
 obtain rfl := Option.some.inj hr
 exact ⟨.inr rfl, [R 2], ⟨rfl, trivial⟩, h2, hF⟩
 have hr := cnd_f c30 hr
 refine HT.u hA hF (eB (x1 == ([110] : List UInt8)) :: eB (x1 == ([110] : List UInt8)) :: []) ?_ ?_
 exact Obls.p (fun R' w' hw hs hd => of_seql ((f_u3.fr hw).eq ((hs 6 rfl).trans h6)) ⟨_, rfl, ⟨_, rfl, rfl, by decide⟩⟩) <| Obls.a <| Obls.nil
 intro R w hw hs hF' hA hF
 replace h6 := k1 hs h6
 have h26 := hF'.r 1 rfl
 replace f_u3 := f_u3.fr hw
 refine HT.cond (x1 == ([110] : List UInt8)) h26 (fun c32 => ?_) (fun c32 => ?_)
 have hr := cnd_t c32 hr
 refine HT.seq ?_
 refine HT.u hA hF (eI 5 :: []) ?_ ?_
 exact Obls.p (fun R' w' hw hs hd => of_assign rfl) <| Obls.nil
 intro R w hw hs hF' hA hF
 have h2 := hF'.r 0 rfl
 refine HT.ret ?_
 obtain rfl := Option.some.inj hr
 exact ⟨.inr rfl, [R 2], ⟨rfl, trivial⟩, h2, hF⟩
 have hr := cnd_f c32 hr
 refine HT.seq ?_
 refine HT.u hA hF (eB (x1 == ([114] : List UInt8)) :: eB (x1 == ([114] : List UInt8)) :: []) ?_ ?_
 exact Obls.p (fun R' w' hw hs hd => of_seql ((f_u3.fr hw).eq ((hs 6 rfl).trans h6)) ⟨_, rfl, ⟨_, rfl, rfl, by decide⟩⟩) <| Obls.a <| Obls.nil
 intro R w hw hs hF' hA hF
 replace h6 := k1 hs h6
 have h29 := hF'.r 1 rfl
 replace f_u3 := f_u3.fr hw
 refine HT.cond (x1 == ([114] : List UInt8)) h29 (fun c33 => ?_) (fun c33 => ?_)
 have hr := cnd_t c33 hr
 refine HT.seq ?_
 refine HT.u hA hF (eI 6 :: []) ?_ ?_
 exact Obls.p (fun R' w' hw hs hd => of_assign rfl) <| Obls.nil
 intro R w hw hs hF' hA hF
 have h2 := hF'.r 0 rfl
 refine HT.ret ?_
 obtain rfl := Option.some.inj hr
 exact ⟨.inr rfl, [R 2], ⟨rfl, trivial⟩, h2, hF⟩
 have hr := cnd_f c33 hr
 refine HT.seq ?_
 refine HT.seq ?_
 refine HT.u hA hF (eB (x1 == ([97] : List UInt8)) :: eB (x1 == ([97] : List UInt8)) :: []) ?_ ?_
 exact Obls.p (fun R' w' hw hs hd => of_seql ((f_u3.fr hw).eq ((hs 6 rfl).trans h6)) ⟨_, rfl, ⟨_, rfl, rfl, by decide⟩⟩) <| Obls.a <| Obls.nil
 intro R w hw hs hF' hA hF
 replace h6 := k1 hs h6
 have h31 := hF'.r 1 rfl
 replace f_u3 := f_u3.fr hw
 refine HT.cond (x1 == ([97] : List UInt8)) h31 (fun c34 => ?_) (fun c34 => ?_)
 have hr := cnd_t c34 hr
 refine HT.skip ?_
 refine HT.cond (x1 == ([97] : List UInt8)) h31 (fun c35 => ?_) (fun c35 => absurd (c34.symm.trans c35) (by decide))
 refine HT.seq ?_
 refine HT.u hA hF (eI 0 :: []) ?_ ?_
 exact Obls.p (fun R' w' hw hs hd => of_assign rfl) <| Obls.nil
 intro R w hw hs hF' hA hF
 have h2 := hF'.r 0 rfl
 refine HT.ret ?_
 obtain rfl := Option.some.inj hr
 exact ⟨.inr rfl, [R 2], ⟨rfl, trivial⟩, h2, hF⟩
 have hr := cnd_f c34 hr
 refine HT.seq ?_
 refine HT.u hA hF (eB (x1 == ([101] : List UInt8)) :: eB (x1 == ([101] : List UInt8)) :: []) ?_ ?_
 exact Obls.p (fun R' w' hw hs hd => of_seql ((f_u3.fr hw).eq ((hs 6 rfl).trans h6)) ⟨_, rfl, ⟨_, rfl, rfl, by decide⟩⟩) <| Obls.a <| Obls.nil
 intro R w hw hs hF' hA hF
 replace h6 := k1 hs h6
 have h31 := hF'.r 1 rfl
 replace f_u3 := f_u3.fr hw
 refine HT.cond (x1 == ([101] : List UInt8)) h31 (fun c36 => ?_) (fun c36 => ?_)
 have hr := cnd_t c36 hr
 refine HT.skip ?_
 refine HT.cond (x1 == ([101] : List UInt8)) h31 (fun c37 => ?_) (fun c37 => absurd (c36.symm.trans c37) (by decide))
 refine HT.seq ?_
 refine HT.u hA hF (eI 0 :: []) ?_ ?_
 exact Obls.p (fun R' w' hw hs hd => of_assign rfl) <| Obls.nil
 intro R w hw hs hF' hA hF
 have h2 := hF'.r 0 rfl
 refine HT.ret ?_
 obtain rfl := Option.some.inj hr
 exact ⟨.inr rfl, [R 2], ⟨rfl, trivial⟩, h2, hF⟩
 have hr := cnd_f c36 hr
 refine HT.seq ?_
 refine HT.u hA hF (eB (x1 == ([105] : List UInt8)) :: eB (x1 == ([105] : List UInt8)) :: []) ?_ ?_
 exact Obls.p (fun R' w' hw hs hd => of_seql ((f_u3.fr hw).eq ((hs 6 rfl).trans h6)) ⟨_, rfl, ⟨_, rfl, rfl, by decide⟩⟩) <| Obls.a <| Obls.nil
 intro R w hw hs hF' hA hF
 replace h6 := k1 hs h6
 have h31 := hF'.r 1 rfl
 replace f_u3 := f_u3.fr hw
 refine HT.cond (x1 == ([105] : List UInt8)) h31 (fun c38 => ?_) (fun c38 => ?_)
 have hr := cnd_t c38 hr
 refine HT.skip ?_
 refine HT.cond (x1 == ([105] : List UInt8)) h31 (fun c39 => ?_) (fun c39 => absurd (c38.symm.trans c39) (by decide))
 refine HT.seq ?_
 refine HT.u hA hF (eI 0 :: []) ?_ ?_
 exact Obls.p (fun R' w' hw hs hd => of_assign rfl) <| Obls.nil
 intro R w hw hs hF' hA hF
 have h2 := hF'.r 0 rfl
 refine HT.ret ?_
 obtain rfl := Option.some.inj hr
 exact ⟨.inr rfl, [R 2], ⟨rfl, trivial⟩, h2, hF⟩
 have hr := cnd_f c38 hr
 refine HT.seq ?_
 refine HT.u hA hF (eB (x1 == ([111] : List UInt8)) :: eB (x1 == ([111] : List UInt8)) :: []) ?_ ?_
 exact Obls.p (fun R' w' hw hs hd => of_seql ((f_u3.fr hw).eq ((hs 6 rfl).trans h6)) ⟨_, rfl, ⟨_, rfl, rfl, by decide⟩⟩) <| Obls.a <| Obls.nil
 intro R w hw hs hF' hA hF
 replace h6 := k1 hs h6
 have h31 := hF'.r 1 rfl
 replace f_u3 := f_u3.fr hw
 refine HT.cond (x1 == ([111] : List UInt8)) h31 (fun c40 => ?_) (fun c40 => ?_)
 have hr := cnd_t c40 hr
 refine HT.skip ?_
 refine HT.cond (x1 == ([111] : List UInt8)) h31 (fun c41 => ?_) (fun c41 => absurd (c40.symm.trans c41) (by decide))
 refine HT.seq ?_
 refine HT.u hA hF (eI 0 :: []) ?_ ?_
 exact Obls.p (fun R' w' hw hs hd => of_assign rfl) <| Obls.nil
 intro R w hw hs hF' hA hF
 have h2 := hF'.r 0 rfl
 refine HT.ret ?_
 obtain rfl := Option.some.inj hr
 exact ⟨.inr rfl, [R 2], ⟨rfl, trivial⟩, h2, hF⟩
 have hr := cnd_f c40 hr
 refine HT.seq ?_
 refine HT.u hA hF (eB (x1 == ([117] : List UInt8)) :: eB (x1 == ([117] : List UInt8)) :: []) ?_ ?_
 exact Obls.p (fun R' w' hw hs hd => of_seql ((f_u3.fr hw).eq ((hs 6 rfl).trans h6)) ⟨_, rfl, ⟨_, rfl, rfl, by decide⟩⟩) <| Obls.a <| Obls.nil
 intro R w hw hs hF' hA hF
 replace h6 := k1 hs h6
 have h31 := hF'.r 1 rfl
 replace f_u3 := f_u3.fr hw
 refine HT.cond (x1 == ([117] : List UInt8)) h31 (fun c42 => ?_) (fun c42 => ?_)
 have hr := cnd_t c42 hr
 refine HT.skip ?_
 refine HT.cond (x1 == ([117] : List UInt8)) h31 (fun c43 => ?_) (fun c43 => absurd (c42.symm.trans c43) (by decide))
 refine HT.seq ?_
 refine HT.u hA hF (eI 0 :: []) ?_ ?_
 exact Obls.p (fun R' w' hw hs hd => of_assign rfl) <| Obls.nil
 intro R w hw hs hF' hA hF
 have h2 := hF'.r 0 rfl
 refine HT.ret ?_
 obtain rfl := Option.some.inj hr
 exact ⟨.inr rfl, [R 2], ⟨rfl, trivial⟩, h2, hF⟩
 have hr := cnd_f c42 hr
 refine HT.u hA hF (eB (x1 == ([121] : List UInt8)) :: eB (x1 == ([121] : List UInt8)) :: []) ?_ ?_
 exact Obls.p (fun R' w' hw hs hd => of_seql ((f_u3.fr hw).eq ((hs 6 rfl).trans h6)) ⟨_, rfl, ⟨_, rfl, rfl, by decide⟩⟩) <| Obls.a <| Obls.nil
 intro R w hw hs hF' hA hF
 replace h6 := k1 hs h6
 have h31 := hF'.r 1 rfl
 replace f_u3 := f_u3.fr hw
 refine HT.cond (x1 == ([121] : List UInt8)) h31 (fun c44 => ?_) (fun c44 => ?_)
 have hr := cnd_t c44 hr
 refine HT.seq ?_
 refine HT.u hA hF (eI 0 :: []) ?_ ?_
 exact Obls.p (fun R' w' hw hs hd => of_assign rfl) <| Obls.nil
 intro R w hw hs hF' hA hF
 have h2 := hF'.r 0 rfl
 refine HT.ret ?_
 obtain rfl := Option.some.inj hr
 exact ⟨.inr rfl, [R 2], ⟨rfl, trivial⟩, h2, hF⟩
 have hr := cnd_f c44 hr
 refine HT.seq ?_
 refine HT.seq ?_
 refine HT.u hA hF (eB (x1 == ([104] : List UInt8)) :: eB (x1 == ([104] : List UInt8)) :: []) ?_ ?_
 exact Obls.p (fun R' w' hw hs hd => of_seql ((f_u3.fr hw).eq ((hs 6 rfl).trans h6)) ⟨_, rfl, ⟨_, rfl, rfl, by decide⟩⟩) <| Obls.a <| Obls.nil
 intro R w hw hs hF' hA hF
 replace h6 := k1 hs h6
 have h38 := hF'.r 1 rfl
 replace f_u3 := f_u3.fr hw
 refine HT.cond (x1 == ([104] : List UInt8)) h38 (fun c45 => ?_) (fun c45 => ?_)
 have hr := cnd_t c45 hr
 refine HT.skip ?_
 refine HT.cond (x1 == ([104] : List UInt8)) h38 (fun c46 => ?_) (fun c46 => absurd (c45.symm.trans c46) (by decide))
 refine HT.seq ?_
 refine HT.u hA hF (eI (-1) :: []) ?_ ?_
 exact Obls.p (fun R' w' hw hs hd => of_assign rfl) <| Obls.nil
 intro R w hw hs hF' hA hF
 have h2 := hF'.r 0 rfl
 refine HT.ret ?_
 obtain rfl := Option.some.inj hr
 exact ⟨.inr rfl, [R 2], ⟨rfl, trivial⟩, h2, hF⟩
 have hr := cnd_f c45 hr
 refine HT.u hA hF (eB (x1 == ([119] : List UInt8)) :: eB (x1 == ([119] : List UInt8)) :: []) ?_ ?_
 exact Obls.p (fun R' w' hw hs hd => of_seql ((f_u3.fr hw).eq ((hs 6 rfl).trans h6)) ⟨_, rfl, ⟨_, rfl, rfl, by decide⟩⟩) <| Obls.a <| Obls.nil
 intro R w hw hs hF' hA hF
 have h38 := hF'.r 1 rfl
 refine HT.cond (x1 == ([119] : List UInt8)) h38 (fun c47 => ?_) (fun c47 => ?_)
 have hr := cnd_t c47 hr
 refine HT.seq ?_
 refine HT.u hA hF (eI (-1) :: []) ?_ ?_
 exact Obls.p (fun R' w' hw hs hd => of_assign rfl) <| Obls.nil
 intro R w hw hs hF' hA hF
 have h2 := hF'.r 0 rfl
 refine HT.ret ?_
 obtain rfl := Option.some.inj hr
 exact ⟨.inr rfl, [R 2], ⟨rfl, trivial⟩, h2, hF⟩
 have hr := cnd_f c47 hr
 refine HT.skip ?_
 refine HT.seq ?_
 refine HT.u hA hF (eI (-2) :: []) ?_ ?_
 exact Obls.p (fun R' w' hw hs hd => of_assign rfl) <| Obls.nil
 intro R w hw hs hF' hA hF
 have h2 := hF'.r 0 rfl
 refine HT.ret ?_
 obtain rfl := Option.some.inj hr
 exact ⟨.inr rfl, [R 2], ⟨rfl, trivial⟩, h2, hF⟩
end Go.Proofs.YtcodfkieaoomnaaGreatDoor
