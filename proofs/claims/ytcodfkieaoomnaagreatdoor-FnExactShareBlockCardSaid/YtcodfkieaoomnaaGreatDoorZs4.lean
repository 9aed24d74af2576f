/- Own texts laid together. No statement of the seat is proved here. -/
import Derived.Test.YtcodfkieaoomnaaGreatDoorZs3
/- Printed by dec.py: plain functions and the proofs that the code computes them. No statement of the seat is proved here. -/
namespace Go.Proofs.YtcodfkieaoomnaaGreatDoor
open Go.RowKit
set_option linter.unusedVariables false
set_option maxRecDepth 100000
set_option maxHeartbeats 4000000
def M_spec_Soundex_L0 (fu : Nat) (p0 : List UInt8) : Nat → Int → Int → (List Int) → Option (Ex (List UInt8) (List Int))
 | 0, _, _, _ => none
 | k + 1, y5, y6, y7 =>
 bif (decide (y6 < (p0.length : Int))) then (
 ck (inR y6 p0.length) <|
 cl true (M_spec_SoundCode fu (bAt p0 y6)) fun x10 =>
 bif (x10 == (-2)) then (
 some (Ex.ret ([] : List UInt8))
 ) else (
 bif (y6 == 0) then (
 ck (subR 0 1 p0.length) <|
 cl true (M_spec_FoldCase fu (subL p0 0 1)) fun x16 =>
 ck (inR 0 x16.length) <|
 ck (lenOK (y7.length + ([(bAt x16 0)] : List Int).length)) <|
 ck (i64B (y6 + 1)) <|
 M_spec_Soundex_L0 fu p0 k x10 (y6 + 1) (y7 ++ ([(bAt x16 0)] : List Int))
 ) else (
 bd ((decide (0 < x10)) && (x10 != y5)) fun x22 =>
 bd (x22 && (decide ((y7.length : Int) < 4))) fun x24 =>
 bif x24 then (
 ck (i64B (48 + x10)) <|
 ck (lenOK (y7.length + ([(IntKind.u8.wrap (48 + x10))] : List Int).length)) <|
 bif (decide (0 ≤ x10)) then (
 ck (i64B (y6 + 1)) <|
 M_spec_Soundex_L0 fu p0 k x10 (y6 + 1) (y7 ++ ([(IntKind.u8.wrap (48 + x10))] : List Int))
 ) else (
 ck (i64B (y6 + 1)) <|
 M_spec_Soundex_L0 fu p0 k y5 (y6 + 1) (y7 ++ ([(IntKind.u8.wrap (48 + x10))] : List Int))
 )
 ) else (
 bif (decide (0 ≤ x10)) then (
 ck (i64B (y6 + 1)) <|
 M_spec_Soundex_L0 fu p0 k x10 (y6 + 1) y7
 ) else (
 ck (i64B (y6 + 1)) <|
 M_spec_Soundex_L0 fu p0 k y5 (y6 + 1) y7
 )
 )
 )
 )
 ) else (
 some (Ex.go y7)
 )
def M_spec_Soundex_L1 (fu : Nat) : Nat → (List Int) → Option (List Int)
 | 0, _ => none
 | k + 1, y41 =>
 bif (decide ((y41.length : Int) < 4)) then (
 ck (lenOK (y41.length + ([48] : List Int).length)) <|
 M_spec_Soundex_L1 fu k (y41 ++ ([48] : List Int))
 ) else (
 some y41
 )
def M_spec_Soundex (fu : Nat) (p0 : List UInt8) : Option (List UInt8) :=
 cl true (M_spec_Soundex_L0 fu p0 fu 0 0 ([] : List Int)) fun rl2 =>
 exM rl2 (fun r => some r) fun s4 =>
 bif ((s4.length : Int) == 0) then (
 some ([] : List UInt8)
 ) else (
 cl true (M_spec_Soundex_L1 fu fu s4) fun s40 =>
 some (strB s40)
 )
theorem M_spec_Soundex_ok {fu : Nat} {A0 : Av} {p0 : List UInt8} {r : List UInt8} (hr : M_spec_Soundex fu p0 = some r) {w : World} {v0 : Value} (hA : AvOK A0 w) (h0 : Rep eStr A0 w v0 p0) :
 Calls Tryz.prog 159 #[v0] w fun e w' => ∃ v, e = .returned v ∧ (Rep eStr A0 w' v r ∧ Fr w w') := by
 unfold M_spec_Soundex at hr
 obtain ⟨w0, hw0⟩ : ∃ w0, w0 = w := ⟨_, rfl⟩
 have hF : Fr w0 w := hw0 ▸ Fr.refl _
 have hA0 : ∀ b o, A0 b o → b < w0.heap.size := fun b o h => hw0 ▸ hA b o h
 have hA00 : AvOK A0 w0 := hA0
 rw [show Fr w = Fr w0 from hw0 ▸ rfl]
 clear hw0
 obtain ⟨A, hAe⟩ : ∃ A, A = A0 := ⟨_, rfl⟩
 have hAA : ∀ b o, A0 b o → A b o := fun b o h => hAe ▸ h
 replace hA : AvOK A w := hAe ▸ hA
 have hO : IniOK [] A w := IniOK.nil
 refine calls_of_HT2 [.tmp 2] Tryz.func159 Tryz.ntmps159 (by decide) rfl rfl (Nat.le_of_ble_eq_true rfl) ?_
 intro R hR
 have f_v0 : Rep eStr A w v0 p0 := hAe ▸ h0
 replace h0 : R 0 = v0 := hR 0 _ rfl
 clear hR hAe
 refine HT.seq ?_
 refine HT.u hA hF (eF (.rep eStr A ([] : List UInt8)) :: []) ?_ ?_
 exact Obls.p (fun R' w' hw hs hd => of_assign ⟨_, rfl, ⟨_, rfl, rfl, by decide⟩⟩) <| Obls.nil
 intro R w hw hs hF' hA hF
 replace h0 := k1 hs h0
 replace f_v0 := f_v0.fr hw
 replace hO := hO.fr hw
 refine HT.seq ?_
 refine HT.textR [] (⟨_, true, [], some (.vec w0.heap.size 5 (eInt .u8) ([] : List Int)), true, fun A => .any⟩ :: ⟨_, true, [0], some (.vec w0.heap.size 5 (eInt .u8) ([] : List Int)), true, fun A => .any⟩ :: []) (by kernel_rfl) (by kernel_rfl) (Wf.mk' (by kernel_rfl) (ua (ua (UAll.nil))) (by kernel_rfl) (by kernel_rfl)) hO hA ?_ ?_
 exact OblsR.cons (OblR.made _ rfl rfl rfl rfl fun A' R' w' ho hd => by exact made_build [] (E := eInt .u8) trivial Tryz.underlying22 Tryz.sizeOf5 Tryz.zeroValue5 rfl rfl rfl (Nat.le_trans hF.size ho.ch.size)) <| OblsR.cons (OblR.took 0 _ _ rfl rfl rfl rfl rfl fun A' R' w' ho hd u hok hav hin hop hds => by exact took_assign (hop _ _ rfl rfl rfl rfl).symm hok hav) <| OblsR.nil
 intro done ρ σ A R w hdn hI
 replace h0 := k1 hI.rg h0
 obtain ⟨u1, e_u1⟩ : ∃ u, ρ 1 = u := ⟨_, rfl⟩
 have h3 : R 3 = u1 := (hI.opvR hdn 1 1 rfl rfl rfl rfl rfl).symm.trans e_u1
 replace f_v0 := f_v0.stp hI.stp
 replace hAA := hI.low' hAA hA0 (hO.ge (trivial))
 replace hF : Fr w0 w := hF.tr hI.ch (hO.ge (trivial))
 replace hO := hI.left hdn [(1, ob u1 (.vec w0.heap.size 5 (eInt .u8) ([] : List Int)))] ⟨rfl, rfl, e_u1, rfl, rfl, trivial⟩
 replace hA := hI.avok
 clear hI
 refine HT.seq ?_
 refine HT.u hA hF (eI 0 :: []) ?_ ?_
 exact Obls.p (fun R' w' hw hs hd => of_assign rfl) <| Obls.nil
 intro R w hw hs hF' hA hF
 obtain ⟨h0, h3⟩ := k2 hs h0 h3
 have h4 := hF'.r 0 rfl
 replace f_v0 := f_v0.fr hw
 replace hO := hO.fr hw
 refine HT.seq ?_
 refine HT.seq ?_
 refine HT.u hA hF (eI 0 :: []) ?_ ?_
 exact Obls.p (fun R' w' hw hs hd => of_assign rfl) <| Obls.nil
 intro R w hw hs hF' hA hF
 obtain ⟨h0, h3, h4⟩ := k3 hs h0 h3 h4
 have h5 := hF'.r 0 rfl
 replace f_v0 := f_v0.fr hw
 replace hO := hO.fr hw
 obtain ⟨rl2, q3, hr⟩ := cl_some hr
 replace q3 := q3 rfl
 refine HT.cut0 (fun R w => ∃ A : Av, ∃ (s4 : (List Int)) (uo_u1 : Value), rl2 = Ex.go s4 ∧ AvOK A w ∧ Fr w0 w ∧ (∀ b o, A0 b o → A b o) ∧ IniOK [ob uo_u1 (.vec w0.heap.size 5 (eInt .u8) s4)] A w ∧ R 3 = uo_u1) ?_ ?_
 refine HT.block ?_
 refine HT.loop (fun k R w => ∃ A : Av, ∃ (y5 : Int) (y6 : Int) (y7 : List Int) (ul_u1 : Value), M_spec_Soundex_L0 fu p0 k y5 y6 y7 = some rl2 ∧ AvOK A w ∧ Fr w0 w ∧ (∀ b o, A0 b o → A b o) ∧ IniOK [ob ul_u1 (.vec w0.heap.size 5 (eInt .u8) y7)] A w ∧ R 0 = v0 ∧ R 3 = ul_u1 ∧ R 4 = .int .i64 y5 ∧ R 5 = .int .i64 y6 ∧ Rep eStr A w v0 p0) fu ⟨_, _, _, _, u1, q3, hA, hF, hAA, hO, h0, h3, h4, h5, f_v0⟩ ?_
 have hr0 := hr; clear hr q3
 rintro k R w ⟨A, y5, y6, y7, ul_u1, hr, hA, hF, hAA, hO, h0, h3, h4, h5, f_v0⟩
 rcases k with _ | k
 cases (show none = some _ from hr)
 rw [M_spec_Soundex_L0] at hr
 refine HT.seq ?_
 refine HT.seq ?_
 refine HT.u hA hF (eI y6 :: eR v0 :: eI (p0.length : Int) :: eB (decide (y6 < (p0.length : Int))) :: []) ?_ ?_
 exact Obls.m h5 <| Obls.m h0 <| Obls.p (fun R' w' hw hs hd => of_len_str ((f_v0.fr hw).eq (hd.g 0 rfl)) Tryz.underlying9) <| Obls.p (fun R' w' hw hs hd => of_lss (hd.g 0 rfl) (hd.g 1 rfl)) <| Obls.nil
 intro R w hw hs hF' hA hF
 obtain ⟨h0, h3, h4, h5⟩ := k4 hs h0 h3 h4 h5
 have h11 := hF'.r 3 rfl
 replace f_v0 := f_v0.fr hw
 replace hO := hO.fr hw
 refine HT.cond (decide (y6 < (p0.length : Int))) h11 (fun c8 => ?_) (fun c8 => ?_)
 have hr := cnd_t c8 hr
 refine HT.skip ?_
 refine HT.seq ?_
 refine HT.block ?_
 refine HT.seq ?_
 obtain ⟨e9, hr⟩ := ck_some hr
 obtain ⟨x10, q11, hr⟩ := cl_some hr
 refine HT.u hA hF (eR v0 :: eI y6 :: eU (bAt p0 y6) :: eI x10 :: eI x10 :: []) ?_ ?_
 exact Obls.m h0 <| Obls.m h5 <| Obls.p (fun R' w' hw hs hd => of_strIndex ((f_v0.fr hw).eq (hd.g 0 rfl)) (hd.g 1 rfl) Tryz.underlying9 e9) <| Obls.p (fun R' w' hw hs hd => of_call Tryz.call210 (M_spec_SoundCode_ok (q11 rfl) (hA.fr hw.size) (hd.g 0 rfl))) <| Obls.a <| Obls.nil
 intro R w hw hs hF' hA hF
 obtain ⟨h0, h3, h4, h5⟩ := k4 hs h0 h3 h4 h5
 have h6 := hF'.r 4 rfl
 replace f_v0 := f_v0.fr hw
 replace hO := hO.fr hw
 refine HT.seq ?_
 refine HT.seq ?_
 refine HT.u hA hF (eI x10 :: eB (x10 == (-2 : Int)) :: []) ?_ ?_
 exact Obls.m h6 <| Obls.p (fun R' w' hw hs hd => of_eql (hd.g 0 rfl) rfl) <| Obls.nil
 intro R w hw hs hF' hA hF
 obtain ⟨h0, h3, h4, h5, h6⟩ := k5 hs h0 h3 h4 h5 h6
 have h19 := hF'.r 1 rfl
 replace f_v0 := f_v0.fr hw
 replace hO := hO.fr hw
 refine HT.cond (x10 == (-2 : Int)) h19 (fun c12 => ?_) (fun c12 => ?_)
 have hr := cnd_t c12 hr
 refine HT.seq ?_
 refine HT.u hA hF (eF (.rep eStr A ([] : List UInt8)) :: []) ?_ ?_
 exact Obls.p (fun R' w' hw hs hd => of_assign ⟨_, rfl, ⟨_, rfl, rfl, by decide⟩⟩) <| Obls.nil
 intro R w hw hs hF' hA hF
 obtain ⟨u13, h2, f_u13⟩ : ∃ u, R 2 = u ∧ Rep eStr A w u ([] : List UInt8) := ⟨_, rfl, hF' 0 _ _ rfl rfl rfl⟩
 replace hO := hO.fr hw
 replace hO : IniOK [] A w := hO.sub [] trivial
 refine HT.ret ?_
 obtain rfl := Option.some.inj hr
 have hr := hr0
 replace hr : some _ = some _ := hr
 obtain rfl := Option.some.inj hr
 exact ⟨.inr rfl, [R 2], ⟨rfl, trivial⟩, (f_u13.eq h2).down hAA, hF⟩
 have hr := cnd_f c12 hr
 refine HT.skip ?_
 refine HT.seq ?_
 refine HT.seq ?_
 refine HT.u hA hF (eI y6 :: eB (y6 == (0 : Int)) :: []) ?_ ?_
 exact Obls.m h5 <| Obls.p (fun R' w' hw hs hd => of_eql (hd.g 0 rfl) rfl) <| Obls.nil
 intro R w hw hs hF' hA hF
 obtain ⟨h0, h3, h4, h5, h6⟩ := k5 hs h0 h3 h4 h5 h6
 have h21 := hF'.r 1 rfl
 replace f_v0 := f_v0.fr hw
 replace hO := hO.fr hw
 refine HT.cond (y6 == (0 : Int)) h21 (fun c14 => ?_) (fun c14 => ?_)
 have hr := cnd_t c14 hr
 refine HT.seq ?_
 obtain ⟨e15, hr⟩ := ck_some hr
 obtain ⟨x16, q17, hr⟩ := cl_some hr
 obtain ⟨e18, hr⟩ := ck_some hr
 obtain ⟨e19, hr⟩ := ck_some hr
 refine HT.textR [ob ul_u1 (.vec w0.heap.size 5 (eInt .u8) y7)] (rR ul_u1 :: rR v0 :: (rF fun A => .rep eStr A (subL p0 0 (1 : Int))) :: (rF fun A => .rep eStr A x16) :: rU (bAt x16 (0 : Int)) :: (rF fun A => .rep (eSl (eInt .u8)) A ([(bAt x16 (0 : Int))] : List Int)) :: ⟨_, true, [0], some (.vec w0.heap.size 5 (eInt .u8) (y7 ++ ([(bAt x16 (0 : Int))] : List Int))), true, fun A => .any⟩ :: ⟨_, true, [7], some (.vec w0.heap.size 5 (eInt .u8) (y7 ++ ([(bAt x16 (0 : Int))] : List Int))), true, fun A => .any⟩ :: []) (by kernel_rfl) (by kernel_rfl) (Wf.mk' (by kernel_rfl) (ur (ur (up (up (ur (up (ua (ua (UAll.nil))))))))) (by kernel_rfl) (by kernel_rfl)) hO hA ?_ ?_
 exact OblsR.m h3 <| OblsR.m h0 <| OblsR.p (fun A' R' w' ho hd => of_slice_str_hi ((f_v0.stp ho.stp).eq (hd.g 0 rfl)) rfl Tryz.underlying9  e15) <| OblsR.p (fun A' R' w' ho hd => of_call Tryz.call133 (M_spec_FoldCase_ok (q17 rfl) ho.av (hd.g 0 rfl))) <| OblsR.p (fun A' R' w' ho hd => of_strIndex (hd.g 0 rfl) rfl Tryz.underlying9 e18) <| OblsR.p (fun A' R' w' ho hd => of_build [_] (E := eInt .u8) ⟨(rep_int.eq (hd.g 0 rfl)), trivial⟩ Tryz.underlying22 Tryz.sizeOf5 Tryz.zeroValue5 rfl rfl rfl ho.av) <| OblsR.cons (OblR.took 0 _ _ rfl rfl rfl rfl rfl fun A' R' w' ho hd u hok hav hin hop hds => by have a0 : R' 22 = ul_u1 := hd.g 0 rfl; have a1 : Rep (eSl (eInt .u8)) A' w' (R' 27) ([(bAt x16 (0 : Int))] : List Int) := hd.g 1 rfl; exact took_append (a0.trans (hin _ rfl).symm) hok hav (Nat.le_trans hF.size ho.ch.size) a1 Tryz.underlying22 el_5 e19) <| OblsR.cons (OblR.took 7 _ _ rfl rfl rfl rfl rfl fun A' R' w' ho hd u hok hav hin hop hds => by exact took_assign (hop _ _ rfl rfl rfl rfl).symm hok hav) <| OblsR.nil
 intro done ρ σ A R w hdn hI
 obtain ⟨h0, h5, h6⟩ := k3 hI.rg h0 h5 h6
 obtain ⟨u20, e_u20⟩ : ∃ u, ρ 8 = u := ⟨_, rfl⟩
 have h3 : R 3 = u20 := (hI.opvR hdn 8 7 rfl rfl rfl rfl rfl).symm.trans e_u20
 replace f_v0 := f_v0.stp hI.stp
 replace hAA := hI.low' hAA hA0 (hO.ge (⟨rfl, trivial⟩))
 replace hF : Fr w0 w := hF.tr hI.ch (hO.ge (⟨rfl, trivial⟩))
 replace hO := hI.left hdn [(8, ob u20 (.vec w0.heap.size 5 (eInt .u8) (y7 ++ ([(bAt x16 (0 : Int))] : List Int))))] ⟨rfl, rfl, e_u20, rfl, rfl, trivial⟩
 replace hA := hI.avok
 clear hI
 refine HT.seq ?_
 refine HT.u hA hF (eI x10 :: eI x10 :: []) ?_ ?_
 exact Obls.m h6 <| Obls.a <| Obls.nil
 intro R w hw hs hF' hA hF
 obtain ⟨h0, h3, h5⟩ := k3 hs h0 h3 h5
 have h4 := hF'.r 1 rfl
 replace f_v0 := f_v0.fr hw
 replace hO := hO.fr hw
 refine HT.exit ?_
 obtain ⟨e21, hr⟩ := ck_some hr
 refine HT.u hA hF (eI y6 :: eI (y6 + (1 : Int)) :: eI (y6 + (1 : Int)) :: []) ?_ ?_
 exact Obls.m h5 <| Obls.p (fun R' w' hw hs hd => of_add (hd.g 0 rfl) rfl e21) <| Obls.a <| Obls.nil
 intro R w hw hs hF' hA hF
 obtain ⟨h0, h3, h4⟩ := k3 hs h0 h3 h4
 have h5 := hF'.r 2 rfl
 replace f_v0 := f_v0.fr hw
 replace hO := hO.fr hw
 exact Exists.intro k (And.intro (Nat.lt_succ_self k) ⟨_, _, _, _, u20, hr, hA, hF, hAA, hO, h0, h3, h4, h5, f_v0⟩)
 have hr := cnd_f c14 hr
 refine HT.skip ?_
 refine HT.seq ?_
 refine HT.seq ?_
 obtain ⟨x22, q23, hr⟩ := bd_some hr
 obtain ⟨x24, q25, hr⟩ := bd_some hr
 refine HT.u hA hF (eI x10 :: eB (decide ((0 : Int) < x10)) :: eB (decide ((0 : Int) < x10)) :: gI (true && ((decide ((0 : Int) < x10)) == true)) x10 :: gI (true && ((decide ((0 : Int) < x10)) == true)) y5 :: gB (true && ((decide ((0 : Int) < x10)) == true)) (x10 != y5) :: eB x22 :: eB x22 :: gR (true && (x22 == true)) ul_u1 :: gI (true && (x22 == true)) (y7.length : Int) :: gB (true && (x22 == true)) (decide ((y7.length : Int) < (4 : Int))) :: eB x24 :: []) ?_ ?_
 exact Obls.m h6 <| Obls.p (fun R' w' hw hs hd => of_gtr (hd.g 0 rfl) rfl) <| Obls.v <| Obls.g 2 true (fun hg R' w' hw hs hd => of_move ((hs 6 rfl).trans h6)) <| Obls.g 2 true (fun hg R' w' hw hs hd => of_move ((hs 4 rfl).trans h4)) <| Obls.g 2 true (fun hg R' w' hw hs hd => of_neq (hd.h 0 hg rfl) (hd.h 1 hg rfl)) <| Obls.p (fun R' w' hw hs hd => of_pick (decide ((0 : Int) < x10)) (hd.g 0 rfl) (fun hc => by have a1 : R' 35 = .bool (x10 != y5) := hd 1 _ _ _ rfl rfl rfl rfl (g_and rfl (beq_of hc)); show _ = Value.bool x22; rw [q23, hc]; exact a1) (fun hc => by show _ = Value.bool x22; rw [q23, hc]; exact rfl)) <| Obls.v <| Obls.g 7 true (fun hg R' w' hw hs hd => of_move ((hs 3 rfl).trans h3)) <| Obls.g 7 true (fun hg R' w' hw hs hd => of_len_vec (hO.ok 0 _ rfl).1 (hd.h 0 hg rfl) Tryz.underlying22) <| Obls.g 7 true (fun hg R' w' hw hs hd => of_lss (hd.h 0 hg rfl) rfl) <| Obls.p (fun R' w' hw hs hd => of_pick x22 (hd.g 0 rfl) (fun hc => by have a1 : R' 40 = .bool (decide ((y7.length : Int) < (4 : Int))) := hd 1 _ _ _ rfl rfl rfl rfl (g_and rfl (beq_of hc)); show _ = Value.bool x24; rw [q25, hc]; exact a1) (fun hc => by show _ = Value.bool x24; rw [q25, hc]; exact rfl)) <| Obls.nil
 intro R w hw hs hF' hA hF
 obtain ⟨h0, h3, h4, h5, h6⟩ := k5 hs h0 h3 h4 h5 h6
 have h41 := hF'.r 11 rfl
 replace f_v0 := f_v0.fr hw
 replace hO := hO.fr hw
 refine HT.cond x24 h41 (fun c26 => ?_) (fun c26 => ?_)
 have hr := cnd_t c26 hr
 obtain ⟨e27, hr⟩ := ck_some hr
 obtain ⟨e28, hr⟩ := ck_some hr
 refine HT.textR [ob ul_u1 (.vec w0.heap.size 5 (eInt .u8) y7)] (rR ul_u1 :: rI x10 :: rI ((48 : Int) + x10) :: rU (IntKind.u8.wrap ((48 : Int) + x10)) :: (rF fun A => .rep (eSl (eInt .u8)) A ([(IntKind.u8.wrap ((48 : Int) + x10))] : List Int)) :: ⟨_, true, [0], some (.vec w0.heap.size 5 (eInt .u8) (y7 ++ ([(IntKind.u8.wrap ((48 : Int) + x10))] : List Int))), true, fun A => .any⟩ :: ⟨_, true, [6], some (.vec w0.heap.size 5 (eInt .u8) (y7 ++ ([(IntKind.u8.wrap ((48 : Int) + x10))] : List Int))), true, fun A => .any⟩ :: []) (by kernel_rfl) (by kernel_rfl) (Wf.mk' (by kernel_rfl) (ur (ur (ur (ur (up (ua (ua (UAll.nil)))))))) (by kernel_rfl) (by kernel_rfl)) hO hA ?_ ?_
 exact OblsR.m h3 <| OblsR.m h6 <| OblsR.p (fun A' R' w' ho hd => of_add rfl (hd.g 0 rfl) e27) <| OblsR.p (fun A' R' w' ho hd => of_conv_int (hd.g 0 rfl) Tryz.underlying3 Tryz.underlying5) <| OblsR.p (fun A' R' w' ho hd => of_build [_] (E := eInt .u8) ⟨(rep_int.eq (hd.g 0 rfl)), trivial⟩ Tryz.underlying22 Tryz.sizeOf5 Tryz.zeroValue5 rfl rfl rfl ho.av) <| OblsR.cons (OblR.took 0 _ _ rfl rfl rfl rfl rfl fun A' R' w' ho hd u hok hav hin hop hds => by have a0 : R' 42 = ul_u1 := hd.g 0 rfl; have a1 : Rep (eSl (eInt .u8)) A' w' (R' 46) ([(IntKind.u8.wrap ((48 : Int) + x10))] : List Int) := hd.g 1 rfl; exact took_append (a0.trans (hin _ rfl).symm) hok hav (Nat.le_trans hF.size ho.ch.size) a1 Tryz.underlying22 el_5 e28) <| OblsR.cons (OblR.took 6 _ _ rfl rfl rfl rfl rfl fun A' R' w' ho hd u hok hav hin hop hds => by exact took_assign (hop _ _ rfl rfl rfl rfl).symm hok hav) <| OblsR.nil
 intro done ρ σ A R w hdn hI
 obtain ⟨h0, h4, h5, h6⟩ := k4 hI.rg h0 h4 h5 h6
 obtain ⟨u29, e_u29⟩ : ∃ u, ρ 7 = u := ⟨_, rfl⟩
 have h3 : R 3 = u29 := (hI.opvR hdn 7 6 rfl rfl rfl rfl rfl).symm.trans e_u29
 replace f_v0 := f_v0.stp hI.stp
 replace hAA := hI.low' hAA hA0 (hO.ge (⟨rfl, trivial⟩))
 replace hF : Fr w0 w := hF.tr hI.ch (hO.ge (⟨rfl, trivial⟩))
 replace hO := hI.left hdn [(7, ob u29 (.vec w0.heap.size 5 (eInt .u8) (y7 ++ ([(IntKind.u8.wrap ((48 : Int) + x10))] : List Int))))] ⟨rfl, rfl, e_u29, rfl, rfl, trivial⟩
 replace hA := hI.avok
 clear hI
 refine HT.seq ?_
 refine HT.u hA hF (eI x10 :: eB (decide ((0 : Int) ≤ x10)) :: []) ?_ ?_
 exact Obls.m h6 <| Obls.p (fun R' w' hw hs hd => of_geq (hd.g 0 rfl) rfl) <| Obls.nil
 intro R w hw hs hF' hA hF
 obtain ⟨h0, h3, h4, h5, h6⟩ := k5 hs h0 h3 h4 h5 h6
 have h49 := hF'.r 1 rfl
 replace f_v0 := f_v0.fr hw
 replace hO := hO.fr hw
 refine HT.cond (decide ((0 : Int) ≤ x10)) h49 (fun c30 => ?_) (fun c30 => ?_)
 have hr := cnd_t c30 hr
 refine HT.u hA hF (eI x10 :: eI x10 :: []) ?_ ?_
 exact Obls.m h6 <| Obls.a <| Obls.nil
 intro R w hw hs hF' hA hF
 obtain ⟨h0, h3, h5⟩ := k3 hs h0 h3 h5
 have h4 := hF'.r 1 rfl
 replace f_v0 := f_v0.fr hw
 replace hO := hO.fr hw
 obtain ⟨e31, hr⟩ := ck_some hr
 refine HT.u hA hF (eI y6 :: eI (y6 + (1 : Int)) :: eI (y6 + (1 : Int)) :: []) ?_ ?_
 exact Obls.m h5 <| Obls.p (fun R' w' hw hs hd => of_add (hd.g 0 rfl) rfl e31) <| Obls.a <| Obls.nil
 intro R w hw hs hF' hA hF
 obtain ⟨h0, h3, h4⟩ := k3 hs h0 h3 h4
 have h5 := hF'.r 2 rfl
 replace f_v0 := f_v0.fr hw
 replace hO := hO.fr hw
 exact Exists.intro k (And.intro (Nat.lt_succ_self k) ⟨_, _, _, _, u29, hr, hA, hF, hAA, hO, h0, h3, h4, h5, f_v0⟩)
 have hr := cnd_f c30 hr
 refine HT.skip ?_
 obtain ⟨e32, hr⟩ := ck_some hr
 refine HT.u hA hF (eI y6 :: eI (y6 + (1 : Int)) :: eI (y6 + (1 : Int)) :: []) ?_ ?_
 exact Obls.m h5 <| Obls.p (fun R' w' hw hs hd => of_add (hd.g 0 rfl) rfl e32) <| Obls.a <| Obls.nil
 intro R w hw hs hF' hA hF
 obtain ⟨h0, h3, h4⟩ := k3 hs h0 h3 h4
 have h5 := hF'.r 2 rfl
 replace f_v0 := f_v0.fr hw
 replace hO := hO.fr hw
 exact Exists.intro k (And.intro (Nat.lt_succ_self k) ⟨_, _, _, _, u29, hr, hA, hF, hAA, hO, h0, h3, h4, h5, f_v0⟩)
 have hr := cnd_f c26 hr
 refine HT.skip ?_
 refine HT.seq ?_
 refine HT.u hA hF (eI x10 :: eB (decide ((0 : Int) ≤ x10)) :: []) ?_ ?_
 exact Obls.m h6 <| Obls.p (fun R' w' hw hs hd => of_geq (hd.g 0 rfl) rfl) <| Obls.nil
 intro R w hw hs hF' hA hF
 obtain ⟨h0, h3, h4, h5, h6⟩ := k5 hs h0 h3 h4 h5 h6
 have h49 := hF'.r 1 rfl
 replace f_v0 := f_v0.fr hw
 replace hO := hO.fr hw
 refine HT.cond (decide ((0 : Int) ≤ x10)) h49 (fun c33 => ?_) (fun c33 => ?_)
 have hr := cnd_t c33 hr
 refine HT.u hA hF (eI x10 :: eI x10 :: []) ?_ ?_
 exact Obls.m h6 <| Obls.a <| Obls.nil
 intro R w hw hs hF' hA hF
 obtain ⟨h0, h3, h5⟩ := k3 hs h0 h3 h5
 have h4 := hF'.r 1 rfl
 replace f_v0 := f_v0.fr hw
 replace hO := hO.fr hw
 obtain ⟨e34, hr⟩ := ck_some hr
 refine HT.u hA hF (eI y6 :: eI (y6 + (1 : Int)) :: eI (y6 + (1 : Int)) :: []) ?_ ?_
 exact Obls.m h5 <| Obls.p (fun R' w' hw hs hd => of_add (hd.g 0 rfl) rfl e34) <| Obls.a <| Obls.nil
 intro R w hw hs hF' hA hF
 obtain ⟨h0, h3, h4⟩ := k3 hs h0 h3 h4
 have h5 := hF'.r 2 rfl
 replace f_v0 := f_v0.fr hw
 replace hO := hO.fr hw
 exact Exists.intro k (And.intro (Nat.lt_succ_self k) ⟨_, _, _, _, ul_u1, hr, hA, hF, hAA, hO, h0, h3, h4, h5, f_v0⟩)
 have hr := cnd_f c33 hr
 refine HT.skip ?_
 obtain ⟨e35, hr⟩ := ck_some hr
 refine HT.u hA hF (eI y6 :: eI (y6 + (1 : Int)) :: eI (y6 + (1 : Int)) :: []) ?_ ?_
 exact Obls.m h5 <| Obls.p (fun R' w' hw hs hd => of_add (hd.g 0 rfl) rfl e35) <| Obls.a <| Obls.nil
 intro R w hw hs hF' hA hF
 obtain ⟨h0, h3, h4⟩ := k3 hs h0 h3 h4
 have h5 := hF'.r 2 rfl
 replace f_v0 := f_v0.fr hw
 replace hO := hO.fr hw
 exact Exists.intro k (And.intro (Nat.lt_succ_self k) ⟨_, _, _, _, ul_u1, hr, hA, hF, hAA, hO, h0, h3, h4, h5, f_v0⟩)
 have hr := cnd_f c8 hr
 refine HT.exit ?_
 obtain rfl := Option.some.inj hr
 exact Exists.intro _ ⟨_, ul_u1, rfl, hA, hF, hAA, hO, h3⟩
 rintro R w ⟨A, s4, uo_u1, rfl, hA, hF, hAA, hO, h3⟩
 have hr := exM_go hr
 refine HT.seq ?_
 refine HT.seq ?_
 refine HT.u hA hF (eR uo_u1 :: eI (s4.length : Int) :: eB ((s4.length : Int) == (0 : Int)) :: []) ?_ ?_
 exact Obls.m h3 <| Obls.p (fun R' w' hw hs hd => of_len_vec (hO.ok 0 _ rfl).1 (hd.g 0 rfl) Tryz.underlying22) <| Obls.p (fun R' w' hw hs hd => of_eql (hd.g 0 rfl) rfl) <| Obls.nil
 intro R w hw hs hF' hA hF
 replace h3 := k1 hs h3
 have h53 := hF'.r 2 rfl
 replace hO := hO.fr hw
 refine HT.cond ((s4.length : Int) == (0 : Int)) h53 (fun c36 => ?_) (fun c36 => ?_)
 have hr := cnd_t c36 hr
 refine HT.seq ?_
 refine HT.u hA hF (eF (.rep eStr A ([] : List UInt8)) :: []) ?_ ?_
 exact Obls.p (fun R' w' hw hs hd => of_assign ⟨_, rfl, ⟨_, rfl, rfl, by decide⟩⟩) <| Obls.nil
 intro R w hw hs hF' hA hF
 obtain ⟨u37, h2, f_u37⟩ : ∃ u, R 2 = u ∧ Rep eStr A w u ([] : List UInt8) := ⟨_, rfl, hF' 0 _ _ rfl rfl rfl⟩
 replace hO := hO.fr hw
 replace hO : IniOK [] A w := hO.sub [] trivial
 refine HT.ret ?_
 obtain rfl := Option.some.inj hr
 exact ⟨.inr rfl, [R 2], ⟨rfl, trivial⟩, (f_u37.eq h2).down hAA, hF⟩
 have hr := cnd_f c36 hr
 refine HT.skip ?_
 obtain ⟨rl38, q39, hr⟩ := cl_some hr
 replace q39 := q39 rfl
 refine HT.cut (fun R w => ∃ A : Av, ∃ (s40 : (List Int)) (uo_uo_u1 : Value), rl38 = s40 ∧ AvOK A w ∧ Fr w0 w ∧ (∀ b o, A0 b o → A b o) ∧ IniOK [ob uo_uo_u1 (.vec w0.heap.size 5 (eInt .u8) s40)] A w ∧ R 3 = uo_uo_u1) ?_ ?_
 refine HT.block ?_
 refine HT.loop (fun k R w => ∃ A : Av, ∃ (y41 : List Int) (ul_uo_u1 : Value), M_spec_Soundex_L1 fu k y41 = some rl38 ∧ AvOK A w ∧ Fr w0 w ∧ (∀ b o, A0 b o → A b o) ∧ IniOK [ob ul_uo_u1 (.vec w0.heap.size 5 (eInt .u8) y41)] A w ∧ R 3 = ul_uo_u1) fu ⟨_, _, uo_u1, q39, hA, hF, hAA, hO, h3⟩ ?_
 have hr0 := hr; clear hr q39
 rintro k R w ⟨A, y41, ul_uo_u1, hr, hA, hF, hAA, hO, h3⟩
 rcases k with _ | k
 cases (show none = some _ from hr)
 rw [M_spec_Soundex_L1] at hr
 refine HT.seq ?_
 refine HT.seq ?_
 refine HT.u hA hF (eR ul_uo_u1 :: eI (y41.length : Int) :: eB (decide ((y41.length : Int) < (4 : Int))) :: []) ?_ ?_
 exact Obls.m h3 <| Obls.p (fun R' w' hw hs hd => of_len_vec (hO.ok 0 _ rfl).1 (hd.g 0 rfl) Tryz.underlying22) <| Obls.p (fun R' w' hw hs hd => of_lss (hd.g 0 rfl) rfl) <| Obls.nil
 intro R w hw hs hF' hA hF
 replace h3 := k1 hs h3
 have h56 := hF'.r 2 rfl
 replace hO := hO.fr hw
 refine HT.cond (decide ((y41.length : Int) < (4 : Int))) h56 (fun c42 => ?_) (fun c42 => ?_)
 have hr := cnd_t c42 hr
 refine HT.skip ?_
 refine HT.block ?_
 obtain ⟨e43, hr⟩ := ck_some hr
 refine HT.textR [ob ul_uo_u1 (.vec w0.heap.size 5 (eInt .u8) y41)] (rR ul_uo_u1 :: (rF fun A => .rep (eSl (eInt .u8)) A ([(48 : Int)] : List Int)) :: ⟨_, true, [0], some (.vec w0.heap.size 5 (eInt .u8) (y41 ++ ([(48 : Int)] : List Int))), true, fun A => .any⟩ :: ⟨_, true, [3], some (.vec w0.heap.size 5 (eInt .u8) (y41 ++ ([(48 : Int)] : List Int))), true, fun A => .any⟩ :: []) (by kernel_rfl) (by kernel_rfl) (Wf.mk' (by kernel_rfl) (ur (up (ua (ua (UAll.nil))))) (by kernel_rfl) (by kernel_rfl)) hO hA ?_ ?_
 exact OblsR.m h3 <| OblsR.p (fun A' R' w' ho hd => of_build [_] (E := eInt .u8) ⟨(rep_int.eq rfl), trivial⟩ Tryz.underlying22 Tryz.sizeOf5 Tryz.zeroValue5 rfl rfl rfl ho.av) <| OblsR.cons (OblR.took 0 _ _ rfl rfl rfl rfl rfl fun A' R' w' ho hd u hok hav hin hop hds => by have a0 : R' 57 = ul_uo_u1 := hd.g 0 rfl; have a1 : Rep (eSl (eInt .u8)) A' w' (R' 58) ([(48 : Int)] : List Int) := hd.g 1 rfl; exact took_append (a0.trans (hin _ rfl).symm) hok hav (Nat.le_trans hF.size ho.ch.size) a1 Tryz.underlying22 el_5 e43) <| OblsR.cons (OblR.took 3 _ _ rfl rfl rfl rfl rfl fun A' R' w' ho hd u hok hav hin hop hds => by exact took_assign (hop _ _ rfl rfl rfl rfl).symm hok hav) <| OblsR.nil
 intro done ρ σ A R w hdn hI
 obtain ⟨u44, e_u44⟩ : ∃ u, ρ 4 = u := ⟨_, rfl⟩
 have h3 : R 3 = u44 := (hI.opvR hdn 4 3 rfl rfl rfl rfl rfl).symm.trans e_u44
 replace hAA := hI.low' hAA hA0 (hO.ge (⟨rfl, trivial⟩))
 replace hF : Fr w0 w := hF.tr hI.ch (hO.ge (⟨rfl, trivial⟩))
 replace hO := hI.left hdn [(4, ob u44 (.vec w0.heap.size 5 (eInt .u8) (y41 ++ ([(48 : Int)] : List Int))))] ⟨rfl, rfl, e_u44, rfl, rfl, trivial⟩
 replace hA := hI.avok
 clear hI
 exact Exists.intro k (And.intro (Nat.lt_succ_self k) ⟨_, _, u44, hr, hA, hF, hAA, hO, h3⟩)
 have hr := cnd_f c42 hr
 refine HT.exit ?_
 obtain rfl := Option.some.inj hr
 exact Exists.intro _ ⟨_, ul_uo_u1, rfl, hA, hF, hAA, hO, h3⟩
 rintro R w ⟨A, s40, uo_uo_u1, es, hA, hF, hAA, hO, h3⟩
 obtain rfl := es.symm
 refine HT.seq ?_
 refine HT.u hA hF (eR uo_uo_u1 :: eF (.rep eStr A (strB s40)) :: eF (.rep eStr A (strB s40)) :: []) ?_ ?_
 exact Obls.m h3 <| Obls.p (fun R' w' hw hs hd => of_conv_bytes ((vec_rep ((hO.fr hw).ok 0 _ rfl).1 hAA hA0).eq (hd.g 0 rfl)) Tryz.underlying22 Tryz.underlying5 Tryz.underlying9) <| Obls.p (fun R' w' hw hs hd => of_assign (hd.g 0 rfl)) <| Obls.nil
 intro R w hw hs hF' hA hF
 obtain ⟨u45, h2, f_u45⟩ : ∃ u, R 2 = u ∧ Rep eStr A w u (strB s40) := ⟨_, rfl, hF' 2 _ _ rfl rfl rfl⟩
 replace hO := hO.fr hw
 replace hO : IniOK [] A w := hO.sub [] trivial
 refine HT.ret ?_
 obtain rfl := Option.some.inj hr
 exact ⟨.inr rfl, [R 2], ⟨rfl, trivial⟩, (f_u45.eq h2).down hAA, hF⟩
def M_spec_SoundKeys_L0 (fu : Nat) (x2 : List (List UInt8)) : Nat → Int → (List (List UInt8)) → Option (List (List UInt8))
 | 0, _, _ => none
 | k + 1, y8, y9 =>
 bif (decide (y8 < (x2.length : Int))) then (
 ck (inR y8 x2.length) <|
 cl true (M_spec_Soundex fu (gtD x2 y8)) fun x12 =>
 bif (!(x12 == ([] : List UInt8))) then (
 cl true (M_spec_l3Put fu y9 x12 false) fun x16 =>
 ck (i64B (y8 + 1)) <|
 M_spec_SoundKeys_L0 fu x2 k (y8 + 1) x16
 ) else (
 ck (i64B (y8 + 1)) <|
 M_spec_SoundKeys_L0 fu x2 k (y8 + 1) y9
 )
 ) else (
 some y9
 )
def M_spec_SoundKeys (fu : Nat) (p0 : List UInt8) : Option (List (List UInt8)) :=
 cl true (M_spec_Tokens fu p0) fun x2 =>
 cl true (M_spec_SoundKeys_L0 fu x2 fu 0 ([] : List (List UInt8))) fun s7 =>
 some s7
theorem M_spec_SoundKeys_ok {fu : Nat} {A0 : Av} {p0 : List UInt8} {r : List (List UInt8)} (hr : M_spec_SoundKeys fu p0 = some r) {w : World} {v0 : Value} (hA : AvOK A0 w) (h0 : Rep eStr A0 w v0 p0) :
 Calls Tryz.prog 108 #[v0] w fun e w' => ∃ v, e = .returned v ∧ ((Res.vec w.heap.size 9 eStr r).ok (addA A0 v) v w' ∧ Fr w w') := by
 unfold M_spec_SoundKeys at hr
 obtain ⟨w0, hw0⟩ : ∃ w0, w0 = w := ⟨_, rfl⟩
 have hF : Fr w0 w := hw0 ▸ Fr.refl _
 have hA0 : ∀ b o, A0 b o → b < w0.heap.size := fun b o h => hw0 ▸ hA b o h
 have hA00 : AvOK A0 w0 := hA0
 rw [show w.heap.size = w0.heap.size from hw0 ▸ rfl]
 rw [show Fr w = Fr w0 from hw0 ▸ rfl]
 clear hw0
 obtain ⟨A, hAe⟩ : ∃ A, A = A0 := ⟨_, rfl⟩
 have hAA : ∀ b o, A0 b o → A b o := fun b o h => hAe ▸ h
 replace hA : AvOK A w := hAe ▸ hA
 have hO : IniOK [] A w := IniOK.nil
 refine calls_of_HT2 [.tmp 2] Tryz.func108 Tryz.ntmps108 (by decide) rfl rfl (Nat.le_of_ble_eq_true rfl) ?_
 intro R hR
 have f_v0 : Rep eStr A w v0 p0 := hAe ▸ h0
 replace h0 : R 0 = v0 := hR 0 _ rfl
 clear hR hAe
 refine HT.seq ?_
 refine HT.u hA hF (eA :: []) ?_ ?_
 exact Obls.p (fun R' w' hw hs hd => of_assign trivial) <| Obls.nil
 intro R w hw hs hF' hA hF
 replace h0 := k1 hs h0
 replace f_v0 := f_v0.fr hw
 replace hO := hO.fr hw
 refine HT.seq ?_
 refine HT.textR [] (⟨_, true, [], some (.vec w0.heap.size 9 eStr ([] : List (List UInt8))), true, fun A => .any⟩ :: ⟨_, true, [0], some (.vec w0.heap.size 9 eStr ([] : List (List UInt8))), true, fun A => .any⟩ :: []) (by kernel_rfl) (by kernel_rfl) (Wf.mk' (by kernel_rfl) (ua (ua (UAll.nil))) (by kernel_rfl) (by kernel_rfl)) hO hA ?_ ?_
 exact OblsR.cons (OblR.made _ rfl rfl rfl rfl fun A' R' w' ho hd => by exact made_build [] (E := eStr) trivial Tryz.underlying46 Tryz.sizeOf9 Tryz.zeroValue9 rfl rfl rfl (Nat.le_trans hF.size ho.ch.size)) <| OblsR.cons (OblR.took 0 _ _ rfl rfl rfl rfl rfl fun A' R' w' ho hd u hok hav hin hop hds => by exact took_assign (hop _ _ rfl rfl rfl rfl).symm hok hav) <| OblsR.nil
 intro done ρ σ A R w hdn hI
 replace h0 := k1 hI.rg h0
 obtain ⟨u1, e_u1⟩ : ∃ u, ρ 1 = u := ⟨_, rfl⟩
 have h3 : R 3 = u1 := (hI.opvR hdn 1 1 rfl rfl rfl rfl rfl).symm.trans e_u1
 replace f_v0 := f_v0.stp hI.stp
 replace hAA := hI.low' hAA hA0 (hO.ge (trivial))
 replace hF : Fr w0 w := hF.tr hI.ch (hO.ge (trivial))
 replace hO := hI.left hdn [(1, ob u1 (.vec w0.heap.size 9 eStr ([] : List (List UInt8))))] ⟨rfl, rfl, e_u1, rfl, rfl, trivial⟩
 replace hA := hI.avok
 clear hI
 refine HT.seq ?_
 obtain ⟨x2, q3, hr⟩ := cl_some hr
 refine HT.u hA hF (eR v0 :: eF (.rep (eSl eStr) A x2) :: eF (.rep (eSl eStr) A x2) :: []) ?_ ?_
 exact Obls.m h0 <| Obls.p (fun R' w' hw hs hd => of_call Tryz.call111 (M_spec_Tokens_okR (q3 rfl) (hA.fr hw.size) ((f_v0.fr hw).eq (hd.g 0 rfl)))) <| Obls.p (fun R' w' hw hs hd => of_assign (hd.g 0 rfl)) <| Obls.nil
 intro R w hw hs hF' hA hF
 replace h3 := k1 hs h3
 obtain ⟨u4, h4, f_u4⟩ : ∃ u, R 4 = u ∧ Rep (eSl eStr) A w u x2 := ⟨_, rfl, hF' 2 _ _ rfl rfl rfl⟩
 replace hO := hO.fr hw
 refine HT.seq ?_
 refine HT.seq ?_
 refine HT.u hA hF (eI 0 :: []) ?_ ?_
 exact Obls.p (fun R' w' hw hs hd => of_assign rfl) <| Obls.nil
 intro R w hw hs hF' hA hF
 obtain ⟨h3, h4⟩ := k2 hs h3 h4
 have h5 := hF'.r 0 rfl
 replace f_u4 := f_u4.fr hw
 replace hO := hO.fr hw
 obtain ⟨rl5, q6, hr⟩ := cl_some hr
 replace q6 := q6 rfl
 refine HT.cut0 (fun R w => ∃ A : Av, ∃ (s7 : (List (List UInt8))) (uo_u1 : Value), rl5 = s7 ∧ AvOK A w ∧ Fr w0 w ∧ (∀ b o, A0 b o → A b o) ∧ IniOK [ob uo_u1 (.vec w0.heap.size 9 eStr s7)] A w ∧ R 3 = uo_u1) ?_ ?_
 refine HT.block ?_
 refine HT.loop (fun k R w => ∃ A : Av, ∃ (y8 : Int) (y9 : List (List UInt8)) (ul_u1 : Value), M_spec_SoundKeys_L0 fu x2 k y8 y9 = some rl5 ∧ AvOK A w ∧ Fr w0 w ∧ (∀ b o, A0 b o → A b o) ∧ IniOK [ob ul_u1 (.vec w0.heap.size 9 eStr y9)] A w ∧ R 3 = ul_u1 ∧ R 4 = u4 ∧ R 5 = .int .i64 y8 ∧ Rep (eSl eStr) A w u4 x2) fu ⟨_, _, _, u1, q6, hA, hF, hAA, hO, h3, h4, h5, f_u4⟩ ?_
 have hr0 := hr; clear hr q6
 rintro k R w ⟨A, y8, y9, ul_u1, hr, hA, hF, hAA, hO, h3, h4, h5, f_u4⟩
 rcases k with _ | k
 cases (show none = some _ from hr)
 rw [M_spec_SoundKeys_L0] at hr
 refine HT.seq ?_
 refine HT.seq ?_
 refine HT.u hA hF (eI y8 :: eR u4 :: eI (x2.length : Int) :: eB (decide (y8 < (x2.length : Int))) :: []) ?_ ?_
 exact Obls.m h5 <| Obls.m h4 <| Obls.p (fun R' w' hw hs hd => of_len_sl (aT := #[]) ((f_u4.fr hw).eq (hd.g 0 rfl)) Tryz.underlying46) <| Obls.p (fun R' w' hw hs hd => of_lss (hd.g 0 rfl) (hd.g 1 rfl)) <| Obls.nil
 intro R w hw hs hF' hA hF
 obtain ⟨h3, h4, h5⟩ := k3 hs h3 h4 h5
 have h13 := hF'.r 3 rfl
 replace f_u4 := f_u4.fr hw
 replace hO := hO.fr hw
 refine HT.cond (decide (y8 < (x2.length : Int))) h13 (fun c10 => ?_) (fun c10 => ?_)
 have hr := cnd_t c10 hr
 refine HT.skip ?_
 refine HT.seq ?_
 refine HT.block ?_
 refine HT.seq ?_
 obtain ⟨e11, hr⟩ := ck_some hr
 obtain ⟨x12, q13, hr⟩ := cl_some hr
 refine HT.u hA hF (eR u4 :: eI y8 :: eF (.qtr eStr A (gtD x2 y8)) :: eF (.rep eStr A (gtD x2 y8)) :: eF (.rep eStr A x12) :: eF (.rep eStr A x12) :: []) ?_ ?_
 exact Obls.m h4 <| Obls.m h5 <| Obls.p (fun R' w' hw hs hd => of_indexAddr ((f_u4.fr hw).eq (hd.g 0 rfl)) (hd.g 1 rfl) Tryz.underlying46 Tryz.sizeOf9 e11) <| Obls.p (fun R' w' hw hs hd => (of_load (QRep.ptr (hd.g 0 rfl)) Tryz.isAgg9 Tryz.sizeOf9)) <| Obls.p (fun R' w' hw hs hd => of_call Tryz.call159 (M_spec_Soundex_ok (q13 rfl) (hA.fr hw.size) (hd.g 0 rfl))) <| Obls.p (fun R' w' hw hs hd => of_assign (hd.g 0 rfl)) <| Obls.nil
 intro R w hw hs hF' hA hF
 obtain ⟨h3, h4, h5⟩ := k3 hs h3 h4 h5
 obtain ⟨u14, h6, f_u14⟩ : ∃ u, R 6 = u ∧ Rep eStr A w u x12 := ⟨_, rfl, hF' 5 _ _ rfl rfl rfl⟩
 replace f_u4 := f_u4.fr hw
 replace hO := hO.fr hw
 refine HT.seq ?_
 refine HT.u hA hF (eR u14 :: eB (!(x12 == ([] : List UInt8))) :: []) ?_ ?_
 exact Obls.m h6 <| Obls.p (fun R' w' hw hs hd => of_sneq ((f_u14.fr hw).eq (hd.g 0 rfl)) ⟨_, rfl, ⟨_, rfl, rfl, by decide⟩⟩) <| Obls.nil
 intro R w hw hs hF' hA hF
 obtain ⟨h3, h4, h5, h6⟩ := k4 hs h3 h4 h5 h6
 have h22 := hF'.r 1 rfl
 replace f_u14 := f_u14.fr hw
 replace f_u4 := f_u4.fr hw
 replace hO := hO.fr hw
 refine HT.cond (!(x12 == ([] : List UInt8))) h22 (fun c15 => ?_) (fun c15 => ?_)
 have hr := cnd_t c15 hr
 obtain ⟨x16, q17, hr⟩ := cl_some hr
 refine HT.textR [ob ul_u1 (.vec w0.heap.size 9 eStr y9)] (rR ul_u1 :: rR u14 :: ⟨_, true, [0], some (.vec w0.heap.size 9 eStr x16), true, fun A => .any⟩ :: ⟨_, true, [3], some (.vec w0.heap.size 9 eStr x16), true, fun A => .any⟩ :: []) (by kernel_rfl) (by kernel_rfl) (Wf.mk' (by kernel_rfl) (ur (ur (ua (ua (UAll.nil))))) (by kernel_rfl) (by kernel_rfl)) hO hA ?_ ?_
 exact OblsR.m h3 <| OblsR.m h6 <| OblsR.cons (OblR.took 0 _ _ rfl rfl rfl rfl rfl fun A' R' w' ho hd u hok hav hin hop hds => by have a0 : R' 23 = ul_u1 := hd.g 0 rfl; have a1 : R' 24 = u14 := hd.g 1 rfl; have ra1 := (f_u14.stp ho.stp).eq a1; have hu0 : evalR R' (.tmp 23) = u := a0.trans (hin _ rfl).symm; exact took_callm Tryz.call109 hav (by simp only [List.map, hu0]; exact M_spec_l3Put_ok (q17 rfl) (ho.av.sub _) (fun b o h => h.2) (Nat.le_trans hF.size ho.ch.size) (Vec.flat hok (fun _ _ _ _ _ h => h)) (ra1.less fun b o h => h.1) rfl)) <| OblsR.cons (OblR.took 3 _ _ rfl rfl rfl rfl rfl fun A' R' w' ho hd u hok hav hin hop hds => by exact took_assign (hop _ _ rfl rfl rfl rfl).symm hok hav) <| OblsR.nil
 intro done ρ σ A R w hdn hI
 obtain ⟨h4, h5⟩ := k2 hI.rg h4 h5
 obtain ⟨u18, e_u18⟩ : ∃ u, ρ 4 = u := ⟨_, rfl⟩
 have h3 : R 3 = u18 := (hI.opvR hdn 4 3 rfl rfl rfl rfl rfl).symm.trans e_u18
 replace f_u4 := f_u4.stp hI.stp
 replace hAA := hI.low' hAA hA0 (hO.ge (⟨rfl, trivial⟩))
 replace hF : Fr w0 w := hF.tr hI.ch (hO.ge (⟨rfl, trivial⟩))
 replace hO := hI.left hdn [(4, ob u18 (.vec w0.heap.size 9 eStr x16))] ⟨rfl, rfl, e_u18, rfl, rfl, trivial⟩
 replace hA := hI.avok
 clear hI
 obtain ⟨e19, hr⟩ := ck_some hr
 refine HT.u hA hF (eI y8 :: eI (y8 + (1 : Int)) :: eI (y8 + (1 : Int)) :: []) ?_ ?_
 exact Obls.m h5 <| Obls.p (fun R' w' hw hs hd => of_add (hd.g 0 rfl) rfl e19) <| Obls.a <| Obls.nil
 intro R w hw hs hF' hA hF
 obtain ⟨h3, h4⟩ := k2 hs h3 h4
 have h5 := hF'.r 2 rfl
 replace f_u4 := f_u4.fr hw
 replace hO := hO.fr hw
 exact Exists.intro k (And.intro (Nat.lt_succ_self k) ⟨_, _, _, u18, hr, hA, hF, hAA, hO, h3, h4, h5, f_u4⟩)
 have hr := cnd_f c15 hr
 refine HT.skip ?_
 obtain ⟨e20, hr⟩ := ck_some hr
 refine HT.u hA hF (eI y8 :: eI (y8 + (1 : Int)) :: eI (y8 + (1 : Int)) :: []) ?_ ?_
 exact Obls.m h5 <| Obls.p (fun R' w' hw hs hd => of_add (hd.g 0 rfl) rfl e20) <| Obls.a <| Obls.nil
 intro R w hw hs hF' hA hF
 obtain ⟨h3, h4⟩ := k2 hs h3 h4
 have h5 := hF'.r 2 rfl
 replace f_u4 := f_u4.fr hw
 replace hO := hO.fr hw
 exact Exists.intro k (And.intro (Nat.lt_succ_self k) ⟨_, _, _, ul_u1, hr, hA, hF, hAA, hO, h3, h4, h5, f_u4⟩)
 have hr := cnd_f c10 hr
 refine HT.exit ?_
 obtain rfl := Option.some.inj hr
 exact Exists.intro _ ⟨_, ul_u1, rfl, hA, hF, hAA, hO, h3⟩
 rintro R w ⟨A, s7, uo_u1, es, hA, hF, hAA, hO, h3⟩
 obtain rfl := es.symm
 refine HT.seq ?_
 refine HT.u hA hF (eR uo_u1 :: eR uo_u1 :: []) ?_ ?_
 exact Obls.m h3 <| Obls.a <| Obls.nil
 intro R w hw hs hF' hA hF
 have h2 := hF'.r 1 rfl
 replace hO := hO.fr hw
 refine HT.ret ?_
 obtain rfl := Option.some.inj hr
 exact ⟨.inr rfl, [R 2], ⟨rfl, trivial⟩, (own_post (hO.ok 0 _ rfl) hAA h2), hF⟩
theorem M_spec_SoundKeys_okR {fu : Nat} {A0 : Av} {p0 : List UInt8} {r : List (List UInt8)} (hr : M_spec_SoundKeys fu p0 = some r) {w : World} {v0 : Value} (hA : AvOK A0 w) (h0 : Rep eStr A0 w v0 p0) :
 Calls Tryz.prog 108 #[v0] w fun e w' => ∃ v, e = .returned v ∧ (Rep (eSl eStr) A0 w' v r ∧ Fr w w') := by
 refine Calls.mono (M_spec_SoundKeys_ok hr hA h0) ?_
 rintro e w' ⟨v, he, hv, hf⟩
 exact ⟨v, he, vec_rep hv (fun b o h => .inl h) hA, hf⟩
def M_spec_DigitsOf_L0 (fu : Nat) (p0 : List UInt8) : Nat → Int → (List Int) → Option (List Int)
 | 0, _, _ => none
 | k + 1, y5, y6 =>
 bif (decide (y5 < (p0.length : Int))) then (
 ck (inR y5 p0.length) <|
 ck (!(true && ((decide (48 ≤ (bAt p0 y5))) == true)) || inR y5 p0.length) <|
 bd ((decide (48 ≤ (bAt p0 y5))) && (decide ((bAt p0 y5) ≤ 57))) fun x10 =>
 bif x10 then (
 ck (inR y5 p0.length) <|
 ck (lenOK (y6.length + ([(bAt p0 y5)] : List Int).length)) <|
 ck (i64B (y5 + 1)) <|
 M_spec_DigitsOf_L0 fu p0 k (y5 + 1) (y6 ++ ([(bAt p0 y5)] : List Int))
 ) else (
 ck (i64B (y5 + 1)) <|
 M_spec_DigitsOf_L0 fu p0 k (y5 + 1) y6
 )
 ) else (
 some y6
 )
def M_spec_DigitsOf (fu : Nat) (p0 : List UInt8) : Option (List UInt8) :=
 cl true (M_spec_DigitsOf_L0 fu p0 fu 0 ([] : List Int)) fun s4 =>
 some (strB s4)
theorem M_spec_DigitsOf_ok {fu : Nat} {A0 : Av} {p0 : List UInt8} {r : List UInt8} (hr : M_spec_DigitsOf fu p0 = some r) {w : World} {v0 : Value} (hA : AvOK A0 w) (h0 : Rep eStr A0 w v0 p0) :
 Calls Tryz.prog 110 #[v0] w fun e w' => ∃ v, e = .returned v ∧ (Rep eStr A0 w' v r ∧ Fr w w') := by
 unfold M_spec_DigitsOf at hr
 obtain ⟨w0, hw0⟩ : ∃ w0, w0 = w := ⟨_, rfl⟩
 have hF : Fr w0 w := hw0 ▸ Fr.refl _
 have hA0 : ∀ b o, A0 b o → b < w0.heap.size := fun b o h => hw0 ▸ hA b o h
 have hA00 : AvOK A0 w0 := hA0
 rw [show Fr w = Fr w0 from hw0 ▸ rfl]
 clear hw0
 obtain ⟨A, hAe⟩ : ∃ A, A = A0 := ⟨_, rfl⟩
 have hAA : ∀ b o, A0 b o → A b o := fun b o h => hAe ▸ h
 replace hA : AvOK A w := hAe ▸ hA
 have hO : IniOK [] A w := IniOK.nil
 refine calls_of_HT2 [.tmp 2] Tryz.func110 Tryz.ntmps110 (by decide) rfl rfl (Nat.le_of_ble_eq_true rfl) ?_
 intro R hR
 have f_v0 : Rep eStr A w v0 p0 := hAe ▸ h0
 replace h0 : R 0 = v0 := hR 0 _ rfl
 clear hR hAe
 refine HT.seq ?_
 refine HT.u hA hF (eF (.rep eStr A ([] : List UInt8)) :: []) ?_ ?_
 exact Obls.p (fun R' w' hw hs hd => of_assign ⟨_, rfl, ⟨_, rfl, rfl, by decide⟩⟩) <| Obls.nil
 intro R w hw hs hF' hA hF
 replace h0 := k1 hs h0
 replace f_v0 := f_v0.fr hw
 replace hO := hO.fr hw
 refine HT.seq ?_
 refine HT.textR [] (⟨_, true, [], some (.vec w0.heap.size 5 (eInt .u8) ([] : List Int)), true, fun A => .any⟩ :: ⟨_, true, [0], some (.vec w0.heap.size 5 (eInt .u8) ([] : List Int)), true, fun A => .any⟩ :: []) (by kernel_rfl) (by kernel_rfl) (Wf.mk' (by kernel_rfl) (ua (ua (UAll.nil))) (by kernel_rfl) (by kernel_rfl)) hO hA ?_ ?_
 exact OblsR.cons (OblR.made _ rfl rfl rfl rfl fun A' R' w' ho hd => by exact made_build [] (E := eInt .u8) trivial Tryz.underlying22 Tryz.sizeOf5 Tryz.zeroValue5 rfl rfl rfl (Nat.le_trans hF.size ho.ch.size)) <| OblsR.cons (OblR.took 0 _ _ rfl rfl rfl rfl rfl fun A' R' w' ho hd u hok hav hin hop hds => by exact took_assign (hop _ _ rfl rfl rfl rfl).symm hok hav) <| OblsR.nil
 intro done ρ σ A R w hdn hI
 replace h0 := k1 hI.rg h0
 obtain ⟨u1, e_u1⟩ : ∃ u, ρ 1 = u := ⟨_, rfl⟩
 have h3 : R 3 = u1 := (hI.opvR hdn 1 1 rfl rfl rfl rfl rfl).symm.trans e_u1
 replace f_v0 := f_v0.stp hI.stp
 replace hAA := hI.low' hAA hA0 (hO.ge (trivial))
 replace hF : Fr w0 w := hF.tr hI.ch (hO.ge (trivial))
 replace hO := hI.left hdn [(1, ob u1 (.vec w0.heap.size 5 (eInt .u8) ([] : List Int)))] ⟨rfl, rfl, e_u1, rfl, rfl, trivial⟩
 replace hA := hI.avok
 clear hI
 refine HT.seq ?_
 refine HT.seq ?_
 refine HT.u hA hF (eI 0 :: []) ?_ ?_
 exact Obls.p (fun R' w' hw hs hd => of_assign rfl) <| Obls.nil
 intro R w hw hs hF' hA hF
 obtain ⟨h0, h3⟩ := k2 hs h0 h3
 have h4 := hF'.r 0 rfl
 replace f_v0 := f_v0.fr hw
 replace hO := hO.fr hw
 obtain ⟨rl2, q3, hr⟩ := cl_some hr
 replace q3 := q3 rfl
 refine HT.cut0 (fun R w => ∃ A : Av, ∃ (s4 : (List Int)) (uo_u1 : Value), rl2 = s4 ∧ AvOK A w ∧ Fr w0 w ∧ (∀ b o, A0 b o → A b o) ∧ IniOK [ob uo_u1 (.vec w0.heap.size 5 (eInt .u8) s4)] A w ∧ R 3 = uo_u1) ?_ ?_
 refine HT.block ?_
 refine HT.loop (fun k R w => ∃ A : Av, ∃ (y5 : Int) (y6 : List Int) (ul_u1 : Value), M_spec_DigitsOf_L0 fu p0 k y5 y6 = some rl2 ∧ AvOK A w ∧ Fr w0 w ∧ (∀ b o, A0 b o → A b o) ∧ IniOK [ob ul_u1 (.vec w0.heap.size 5 (eInt .u8) y6)] A w ∧ R 0 = v0 ∧ R 3 = ul_u1 ∧ R 4 = .int .i64 y5 ∧ Rep eStr A w v0 p0) fu ⟨_, _, _, u1, q3, hA, hF, hAA, hO, h0, h3, h4, f_v0⟩ ?_
 have hr0 := hr; clear hr q3
 rintro k R w ⟨A, y5, y6, ul_u1, hr, hA, hF, hAA, hO, h0, h3, h4, f_v0⟩
 rcases k with _ | k
 cases (show none = some _ from hr)
 rw [M_spec_DigitsOf_L0] at hr
 refine HT.seq ?_
 refine HT.seq ?_
 refine HT.u hA hF (eI y5 :: eR v0 :: eI (p0.length : Int) :: eB (decide (y5 < (p0.length : Int))) :: []) ?_ ?_
 exact Obls.m h4 <| Obls.m h0 <| Obls.p (fun R' w' hw hs hd => of_len_str ((f_v0.fr hw).eq (hd.g 0 rfl)) Tryz.underlying9) <| Obls.p (fun R' w' hw hs hd => of_lss (hd.g 0 rfl) (hd.g 1 rfl)) <| Obls.nil
 intro R w hw hs hF' hA hF
 obtain ⟨h0, h3, h4⟩ := k3 hs h0 h3 h4
 have h9 := hF'.r 3 rfl
 replace f_v0 := f_v0.fr hw
 replace hO := hO.fr hw
 refine HT.cond (decide (y5 < (p0.length : Int))) h9 (fun c7 => ?_) (fun c7 => ?_)
 have hr := cnd_t c7 hr
 refine HT.skip ?_
 refine HT.seq ?_
 refine HT.block ?_
 refine HT.seq ?_
 obtain ⟨e8, hr⟩ := ck_some hr
 obtain ⟨e9, hr⟩ := ck_some hr
 obtain ⟨x10, q11, hr⟩ := bd_some hr
 refine HT.u hA hF (eR v0 :: eI y5 :: eU (bAt p0 y5) :: eB (decide ((48 : Int) ≤ (bAt p0 y5))) :: eB (decide ((48 : Int) ≤ (bAt p0 y5))) :: gR (true && ((decide ((48 : Int) ≤ (bAt p0 y5))) == true)) v0 :: gI (true && ((decide ((48 : Int) ≤ (bAt p0 y5))) == true)) y5 :: gU (true && ((decide ((48 : Int) ≤ (bAt p0 y5))) == true)) (bAt p0 y5) :: gB (true && ((decide ((48 : Int) ≤ (bAt p0 y5))) == true)) (decide ((bAt p0 y5) ≤ (57 : Int))) :: eB x10 :: []) ?_ ?_
 exact Obls.m h0 <| Obls.m h4 <| Obls.p (fun R' w' hw hs hd => of_strIndex ((f_v0.fr hw).eq (hd.g 0 rfl)) (hd.g 1 rfl) Tryz.underlying9 e8) <| Obls.p (fun R' w' hw hs hd => of_geq (hd.g 0 rfl) rfl) <| Obls.v <| Obls.g 4 true (fun hg R' w' hw hs hd => of_move ((hs 0 rfl).trans h0)) <| Obls.g 4 true (fun hg R' w' hw hs hd => of_move ((hs 4 rfl).trans h4)) <| Obls.g 4 true (fun hg R' w' hw hs hd => of_strIndex ((f_v0.fr hw).eq (hd.h 0 hg rfl)) (hd.h 1 hg rfl) Tryz.underlying9 (gd e9 hg)) <| Obls.g 4 true (fun hg R' w' hw hs hd => of_leq (hd.h 0 hg rfl) rfl) <| Obls.p (fun R' w' hw hs hd => of_pick (decide ((48 : Int) ≤ (bAt p0 y5))) (hd.g 0 rfl) (fun hc => by have a1 : R' 20 = .bool (decide ((bAt p0 y5) ≤ (57 : Int))) := hd 1 _ _ _ rfl rfl rfl rfl (g_and rfl (beq_of hc)); show _ = Value.bool x10; rw [q11, hc]; exact a1) (fun hc => by show _ = Value.bool x10; rw [q11, hc]; exact rfl)) <| Obls.nil
 intro R w hw hs hF' hA hF
 obtain ⟨h0, h3, h4⟩ := k3 hs h0 h3 h4
 have h21 := hF'.r 9 rfl
 replace f_v0 := f_v0.fr hw
 replace hO := hO.fr hw
 refine HT.cond x10 h21 (fun c12 => ?_) (fun c12 => ?_)
 have hr := cnd_t c12 hr
 obtain ⟨e13, hr⟩ := ck_some hr
 obtain ⟨e14, hr⟩ := ck_some hr
 refine HT.textR [ob ul_u1 (.vec w0.heap.size 5 (eInt .u8) y6)] (rR ul_u1 :: rR v0 :: rI y5 :: rU (bAt p0 y5) :: (rF fun A => .rep (eSl (eInt .u8)) A ([(bAt p0 y5)] : List Int)) :: ⟨_, true, [0], some (.vec w0.heap.size 5 (eInt .u8) (y6 ++ ([(bAt p0 y5)] : List Int))), true, fun A => .any⟩ :: ⟨_, true, [6], some (.vec w0.heap.size 5 (eInt .u8) (y6 ++ ([(bAt p0 y5)] : List Int))), true, fun A => .any⟩ :: []) (by kernel_rfl) (by kernel_rfl) (Wf.mk' (by kernel_rfl) (ur (ur (ur (ur (up (ua (ua (UAll.nil)))))))) (by kernel_rfl) (by kernel_rfl)) hO hA ?_ ?_
 exact OblsR.m h3 <| OblsR.m h0 <| OblsR.m h4 <| OblsR.p (fun A' R' w' ho hd => of_strIndex ((f_v0.stp ho.stp).eq (hd.g 0 rfl)) (hd.g 1 rfl) Tryz.underlying9 e13) <| OblsR.p (fun A' R' w' ho hd => of_build [_] (E := eInt .u8) ⟨(rep_int.eq (hd.g 0 rfl)), trivial⟩ Tryz.underlying22 Tryz.sizeOf5 Tryz.zeroValue5 rfl rfl rfl ho.av) <| OblsR.cons (OblR.took 0 _ _ rfl rfl rfl rfl rfl fun A' R' w' ho hd u hok hav hin hop hds => by have a0 : R' 22 = ul_u1 := hd.g 0 rfl; have a1 : Rep (eSl (eInt .u8)) A' w' (R' 26) ([(bAt p0 y5)] : List Int) := hd.g 1 rfl; exact took_append (a0.trans (hin _ rfl).symm) hok hav (Nat.le_trans hF.size ho.ch.size) a1 Tryz.underlying22 el_5 e14) <| OblsR.cons (OblR.took 6 _ _ rfl rfl rfl rfl rfl fun A' R' w' ho hd u hok hav hin hop hds => by exact took_assign (hop _ _ rfl rfl rfl rfl).symm hok hav) <| OblsR.nil
 intro done ρ σ A R w hdn hI
 obtain ⟨h0, h4⟩ := k2 hI.rg h0 h4
 obtain ⟨u15, e_u15⟩ : ∃ u, ρ 7 = u := ⟨_, rfl⟩
 have h3 : R 3 = u15 := (hI.opvR hdn 7 6 rfl rfl rfl rfl rfl).symm.trans e_u15
 replace f_v0 := f_v0.stp hI.stp
 replace hAA := hI.low' hAA hA0 (hO.ge (⟨rfl, trivial⟩))
 replace hF : Fr w0 w := hF.tr hI.ch (hO.ge (⟨rfl, trivial⟩))
 replace hO := hI.left hdn [(7, ob u15 (.vec w0.heap.size 5 (eInt .u8) (y6 ++ ([(bAt p0 y5)] : List Int))))] ⟨rfl, rfl, e_u15, rfl, rfl, trivial⟩
 replace hA := hI.avok
 clear hI
 obtain ⟨e16, hr⟩ := ck_some hr
 refine HT.u hA hF (eI y5 :: eI (y5 + (1 : Int)) :: eI (y5 + (1 : Int)) :: []) ?_ ?_
 exact Obls.m h4 <| Obls.p (fun R' w' hw hs hd => of_add (hd.g 0 rfl) rfl e16) <| Obls.a <| Obls.nil
 intro R w hw hs hF' hA hF
 obtain ⟨h0, h3⟩ := k2 hs h0 h3
 have h4 := hF'.r 2 rfl
 replace f_v0 := f_v0.fr hw
 replace hO := hO.fr hw
 exact Exists.intro k (And.intro (Nat.lt_succ_self k) ⟨_, _, _, u15, hr, hA, hF, hAA, hO, h0, h3, h4, f_v0⟩)
 have hr := cnd_f c12 hr
 refine HT.skip ?_
 obtain ⟨e17, hr⟩ := ck_some hr
 refine HT.u hA hF (eI y5 :: eI (y5 + (1 : Int)) :: eI (y5 + (1 : Int)) :: []) ?_ ?_
 exact Obls.m h4 <| Obls.p (fun R' w' hw hs hd => of_add (hd.g 0 rfl) rfl e17) <| Obls.a <| Obls.nil
 intro R w hw hs hF' hA hF
 obtain ⟨h0, h3⟩ := k2 hs h0 h3
 have h4 := hF'.r 2 rfl
 replace f_v0 := f_v0.fr hw
 replace hO := hO.fr hw
 exact Exists.intro k (And.intro (Nat.lt_succ_self k) ⟨_, _, _, ul_u1, hr, hA, hF, hAA, hO, h0, h3, h4, f_v0⟩)
 have hr := cnd_f c7 hr
 refine HT.exit ?_
 obtain rfl := Option.some.inj hr
 exact Exists.intro _ ⟨_, ul_u1, rfl, hA, hF, hAA, hO, h3⟩
 rintro R w ⟨A, s4, uo_u1, es, hA, hF, hAA, hO, h3⟩
 obtain rfl := es.symm
 refine HT.seq ?_
 refine HT.u hA hF (eR uo_u1 :: eF (.rep eStr A (strB s4)) :: eF (.rep eStr A (strB s4)) :: []) ?_ ?_
 exact Obls.m h3 <| Obls.p (fun R' w' hw hs hd => of_conv_bytes ((vec_rep ((hO.fr hw).ok 0 _ rfl).1 hAA hA0).eq (hd.g 0 rfl)) Tryz.underlying22 Tryz.underlying5 Tryz.underlying9) <| Obls.p (fun R' w' hw hs hd => of_assign (hd.g 0 rfl)) <| Obls.nil
 intro R w hw hs hF' hA hF
 obtain ⟨u18, h2, f_u18⟩ : ∃ u, R 2 = u ∧ Rep eStr A w u (strB s4) := ⟨_, rfl, hF' 2 _ _ rfl rfl rfl⟩
 replace hO := hO.fr hw
 replace hO : IniOK [] A w := hO.sub [] trivial
 refine HT.ret ?_
 obtain rfl := Option.some.inj hr
 exact ⟨.inr rfl, [R 2], ⟨rfl, trivial⟩, (f_u18.eq h2).down hAA, hF⟩
def M_spec_FormatInt_L0 (fu : Nat) : Nat → Int → (List UInt8) → Option (List UInt8)
 | 0, _, _ => none
 | k + 1, y7, y8 =>
 bif (y7 != 0) then (
 ck ((10 : Int) != 0) <|
 bif (decide ((y7.tmod 10) < 0)) then (
 ck (i64B (0 - (y7.tmod 10))) <|
 ck (i64B (48 + (0 - (y7.tmod 10)))) <|
 ck (lenOK ((strB ([(IntKind.u8.wrap (48 + (0 - (y7.tmod 10))))] : List Int)) ++ y8).length) <|
 ck ((10 : Int) != 0) <|
 ck (i64B (y7.tdiv 10)) <|
 M_spec_FormatInt_L0 fu k (y7.tdiv 10) ((strB ([(IntKind.u8.wrap (48 + (0 - (y7.tmod 10))))] : List Int)) ++ y8)
 ) else (
 ck (i64B (48 + (y7.tmod 10))) <|
 ck (lenOK ((strB ([(IntKind.u8.wrap (48 + (y7.tmod 10)))] : List Int)) ++ y8).length) <|
 ck ((10 : Int) != 0) <|
 ck (i64B (y7.tdiv 10)) <|
 M_spec_FormatInt_L0 fu k (y7.tdiv 10) ((strB ([(IntKind.u8.wrap (48 + (y7.tmod 10)))] : List Int)) ++ y8)
 )
 ) else (
 some y8
 )
def M_spec_FormatInt (fu : Nat) (p0 : Int) : Option (List UInt8) :=
 bif (p0 == 0) then (
 some ([48] : List UInt8)
 ) else (
 cl true (M_spec_FormatInt_L0 fu fu p0 ([] : List UInt8)) fun s6 =>
 bif (decide (p0 < 0)) then (
 ck (lenOK (([45] : List UInt8) ++ s6).length) <|
 some (([45] : List UInt8) ++ s6)
 ) else (
 some s6
 )
 )
theorem M_spec_FormatInt_ok {fu : Nat} {A : Av} {p0 : Int} {r : List UInt8} (hr : M_spec_FormatInt fu p0 = some r) {w : World} {v0 : Value} (hA : AvOK A w) (h0 : v0 = .int .i64 p0) :
 Calls Tryz.prog 88 #[v0] w fun e w' => ∃ v, e = .returned v ∧ (Rep eStr A w' v r ∧ Fr w w') := by
 unfold M_spec_FormatInt at hr
 obtain ⟨w0, hw0⟩ : ∃ w0, w0 = w := ⟨_, rfl⟩
 have hF : Fr w0 w := hw0 ▸ Fr.refl _
 rw [show Fr w = Fr w0 from hw0 ▸ rfl]
 clear hw0
 refine calls_of_HT2 [.tmp 2] Tryz.func88 Tryz.ntmps88 (by decide) rfl rfl (Nat.le_of_ble_eq_true rfl) ?_
 intro R hR
 replace h0 : R 0 = .int .i64 p0 := (hR 0 _ rfl).trans h0
 clear hR
 refine HT.seq ?_
 refine HT.u hA hF (eF (.rep eStr A ([] : List UInt8)) :: []) ?_ ?_
 exact Obls.p (fun R' w' hw hs hd => of_assign ⟨_, rfl, ⟨_, rfl, rfl, by decide⟩⟩) <| Obls.nil
 intro R w hw hs hF' hA hF
 replace h0 := k1 hs h0
 refine HT.seq ?_
 refine HT.seq ?_
 refine HT.u hA hF (eI p0 :: eB (p0 == (0 : Int)) :: []) ?_ ?_
 exact Obls.m h0 <| Obls.p (fun R' w' hw hs hd => of_eql (hd.g 0 rfl) rfl) <| Obls.nil
 intro R w hw hs hF' hA hF
 replace h0 := k1 hs h0
 have h7 := hF'.r 1 rfl
 refine HT.cond (p0 == (0 : Int)) h7 (fun c1 => ?_) (fun c1 => ?_)
 have hr := cnd_t c1 hr
 refine HT.seq ?_
 refine HT.u hA hF (eF (.rep eStr A ([48] : List UInt8)) :: []) ?_ ?_
 exact Obls.p (fun R' w' hw hs hd => of_assign ⟨_, rfl, ⟨_, rfl, rfl, by decide⟩⟩) <| Obls.nil
 intro R w hw hs hF' hA hF
 obtain ⟨u2, h2, f_u2⟩ : ∃ u, R 2 = u ∧ Rep eStr A w u ([48] : List UInt8) := ⟨_, rfl, hF' 0 _ _ rfl rfl rfl⟩
 refine HT.ret ?_
 obtain rfl := Option.some.inj hr
 exact ⟨.inr rfl, [R 2], ⟨rfl, trivial⟩, (f_u2.eq h2), hF⟩
 have hr := cnd_f c1 hr
 refine HT.skip ?_
 refine HT.seq ?_
 refine HT.u hA hF (eF (.rep eStr A ([] : List UInt8)) :: []) ?_ ?_
 exact Obls.p (fun R' w' hw hs hd => of_assign ⟨_, rfl, ⟨_, rfl, rfl, by decide⟩⟩) <| Obls.nil
 intro R w hw hs hF' hA hF
 replace h0 := k1 hs h0
 obtain ⟨u3, h3, f_u3⟩ : ∃ u, R 3 = u ∧ Rep eStr A w u ([] : List UInt8) := ⟨_, rfl, hF' 0 _ _ rfl rfl rfl⟩
 refine HT.seq ?_
 refine HT.u hA hF (eI p0 :: eB (decide (p0 < (0 : Int))) :: eB (decide (p0 < (0 : Int))) :: []) ?_ ?_
 exact Obls.m h0 <| Obls.p (fun R' w' hw hs hd => of_lss (hd.g 0 rfl) rfl) <| Obls.a <| Obls.nil
 intro R w hw hs hF' hA hF
 obtain ⟨h0, h3⟩ := k2 hs h0 h3
 have h4 := hF'.r 2 rfl
 replace f_u3 := f_u3.fr hw
 obtain ⟨rl4, q5, hr⟩ := cl_some hr
 replace q5 := q5 rfl
 refine HT.cut (fun R w => ∃ (s6 : (List UInt8)) (wo_3 : Value), rl4 = s6 ∧ AvOK A w ∧ Fr w0 w ∧ R 3 = wo_3 ∧ R 4 = .bool (decide (p0 < (0 : Int))) ∧ Rep eStr A w wo_3 s6) ?_ ?_
 refine HT.block ?_
 refine HT.loop (fun k R w => ∃ (y7 : Int) (y8 : List UInt8) (wl_3 : Value), M_spec_FormatInt_L0 fu k y7 y8 = some rl4 ∧ AvOK A w ∧ Fr w0 w ∧ R 0 = .int .i64 y7 ∧ R 3 = wl_3 ∧ R 4 = .bool (decide (p0 < (0 : Int))) ∧ Rep eStr A w wl_3 y8) fu ⟨_, _, u3, q5, hA, hF, h0, h3, h4, f_u3⟩ ?_
 have hr0 := hr; clear hr q5
 rintro k R w ⟨y7, y8, wl_3, hr, hA, hF, h0, h3, h4, f_wl_3⟩
 rcases k with _ | k
 cases (show none = some _ from hr)
 rw [M_spec_FormatInt_L0] at hr
 refine HT.seq ?_
 refine HT.seq ?_
 refine HT.u hA hF (eI y7 :: eB (y7 != (0 : Int)) :: []) ?_ ?_
 exact Obls.m h0 <| Obls.p (fun R' w' hw hs hd => of_neq (hd.g 0 rfl) rfl) <| Obls.nil
 intro R w hw hs hF' hA hF
 obtain ⟨h0, h3, h4⟩ := k3 hs h0 h3 h4
 have h11 := hF'.r 1 rfl
 replace f_wl_3 := f_wl_3.fr hw
 refine HT.cond (y7 != (0 : Int)) h11 (fun c9 => ?_) (fun c9 => ?_)
 have hr := cnd_t c9 hr
 refine HT.skip ?_
 refine HT.block ?_
 refine HT.seq ?_
 obtain ⟨e10, hr⟩ := ck_some hr
 refine HT.u hA hF (eI y7 :: eI (y7.tmod (10 : Int)) :: eI (y7.tmod (10 : Int)) :: []) ?_ ?_
 exact Obls.m h0 <| Obls.p (fun R' w' hw hs hd => of_rem (hd.g 0 rfl) rfl e10) <| Obls.a <| Obls.nil
 intro R w hw hs hF' hA hF
 obtain ⟨h0, h3, h4⟩ := k3 hs h0 h3 h4
 have h5 := hF'.r 2 rfl
 replace f_wl_3 := f_wl_3.fr hw
 refine HT.seq ?_
 refine HT.seq ?_
 refine HT.u hA hF (eI (y7.tmod (10 : Int)) :: eB (decide ((y7.tmod (10 : Int)) < (0 : Int))) :: []) ?_ ?_
 exact Obls.m h5 <| Obls.p (fun R' w' hw hs hd => of_lss (hd.g 0 rfl) rfl) <| Obls.nil
 intro R w hw hs hF' hA hF
 obtain ⟨h0, h3, h4, h5⟩ := k4 hs h0 h3 h4 h5
 have h15 := hF'.r 1 rfl
 replace f_wl_3 := f_wl_3.fr hw
 refine HT.cond (decide ((y7.tmod (10 : Int)) < (0 : Int))) h15 (fun c11 => ?_) (fun c11 => ?_)
 have hr := cnd_t c11 hr
 obtain ⟨e12, hr⟩ := ck_some hr
 refine HT.u hA hF (eI (y7.tmod (10 : Int)) :: eI (0 - (y7.tmod (10 : Int))) :: eI (0 - (y7.tmod (10 : Int))) :: []) ?_ ?_
 exact Obls.m h5 <| Obls.p (fun R' w' hw hs hd => of_neg (hd.g 0 rfl) e12) <| Obls.a <| Obls.nil
 intro R w hw hs hF' hA hF
 obtain ⟨h0, h3, h4⟩ := k3 hs h0 h3 h4
 have h5 := hF'.r 2 rfl
 replace f_wl_3 := f_wl_3.fr hw
 refine HT.seq ?_
 obtain ⟨e13, hr⟩ := ck_some hr
 obtain ⟨e14, hr⟩ := ck_some hr
 refine HT.u hA hF (eI (0 - (y7.tmod (10 : Int))) :: eI ((48 : Int) + (0 - (y7.tmod (10 : Int)))) :: eU (IntKind.u8.wrap ((48 : Int) + (0 - (y7.tmod (10 : Int))))) :: eF (.rep (eSl (eInt .u8)) A ([(IntKind.u8.wrap ((48 : Int) + (0 - (y7.tmod (10 : Int)))))] : List Int)) :: eF (.rep eStr A (strB ([(IntKind.u8.wrap ((48 : Int) + (0 - (y7.tmod (10 : Int)))))] : List Int))) :: eR wl_3 :: eF (.rep eStr A ((strB ([(IntKind.u8.wrap ((48 : Int) + (0 - (y7.tmod (10 : Int)))))] : List Int)) ++ y8)) :: eF (.rep eStr A ((strB ([(IntKind.u8.wrap ((48 : Int) + (0 - (y7.tmod (10 : Int)))))] : List Int)) ++ y8)) :: []) ?_ ?_
 exact Obls.m h5 <| Obls.p (fun R' w' hw hs hd => of_add rfl (hd.g 0 rfl) e13) <| Obls.p (fun R' w' hw hs hd => of_conv_int (hd.g 0 rfl) Tryz.underlying3 Tryz.underlying5) <| Obls.p (fun R' w' hw hs hd => of_build [_] (E := eInt .u8) ⟨(rep_int.eq (hd.g 0 rfl)), trivial⟩ Tryz.underlying22 Tryz.sizeOf5 Tryz.zeroValue5 rfl rfl rfl (hA.fr hw.size)) <| Obls.p (fun R' w' hw hs hd => of_conv_bytes (hd.g 0 rfl) Tryz.underlying22 Tryz.underlying5 Tryz.underlying9) <| Obls.m h3 <| Obls.p (fun R' w' hw hs hd => of_cat (hd.g 0 rfl) ((f_wl_3.fr hw).eq (hd.g 1 rfl)) e14) <| Obls.p (fun R' w' hw hs hd => of_assign (hd.g 0 rfl)) <| Obls.nil
 intro R w hw hs hF' hA hF
 obtain ⟨h0, h4⟩ := k2 hs h0 h4
 obtain ⟨u15, h3, f_u15⟩ : ∃ u, R 3 = u ∧ Rep eStr A w u ((strB ([(IntKind.u8.wrap ((48 : Int) + (0 - (y7.tmod (10 : Int)))))] : List Int)) ++ y8) := ⟨_, rfl, hF' 7 _ _ rfl rfl rfl⟩
 obtain ⟨e16, hr⟩ := ck_some hr
 obtain ⟨e17, hr⟩ := ck_some hr
 refine HT.u hA hF (eI y7 :: eI (y7.tdiv (10 : Int)) :: eI (y7.tdiv (10 : Int)) :: []) ?_ ?_
 exact Obls.m h0 <| Obls.p (fun R' w' hw hs hd => of_quo (hd.g 0 rfl) rfl e16 e17) <| Obls.a <| Obls.nil
 intro R w hw hs hF' hA hF
 obtain ⟨h3, h4⟩ := k2 hs h3 h4
 have h0 := hF'.r 2 rfl
 replace f_u15 := f_u15.fr hw
 exact Exists.intro k (And.intro (Nat.lt_succ_self k) ⟨_, _, u15, hr, hA, hF, h0, h3, h4, f_u15⟩)
 have hr := cnd_f c11 hr
 refine HT.skip ?_
 refine HT.seq ?_
 obtain ⟨e18, hr⟩ := ck_some hr
 obtain ⟨e19, hr⟩ := ck_some hr
 refine HT.u hA hF (eI (y7.tmod (10 : Int)) :: eI ((48 : Int) + (y7.tmod (10 : Int))) :: eU (IntKind.u8.wrap ((48 : Int) + (y7.tmod (10 : Int)))) :: eF (.rep (eSl (eInt .u8)) A ([(IntKind.u8.wrap ((48 : Int) + (y7.tmod (10 : Int))))] : List Int)) :: eF (.rep eStr A (strB ([(IntKind.u8.wrap ((48 : Int) + (y7.tmod (10 : Int))))] : List Int))) :: eR wl_3 :: eF (.rep eStr A ((strB ([(IntKind.u8.wrap ((48 : Int) + (y7.tmod (10 : Int))))] : List Int)) ++ y8)) :: eF (.rep eStr A ((strB ([(IntKind.u8.wrap ((48 : Int) + (y7.tmod (10 : Int))))] : List Int)) ++ y8)) :: []) ?_ ?_
 exact Obls.m h5 <| Obls.p (fun R' w' hw hs hd => of_add rfl (hd.g 0 rfl) e18) <| Obls.p (fun R' w' hw hs hd => of_conv_int (hd.g 0 rfl) Tryz.underlying3 Tryz.underlying5) <| Obls.p (fun R' w' hw hs hd => of_build [_] (E := eInt .u8) ⟨(rep_int.eq (hd.g 0 rfl)), trivial⟩ Tryz.underlying22 Tryz.sizeOf5 Tryz.zeroValue5 rfl rfl rfl (hA.fr hw.size)) <| Obls.p (fun R' w' hw hs hd => of_conv_bytes (hd.g 0 rfl) Tryz.underlying22 Tryz.underlying5 Tryz.underlying9) <| Obls.m h3 <| Obls.p (fun R' w' hw hs hd => of_cat (hd.g 0 rfl) ((f_wl_3.fr hw).eq (hd.g 1 rfl)) e19) <| Obls.p (fun R' w' hw hs hd => of_assign (hd.g 0 rfl)) <| Obls.nil
 intro R w hw hs hF' hA hF
 obtain ⟨h0, h4⟩ := k2 hs h0 h4
 obtain ⟨u20, h3, f_u20⟩ : ∃ u, R 3 = u ∧ Rep eStr A w u ((strB ([(IntKind.u8.wrap ((48 : Int) + (y7.tmod (10 : Int))))] : List Int)) ++ y8) := ⟨_, rfl, hF' 7 _ _ rfl rfl rfl⟩
 obtain ⟨e21, hr⟩ := ck_some hr
 obtain ⟨e22, hr⟩ := ck_some hr
 refine HT.u hA hF (eI y7 :: eI (y7.tdiv (10 : Int)) :: eI (y7.tdiv (10 : Int)) :: []) ?_ ?_
 exact Obls.m h0 <| Obls.p (fun R' w' hw hs hd => of_quo (hd.g 0 rfl) rfl e21 e22) <| Obls.a <| Obls.nil
 intro R w hw hs hF' hA hF
 obtain ⟨h3, h4⟩ := k2 hs h3 h4
 have h0 := hF'.r 2 rfl
 replace f_u20 := f_u20.fr hw
 exact Exists.intro k (And.intro (Nat.lt_succ_self k) ⟨_, _, u20, hr, hA, hF, h0, h3, h4, f_u20⟩)
 have hr := cnd_f c9 hr
 refine HT.exit ?_
 obtain rfl := Option.some.inj hr
 exact Exists.intro _ ⟨wl_3, rfl, hA, hF, h3, h4, f_wl_3⟩
 rintro R w ⟨s6, wo_3, es, hA, hF, h3, h4, f_wo_3⟩
 obtain rfl := es.symm
 refine HT.seq ?_
 refine HT.seq ?_
 refine HT.u hA hF (eB (decide (p0 < (0 : Int))) :: []) ?_ ?_
 exact Obls.m h4 <| Obls.nil
 intro R w hw hs hF' hA hF
 replace h3 := k1 hs h3
 have h27 := hF'.r 0 rfl
 replace f_wo_3 := f_wo_3.fr hw
 refine HT.cond (decide (p0 < (0 : Int))) h27 (fun c23 => ?_) (fun c23 => ?_)
 have hr := cnd_t c23 hr
 refine HT.seq ?_
 obtain ⟨e24, hr⟩ := ck_some hr
 refine HT.u hA hF (eR wo_3 :: eF (.rep eStr A (([45] : List UInt8) ++ s6)) :: eF (.rep eStr A (([45] : List UInt8) ++ s6)) :: []) ?_ ?_
 exact Obls.m h3 <| Obls.p (fun R' w' hw hs hd => of_cat ⟨_, rfl, ⟨_, rfl, rfl, by decide⟩⟩ ((f_wo_3.fr hw).eq (hd.g 0 rfl)) e24) <| Obls.p (fun R' w' hw hs hd => of_assign (hd.g 0 rfl)) <| Obls.nil
 intro R w hw hs hF' hA hF
 obtain ⟨u25, h2, f_u25⟩ : ∃ u, R 2 = u ∧ Rep eStr A w u (([45] : List UInt8) ++ s6) := ⟨_, rfl, hF' 2 _ _ rfl rfl rfl⟩
 refine HT.ret ?_
 obtain rfl := Option.some.inj hr
 exact ⟨.inr rfl, [R 2], ⟨rfl, trivial⟩, (f_u25.eq h2), hF⟩
 have hr := cnd_f c23 hr
 refine HT.skip ?_
 refine HT.seq ?_
 refine HT.u hA hF (eR wo_3 :: eR wo_3 :: []) ?_ ?_
 exact Obls.m h3 <| Obls.a <| Obls.nil
 intro R w hw hs hF' hA hF
 have h2 := hF'.r 1 rfl
 replace f_wo_3 := f_wo_3.fr hw
 refine HT.ret ?_
 obtain rfl := Option.some.inj hr
 exact ⟨.inr rfl, [R 2], ⟨rfl, trivial⟩, (f_wo_3.eq h2), hF⟩
def M_spec_ParseInt_L0 (fu : Nat) (p0 : List UInt8) : Nat → Int → Int → Int → Option (Int × Int)
 | 0, _, _, _ => none
 | k + 1, y4, y5, y6 =>
 bd ((decide (y6 < (p0.length : Int))) && (decide (y6 < 11))) fun x7 =>
 bif x7 then (
 ck (inR y6 p0.length) <|
 ck (!(true && ((decide (48 ≤ (bAt p0 y6))) == true)) || inR y6 p0.length) <|
 bd ((decide (48 ≤ (bAt p0 y6))) && (decide ((bAt p0 y6) ≤ 57))) fun x12 =>
 bif x12 then (
 ck (i64B (y4 * 10)) <|
 ck (inR y6 p0.length) <|
 ck (i64B ((y4 * 10) + (IntKind.i64.wrap (IntKind.u8.wrap ((bAt p0 y6) - 48))))) <|
 ck (i64B (y5 + 1)) <|
 ck (i64B (y6 + 1)) <|
 M_spec_ParseInt_L0 fu p0 k ((y4 * 10) + (IntKind.i64.wrap (IntKind.u8.wrap ((bAt p0 y6) - 48)))) (y5 + 1) (y6 + 1)
 ) else (
 ck (i64B (y6 + 1)) <|
 M_spec_ParseInt_L0 fu p0 k y4 y5 (y6 + 1)
 )
 ) else (
 some (y4, y5)
 )
def M_spec_ParseInt (fu : Nat) (p0 : List UInt8) : Option (Int × Bool) :=
 cl true (M_spec_ParseInt_L0 fu p0 fu 0 0 0) fun s3 =>
 ck (!(true && ((decide (0 < (p0.length : Int))) == true)) || inR 0 p0.length) <|
 bd ((decide (0 < (p0.length : Int))) && ((bAt p0 0) == 45)) fun x22 =>
 bif x22 then (
 ck (i64B (0 - s3.1)) <|
 bd ((decide (9 < s3.2)) || (decide (10 < (p0.length : Int)))) fun x26 =>
 cl (true && (x26 == false)) (M_spec_FormatInt fu (0 - s3.1)) fun x28 =>
 bd (x26 || (!(x28 == p0))) fun x30 =>
 bif x30 then (
 some (0, false)
 ) else (
 some ((0 - s3.1), true)
 )
 ) else (
 bd ((decide (9 < s3.2)) || (decide (10 < (p0.length : Int)))) fun x33 =>
 cl (true && (x33 == false)) (M_spec_FormatInt fu s3.1) fun x35 =>
 bd (x33 || (!(x35 == p0))) fun x37 =>
 bif x37 then (
 some (0, false)
 ) else (
 some (s3.1, true)
 )
 )
theorem M_spec_ParseInt_ok {fu : Nat} {A : Av} {p0 : List UInt8} {r : Int × Bool} (hr : M_spec_ParseInt fu p0 = some r) {w : World} {v0 : Value} (hA : AvOK A w) (h0 : Rep eStr A w v0 p0) :
 Calls Tryz.prog 134 #[v0] w fun e w' => ∃ v, e = .returned v ∧ ((∃ a b, v = .tuple #[a, b] ∧ a = .int .i64 r.1 ∧ b = .bool r.2) ∧ Fr w w') := by
 unfold M_spec_ParseInt at hr
 obtain ⟨w0, hw0⟩ : ∃ w0, w0 = w := ⟨_, rfl⟩
 have hF : Fr w0 w := hw0 ▸ Fr.refl _
 rw [show Fr w = Fr w0 from hw0 ▸ rfl]
 clear hw0
 refine calls_of_HT2 [.tmp 2, .tmp 3] Tryz.func134 Tryz.ntmps134 (by decide) rfl rfl (Nat.le_of_ble_eq_true rfl) ?_
 intro R hR
 have f_v0 := h0
 replace h0 : R 0 = v0 := hR 0 _ rfl
 clear hR
 refine HT.seq ?_
 refine HT.u hA hF (eI 0 :: eB false :: []) ?_ ?_
 exact Obls.p (fun R' w' hw hs hd => of_assign rfl) <| Obls.p (fun R' w' hw hs hd => of_assign rfl) <| Obls.nil
 intro R w hw hs hF' hA hF
 replace h0 := k1 hs h0
 replace f_v0 := f_v0.fr hw
 refine HT.seq ?_
 refine HT.u hA hF (eI 0 :: []) ?_ ?_
 exact Obls.p (fun R' w' hw hs hd => of_assign rfl) <| Obls.nil
 intro R w hw hs hF' hA hF
 replace h0 := k1 hs h0
 have h4 := hF'.r 0 rfl
 replace f_v0 := f_v0.fr hw
 refine HT.seq ?_
 refine HT.u hA hF (eI 0 :: []) ?_ ?_
 exact Obls.p (fun R' w' hw hs hd => of_assign rfl) <| Obls.nil
 intro R w hw hs hF' hA hF
 obtain ⟨h0, h4⟩ := k2 hs h0 h4
 have h5 := hF'.r 0 rfl
 replace f_v0 := f_v0.fr hw
 refine HT.seq ?_
 refine HT.seq ?_
 refine HT.u hA hF (eI 0 :: []) ?_ ?_
 exact Obls.p (fun R' w' hw hs hd => of_assign rfl) <| Obls.nil
 intro R w hw hs hF' hA hF
 obtain ⟨h0, h4, h5⟩ := k3 hs h0 h4 h5
 have h6 := hF'.r 0 rfl
 replace f_v0 := f_v0.fr hw
 obtain ⟨rl1, q2, hr⟩ := cl_some hr
 replace q2 := q2 rfl
 refine HT.cut0 (fun R w => ∃ (s3 : Int × Int), rl1 = s3 ∧ AvOK A w ∧ Fr w0 w ∧ R 0 = v0 ∧ R 4 = .int .i64 s3.1 ∧ R 5 = .int .i64 s3.2 ∧ Rep eStr A w v0 p0) ?_ ?_
 refine HT.block ?_
 refine HT.loop (fun k R w => ∃ (y4 : Int) (y5 : Int) (y6 : Int), M_spec_ParseInt_L0 fu p0 k y4 y5 y6 = some rl1 ∧ AvOK A w ∧ Fr w0 w ∧ R 0 = v0 ∧ R 4 = .int .i64 y4 ∧ R 5 = .int .i64 y5 ∧ R 6 = .int .i64 y6 ∧ Rep eStr A w v0 p0) fu ⟨_, _, _, q2, hA, hF, h0, h4, h5, h6, f_v0⟩ ?_
 have hr0 := hr; clear hr q2
 rintro k R w ⟨y4, y5, y6, hr, hA, hF, h0, h4, h5, h6, f_v0⟩
 rcases k with _ | k
 cases (show none = some _ from hr)
 rw [M_spec_ParseInt_L0] at hr
 refine HT.seq ?_
 refine HT.seq ?_
 obtain ⟨x7, q8, hr⟩ := bd_some hr
 refine HT.u hA hF (eI y6 :: eR v0 :: eI (p0.length : Int) :: eB (decide (y6 < (p0.length : Int))) :: eB (decide (y6 < (p0.length : Int))) :: gI (true && ((decide (y6 < (p0.length : Int))) == true)) y6 :: gB (true && ((decide (y6 < (p0.length : Int))) == true)) (decide (y6 < (11 : Int))) :: eB x7 :: []) ?_ ?_
 exact Obls.m h6 <| Obls.m h0 <| Obls.p (fun R' w' hw hs hd => of_len_str ((f_v0.fr hw).eq (hd.g 0 rfl)) Tryz.underlying9) <| Obls.p (fun R' w' hw hs hd => of_lss (hd.g 0 rfl) (hd.g 1 rfl)) <| Obls.v <| Obls.g 4 true (fun hg R' w' hw hs hd => of_move ((hs 6 rfl).trans h6)) <| Obls.g 4 true (fun hg R' w' hw hs hd => of_lss (hd.h 0 hg rfl) rfl) <| Obls.p (fun R' w' hw hs hd => of_pick (decide (y6 < (p0.length : Int))) (hd.g 0 rfl) (fun hc => by have a1 : R' 13 = .bool (decide (y6 < (11 : Int))) := hd 1 _ _ _ rfl rfl rfl rfl (g_and rfl (beq_of hc)); show _ = Value.bool x7; rw [q8, hc]; exact a1) (fun hc => by show _ = Value.bool x7; rw [q8, hc]; exact rfl)) <| Obls.nil
 intro R w hw hs hF' hA hF
 obtain ⟨h0, h4, h5, h6⟩ := k4 hs h0 h4 h5 h6
 have h14 := hF'.r 7 rfl
 replace f_v0 := f_v0.fr hw
 refine HT.cond x7 h14 (fun c9 => ?_) (fun c9 => ?_)
 have hr := cnd_t c9 hr
 refine HT.skip ?_
 refine HT.seq ?_
 refine HT.block ?_
 refine HT.seq ?_
 obtain ⟨e10, hr⟩ := ck_some hr
 obtain ⟨e11, hr⟩ := ck_some hr
 obtain ⟨x12, q13, hr⟩ := bd_some hr
 refine HT.u hA hF (eR v0 :: eI y6 :: eU (bAt p0 y6) :: eB (decide ((48 : Int) ≤ (bAt p0 y6))) :: eB (decide ((48 : Int) ≤ (bAt p0 y6))) :: gR (true && ((decide ((48 : Int) ≤ (bAt p0 y6))) == true)) v0 :: gI (true && ((decide ((48 : Int) ≤ (bAt p0 y6))) == true)) y6 :: gU (true && ((decide ((48 : Int) ≤ (bAt p0 y6))) == true)) (bAt p0 y6) :: gB (true && ((decide ((48 : Int) ≤ (bAt p0 y6))) == true)) (decide ((bAt p0 y6) ≤ (57 : Int))) :: eB x12 :: []) ?_ ?_
 exact Obls.m h0 <| Obls.m h6 <| Obls.p (fun R' w' hw hs hd => of_strIndex ((f_v0.fr hw).eq (hd.g 0 rfl)) (hd.g 1 rfl) Tryz.underlying9 e10) <| Obls.p (fun R' w' hw hs hd => of_geq (hd.g 0 rfl) rfl) <| Obls.v <| Obls.g 4 true (fun hg R' w' hw hs hd => of_move ((hs 0 rfl).trans h0)) <| Obls.g 4 true (fun hg R' w' hw hs hd => of_move ((hs 6 rfl).trans h6)) <| Obls.g 4 true (fun hg R' w' hw hs hd => of_strIndex ((f_v0.fr hw).eq (hd.h 0 hg rfl)) (hd.h 1 hg rfl) Tryz.underlying9 (gd e11 hg)) <| Obls.g 4 true (fun hg R' w' hw hs hd => of_leq (hd.h 0 hg rfl) rfl) <| Obls.p (fun R' w' hw hs hd => of_pick (decide ((48 : Int) ≤ (bAt p0 y6))) (hd.g 0 rfl) (fun hc => by have a1 : R' 25 = .bool (decide ((bAt p0 y6) ≤ (57 : Int))) := hd 1 _ _ _ rfl rfl rfl rfl (g_and rfl (beq_of hc)); show _ = Value.bool x12; rw [q13, hc]; exact a1) (fun hc => by show _ = Value.bool x12; rw [q13, hc]; exact rfl)) <| Obls.nil
 intro R w hw hs hF' hA hF
 obtain ⟨h0, h4, h5, h6⟩ := k4 hs h0 h4 h5 h6
 have h26 := hF'.r 9 rfl
 replace f_v0 := f_v0.fr hw
 refine HT.cond x12 h26 (fun c14 => ?_) (fun c14 => ?_)
 have hr := cnd_t c14 hr
 refine HT.seq ?_
 obtain ⟨e15, hr⟩ := ck_some hr
 obtain ⟨e16, hr⟩ := ck_some hr
 obtain ⟨e17, hr⟩ := ck_some hr
 refine HT.u hA hF (eI y4 :: eI (y4 * (10 : Int)) :: eR v0 :: eI y6 :: eU (bAt p0 y6) :: eU (IntKind.u8.wrap ((bAt p0 y6) - (48 : Int))) :: eI (IntKind.i64.wrap (IntKind.u8.wrap ((bAt p0 y6) - (48 : Int)))) :: eI ((y4 * (10 : Int)) + (IntKind.i64.wrap (IntKind.u8.wrap ((bAt p0 y6) - (48 : Int))))) :: eI ((y4 * (10 : Int)) + (IntKind.i64.wrap (IntKind.u8.wrap ((bAt p0 y6) - (48 : Int))))) :: []) ?_ ?_
 exact Obls.m h4 <| Obls.p (fun R' w' hw hs hd => of_mul (hd.g 0 rfl) rfl e15) <| Obls.m h0 <| Obls.m h6 <| Obls.p (fun R' w' hw hs hd => of_strIndex ((f_v0.fr hw).eq (hd.g 0 rfl)) (hd.g 1 rfl) Tryz.underlying9 e16) <| Obls.p (fun R' w' hw hs hd => of_sub_w (hd.g 0 rfl) rfl) <| Obls.p (fun R' w' hw hs hd => of_conv_int (hd.g 0 rfl) Tryz.underlying5 Tryz.underlying3) <| Obls.p (fun R' w' hw hs hd => of_add (hd.g 0 rfl) (hd.g 1 rfl) e17) <| Obls.a <| Obls.nil
 intro R w hw hs hF' hA hF
 obtain ⟨h0, h5, h6⟩ := k3 hs h0 h5 h6
 have h4 := hF'.r 8 rfl
 replace f_v0 := f_v0.fr hw
 obtain ⟨e18, hr⟩ := ck_some hr
 refine HT.u hA hF (eI y5 :: eI (y5 + (1 : Int)) :: eI (y5 + (1 : Int)) :: []) ?_ ?_
 exact Obls.m h5 <| Obls.p (fun R' w' hw hs hd => of_add (hd.g 0 rfl) rfl e18) <| Obls.a <| Obls.nil
 intro R w hw hs hF' hA hF
 obtain ⟨h0, h4, h6⟩ := k3 hs h0 h4 h6
 have h5 := hF'.r 2 rfl
 replace f_v0 := f_v0.fr hw
 obtain ⟨e19, hr⟩ := ck_some hr
 refine HT.u hA hF (eI y6 :: eI (y6 + (1 : Int)) :: eI (y6 + (1 : Int)) :: []) ?_ ?_
 exact Obls.m h6 <| Obls.p (fun R' w' hw hs hd => of_add (hd.g 0 rfl) rfl e19) <| Obls.a <| Obls.nil
 intro R w hw hs hF' hA hF
 obtain ⟨h0, h4, h5⟩ := k3 hs h0 h4 h5
 have h6 := hF'.r 2 rfl
 replace f_v0 := f_v0.fr hw
 exact Exists.intro k (And.intro (Nat.lt_succ_self k) ⟨_, _, _, hr, hA, hF, h0, h4, h5, h6, f_v0⟩)
 have hr := cnd_f c14 hr
 refine HT.skip ?_
 obtain ⟨e20, hr⟩ := ck_some hr
 refine HT.u hA hF (eI y6 :: eI (y6 + (1 : Int)) :: eI (y6 + (1 : Int)) :: []) ?_ ?_
 exact Obls.m h6 <| Obls.p (fun R' w' hw hs hd => of_add (hd.g 0 rfl) rfl e20) <| Obls.a <| Obls.nil
 intro R w hw hs hF' hA hF
 obtain ⟨h0, h4, h5⟩ := k3 hs h0 h4 h5
 have h6 := hF'.r 2 rfl
 replace f_v0 := f_v0.fr hw
 exact Exists.intro k (And.intro (Nat.lt_succ_self k) ⟨_, _, _, hr, hA, hF, h0, h4, h5, h6, f_v0⟩)
 have hr := cnd_f c9 hr
 refine HT.exit ?_
 obtain rfl := Option.some.inj hr
 exact Exists.intro _ ⟨rfl, hA, hF, h0, h4, h5, f_v0⟩
 rintro R w ⟨s3, es, hA, hF, h0, h4, h5, f_v0⟩
 obtain rfl := es.symm
 refine HT.seq ?_
 refine HT.seq ?_
 obtain ⟨e21, hr⟩ := ck_some hr
 obtain ⟨x22, q23, hr⟩ := bd_some hr
 refine HT.u hA hF (eR v0 :: eI (p0.length : Int) :: eB (decide ((0 : Int) < (p0.length : Int))) :: eB (decide ((0 : Int) < (p0.length : Int))) :: gR (true && ((decide ((0 : Int) < (p0.length : Int))) == true)) v0 :: gU (true && ((decide ((0 : Int) < (p0.length : Int))) == true)) (bAt p0 (0 : Int)) :: gB (true && ((decide ((0 : Int) < (p0.length : Int))) == true)) ((bAt p0 (0 : Int)) == (45 : Int)) :: eB x22 :: []) ?_ ?_
 exact Obls.m h0 <| Obls.p (fun R' w' hw hs hd => of_len_str ((f_v0.fr hw).eq (hd.g 0 rfl)) Tryz.underlying9) <| Obls.p (fun R' w' hw hs hd => of_gtr (hd.g 0 rfl) rfl) <| Obls.v <| Obls.g 3 true (fun hg R' w' hw hs hd => of_move ((hs 0 rfl).trans h0)) <| Obls.g 3 true (fun hg R' w' hw hs hd => of_strIndex ((f_v0.fr hw).eq (hd.h 0 hg rfl)) rfl Tryz.underlying9 (gd e21 hg)) <| Obls.g 3 true (fun hg R' w' hw hs hd => of_eql (hd.h 0 hg rfl) rfl) <| Obls.p (fun R' w' hw hs hd => of_pick (decide ((0 : Int) < (p0.length : Int))) (hd.g 0 rfl) (fun hc => by have a1 : R' 43 = .bool ((bAt p0 (0 : Int)) == (45 : Int)) := hd 1 _ _ _ rfl rfl rfl rfl (g_and rfl (beq_of hc)); show _ = Value.bool x22; rw [q23, hc]; exact a1) (fun hc => by show _ = Value.bool x22; rw [q23, hc]; exact rfl)) <| Obls.nil
 intro R w hw hs hF' hA hF
 obtain ⟨h0, h4, h5⟩ := k3 hs h0 h4 h5
 have h44 := hF'.r 7 rfl
 replace f_v0 := f_v0.fr hw
 refine HT.cond x22 h44 (fun c24 => ?_) (fun c24 => ?_)
 have hr := cnd_t c24 hr
 obtain ⟨e25, hr⟩ := ck_some hr
 refine HT.u hA hF (eI s3.1 :: eI (0 - s3.1) :: eI (0 - s3.1) :: []) ?_ ?_
 exact Obls.m h4 <| Obls.p (fun R' w' hw hs hd => of_neg (hd.g 0 rfl) e25) <| Obls.a <| Obls.nil
 intro R w hw hs hF' hA hF
 obtain ⟨h0, h5⟩ := k2 hs h0 h5
 have h4 := hF'.r 2 rfl
 replace f_v0 := f_v0.fr hw
 refine HT.seq ?_
 refine HT.seq ?_
 obtain ⟨x26, q27, hr⟩ := bd_some hr
 obtain ⟨x28, q29, hr⟩ := cl_some hr
 obtain ⟨x30, q31, hr⟩ := bd_some hr
 refine HT.u hA hF (eI s3.2 :: eB (decide ((9 : Int) < s3.2)) :: eB (decide ((9 : Int) < s3.2)) :: gR (true && ((decide ((9 : Int) < s3.2)) == false)) v0 :: gI (true && ((decide ((9 : Int) < s3.2)) == false)) (p0.length : Int) :: gB (true && ((decide ((9 : Int) < s3.2)) == false)) (decide ((10 : Int) < (p0.length : Int))) :: eB x26 :: eB x26 :: gI (true && (x26 == false)) (0 - s3.1) :: gF (true && (x26 == false)) (.rep eStr A x28) :: gR (true && (x26 == false)) v0 :: gB (true && (x26 == false)) (!(x28 == p0)) :: eB x30 :: []) ?_ ?_
 exact Obls.m h5 <| Obls.p (fun R' w' hw hs hd => of_gtr (hd.g 0 rfl) rfl) <| Obls.v <| Obls.g 2 false (fun hg R' w' hw hs hd => of_move ((hs 0 rfl).trans h0)) <| Obls.g 2 false (fun hg R' w' hw hs hd => of_len_str ((f_v0.fr hw).eq (hd.h 0 hg rfl)) Tryz.underlying9) <| Obls.g 2 false (fun hg R' w' hw hs hd => of_gtr (hd.h 0 hg rfl) rfl) <| Obls.p (fun R' w' hw hs hd => of_pick (decide ((9 : Int) < s3.2)) (hd.g 0 rfl) (fun hc => by show _ = Value.bool x26; rw [q27, hc]; exact rfl) (fun hc => by have a2 : R' 52 = .bool (decide ((10 : Int) < (p0.length : Int))) := hd 1 _ _ _ rfl rfl rfl rfl (g_and rfl (beq_of hc)); show _ = Value.bool x26; rw [q27, hc]; exact a2)) <| Obls.v <| Obls.g 7 false (fun hg R' w' hw hs hd => of_move ((hs 4 rfl).trans h4)) <| Obls.g 7 false (fun hg R' w' hw hs hd => of_call Tryz.call88 (M_spec_FormatInt_ok (q29 hg) (hA.fr hw.size) (hd.h 0 hg rfl))) <| Obls.g 7 false (fun hg R' w' hw hs hd => of_move ((hs 0 rfl).trans h0)) <| Obls.g 7 false (fun hg R' w' hw hs hd => of_sneq (hd.h 0 hg rfl) ((f_v0.fr hw).eq (hd.h 1 hg rfl))) <| Obls.p (fun R' w' hw hs hd => of_pick x26 (hd.g 0 rfl) (fun hc => by show _ = Value.bool x30; rw [q31, hc]; exact rfl) (fun hc => by have a2 : R' 58 = .bool (!(x28 == p0)) := hd 1 _ _ _ rfl rfl rfl rfl (g_and rfl (beq_of hc)); show _ = Value.bool x30; rw [q31, hc]; exact a2)) <| Obls.nil
 intro R w hw hs hF' hA hF
 replace h4 := k1 hs h4
 have h59 := hF'.r 12 rfl
 refine HT.cond x30 h59 (fun c32 => ?_) (fun c32 => ?_)
 have hr := cnd_t c32 hr
 refine HT.seq ?_
 refine HT.u hA hF (eI 0 :: eB false :: []) ?_ ?_
 exact Obls.p (fun R' w' hw hs hd => of_assign rfl) <| Obls.p (fun R' w' hw hs hd => of_assign rfl) <| Obls.nil
 intro R w hw hs hF' hA hF
 have h2 := hF'.r 0 rfl
 have h3 := hF'.r 1 rfl
 refine HT.ret ?_
 obtain rfl := Option.some.inj hr
 exact ⟨.inr rfl, [R 2, R 3], ⟨rfl, ⟨rfl, trivial⟩⟩, ⟨_, _, rfl, h2, h3⟩, hF⟩
 have hr := cnd_f c32 hr
 refine HT.skip ?_
 refine HT.seq ?_
 refine HT.u hA hF (eI (0 - s3.1) :: eI (0 - s3.1) :: eB true :: []) ?_ ?_
 exact Obls.m h4 <| Obls.a <| Obls.p (fun R' w' hw hs hd => of_assign rfl) <| Obls.nil
 intro R w hw hs hF' hA hF
 have h2 := hF'.r 1 rfl
 have h3 := hF'.r 2 rfl
 refine HT.ret ?_
 obtain rfl := Option.some.inj hr
 exact ⟨.inr rfl, [R 2, R 3], ⟨rfl, ⟨rfl, trivial⟩⟩, ⟨_, _, rfl, h2, h3⟩, hF⟩
 have hr := cnd_f c24 hr
 refine HT.skip ?_
 refine HT.seq ?_
 refine HT.seq ?_
 obtain ⟨x33, q34, hr⟩ := bd_some hr
 obtain ⟨x35, q36, hr⟩ := cl_some hr
 obtain ⟨x37, q38, hr⟩ := bd_some hr
 refine HT.u hA hF (eI s3.2 :: eB (decide ((9 : Int) < s3.2)) :: eB (decide ((9 : Int) < s3.2)) :: gR (true && ((decide ((9 : Int) < s3.2)) == false)) v0 :: gI (true && ((decide ((9 : Int) < s3.2)) == false)) (p0.length : Int) :: gB (true && ((decide ((9 : Int) < s3.2)) == false)) (decide ((10 : Int) < (p0.length : Int))) :: eB x33 :: eB x33 :: gI (true && (x33 == false)) s3.1 :: gF (true && (x33 == false)) (.rep eStr A x35) :: gR (true && (x33 == false)) v0 :: gB (true && (x33 == false)) (!(x35 == p0)) :: eB x37 :: []) ?_ ?_
 exact Obls.m h5 <| Obls.p (fun R' w' hw hs hd => of_gtr (hd.g 0 rfl) rfl) <| Obls.v <| Obls.g 2 false (fun hg R' w' hw hs hd => of_move ((hs 0 rfl).trans h0)) <| Obls.g 2 false (fun hg R' w' hw hs hd => of_len_str ((f_v0.fr hw).eq (hd.h 0 hg rfl)) Tryz.underlying9) <| Obls.g 2 false (fun hg R' w' hw hs hd => of_gtr (hd.h 0 hg rfl) rfl) <| Obls.p (fun R' w' hw hs hd => of_pick (decide ((9 : Int) < s3.2)) (hd.g 0 rfl) (fun hc => by show _ = Value.bool x33; rw [q34, hc]; exact rfl) (fun hc => by have a2 : R' 52 = .bool (decide ((10 : Int) < (p0.length : Int))) := hd 1 _ _ _ rfl rfl rfl rfl (g_and rfl (beq_of hc)); show _ = Value.bool x33; rw [q34, hc]; exact a2)) <| Obls.v <| Obls.g 7 false (fun hg R' w' hw hs hd => of_move ((hs 4 rfl).trans h4)) <| Obls.g 7 false (fun hg R' w' hw hs hd => of_call Tryz.call88 (M_spec_FormatInt_ok (q36 hg) (hA.fr hw.size) (hd.h 0 hg rfl))) <| Obls.g 7 false (fun hg R' w' hw hs hd => of_move ((hs 0 rfl).trans h0)) <| Obls.g 7 false (fun hg R' w' hw hs hd => of_sneq (hd.h 0 hg rfl) ((f_v0.fr hw).eq (hd.h 1 hg rfl))) <| Obls.p (fun R' w' hw hs hd => of_pick x33 (hd.g 0 rfl) (fun hc => by show _ = Value.bool x37; rw [q38, hc]; exact rfl) (fun hc => by have a2 : R' 58 = .bool (!(x35 == p0)) := hd 1 _ _ _ rfl rfl rfl rfl (g_and rfl (beq_of hc)); show _ = Value.bool x37; rw [q38, hc]; exact a2)) <| Obls.nil
 intro R w hw hs hF' hA hF
 replace h4 := k1 hs h4
 have h59 := hF'.r 12 rfl
 refine HT.cond x37 h59 (fun c39 => ?_) (fun c39 => ?_)
 have hr := cnd_t c39 hr
 refine HT.seq ?_
 refine HT.u hA hF (eI 0 :: eB false :: []) ?_ ?_
 exact Obls.p (fun R' w' hw hs hd => of_assign rfl) <| Obls.p (fun R' w' hw hs hd => of_assign rfl) <| Obls.nil
 intro R w hw hs hF' hA hF
 have h2 := hF'.r 0 rfl
 have h3 := hF'.r 1 rfl
 refine HT.ret ?_
 obtain rfl := Option.some.inj hr
 exact ⟨.inr rfl, [R 2, R 3], ⟨rfl, ⟨rfl, trivial⟩⟩, ⟨_, _, rfl, h2, h3⟩, hF⟩
 have hr := cnd_f c39 hr
 refine HT.skip ?_
 refine HT.seq ?_
 refine HT.u hA hF (eI s3.1 :: eI s3.1 :: eB true :: []) ?_ ?_
 exact Obls.m h4 <| Obls.a <| Obls.p (fun R' w' hw hs hd => of_assign rfl) <| Obls.nil
 intro R w hw hs hF' hA hF
 have h2 := hF'.r 1 rfl
 have h3 := hF'.r 2 rfl
 refine HT.ret ?_
 obtain rfl := Option.some.inj hr
 exact ⟨.inr rfl, [R 2, R 3], ⟨rfl, ⟨rfl, trivial⟩⟩, ⟨_, _, rfl, h2, h3⟩, hF⟩
def M_spec_ParseYear (fu : Nat) (p0 : List UInt8) : Option Int :=
 cl true (M_spec_ParseInt fu p0) fun x1 =>
 cl (true && ((!x1.2) == false)) (M_spec_l1In fu x1.1 1000 9999) fun x3 =>
 bd ((!x1.2) || (!x3)) fun x5 =>
 bif x5 then (
 some 0
 ) else (
 some x1.1
 )
theorem M_spec_ParseYear_ok {fu : Nat} {A : Av} {p0 : List UInt8} {r : Int} (hr : M_spec_ParseYear fu p0 = some r) {w : World} {v0 : Value} (hA : AvOK A w) (h0 : Rep eStr A w v0 p0) :
 Calls Tryz.prog 61 #[v0] w fun e w' => ∃ v, e = .returned v ∧ (v = .int .i64 r ∧ Fr w w') := by
 unfold M_spec_ParseYear at hr
 obtain ⟨w0, hw0⟩ : ∃ w0, w0 = w := ⟨_, rfl⟩
 have hF : Fr w0 w := hw0 ▸ Fr.refl _
 rw [show Fr w = Fr w0 from hw0 ▸ rfl]
 clear hw0
 refine calls_of_HT2 [.tmp 2] Tryz.func61 Tryz.ntmps61 (by decide) rfl rfl (Nat.le_of_ble_eq_true rfl) ?_
 intro R hR
 have f_v0 := h0
 replace h0 : R 0 = v0 := hR 0 _ rfl
 clear hR
 refine HT.seq ?_
 refine HT.u hA hF (eI 0 :: []) ?_ ?_
 exact Obls.p (fun R' w' hw hs hd => of_assign rfl) <| Obls.nil
 intro R w hw hs hF' hA hF
 replace h0 := k1 hs h0
 replace f_v0 := f_v0.fr hw
 refine HT.seq ?_
 obtain ⟨x1, q2, hr⟩ := cl_some hr
 refine HT.u hA hF (eR v0 :: eF (.tup2 (.raw (.int .i64 x1.1)) (.raw (.bool x1.2))) :: eF (.tup2 (.raw (.int .i64 x1.1)) (.raw (.bool x1.2))) :: eI x1.1 :: eB x1.2 :: eI x1.1 :: eB x1.2 :: []) ?_ ?_
 exact Obls.m h0 <| Obls.p (fun R' w' hw hs hd => of_call Tryz.call134 (M_spec_ParseInt_ok (q2 rfl) (hA.fr hw.size) ((f_v0.fr hw).eq (hd.g 0 rfl)))) <| Obls.p (fun R' w' hw hs hd => of_move (hd.g 0 rfl)) <| Obls.p (fun R' w' hw hs hd => of_extract2_0 (hd.g 0 rfl)) <| Obls.p (fun R' w' hw hs hd => of_extract2_1 (hd.g 0 rfl)) <| Obls.a <| Obls.a <| Obls.nil
 intro R w hw hs hF' hA hF
 have h3 := hF'.r 5 rfl
 have h4 := hF'.r 6 rfl
 refine HT.seq ?_
 refine HT.seq ?_
 obtain ⟨x3, q4, hr⟩ := cl_some hr
 obtain ⟨x5, q6, hr⟩ := bd_some hr
 refine HT.u hA hF (eB x1.2 :: eB (!x1.2) :: eB (!x1.2) :: gI (true && ((!x1.2) == false)) x1.1 :: gB (true && ((!x1.2) == false)) x3 :: gB (true && ((!x1.2) == false)) (!x3) :: eB x5 :: []) ?_ ?_
 exact Obls.m h4 <| Obls.p (fun R' w' hw hs hd => of_not (hd.g 0 rfl)) <| Obls.v <| Obls.g 2 false (fun hg R' w' hw hs hd => of_move ((hs 3 rfl).trans h3)) <| Obls.g 2 false (fun hg R' w' hw hs hd => of_call Tryz.call99 (M_spec_l1In_ok (q4 hg) (hA.fr hw.size) (hd.h 0 hg rfl) rfl rfl)) <| Obls.g 2 false (fun hg R' w' hw hs hd => of_not (hd.h 0 hg rfl)) <| Obls.p (fun R' w' hw hs hd => of_pick (!x1.2) (hd.g 0 rfl) (fun hc => by show _ = Value.bool x5; rw [q6, hc]; exact rfl) (fun hc => by have a2 : R' 15 = .bool (!x3) := hd 1 _ _ _ rfl rfl rfl rfl (g_and rfl (beq_of hc)); show _ = Value.bool x5; rw [q6, hc]; exact a2)) <| Obls.nil
 intro R w hw hs hF' hA hF
 replace h3 := k1 hs h3
 have h16 := hF'.r 6 rfl
 refine HT.cond x5 h16 (fun c7 => ?_) (fun c7 => ?_)
 have hr := cnd_t c7 hr
 refine HT.seq ?_
 refine HT.u hA hF (eI 0 :: []) ?_ ?_
 exact Obls.p (fun R' w' hw hs hd => of_assign rfl) <| Obls.nil
 intro R w hw hs hF' hA hF
 have h2 := hF'.r 0 rfl
 refine HT.ret ?_
 obtain rfl := Option.some.inj hr
 exact ⟨.inr rfl, [R 2], ⟨rfl, trivial⟩, h2, hF⟩
 have hr := cnd_f c7 hr
 refine HT.skip ?_
 refine HT.seq ?_
 refine HT.u hA hF (eI x1.1 :: eI x1.1 :: []) ?_ ?_
 exact Obls.m h3 <| Obls.a <| Obls.nil
 intro R w hw hs hF' hA hF
 have h2 := hF'.r 1 rfl
 refine HT.ret ?_
 obtain rfl := Option.some.inj hr
 exact ⟨.inr rfl, [R 2], ⟨rfl, trivial⟩, h2, hF⟩
def M_spec_BlockKeys_L0 (fu : Nat) (x8 : List (List UInt8)) : Nat → Int → (List (List UInt8)) → Option (List (List UInt8))
 | 0, _, _ => none
 | k + 1, y14, y15 =>
 bif (decide (y14 < (x8.length : Int))) then (
 ck (inR y14 x8.length) <|
 ck (lenOK (([115] : List UInt8) ++ (gtD x8 y14)).length) <|
 cl true (M_spec_l3Put fu y15 (([115] : List UInt8) ++ (gtD x8 y14)) false) fun x19 =>
 ck (i64B (y14 + 1)) <|
 M_spec_BlockKeys_L0 fu x8 k (y14 + 1) x19
 ) else (
 some y15
 )
def M_spec_BlockKeys_L1 (fu : Nat) (x37 : List (List UInt8)) (x41 : Int) : Nat → Int → (List (List UInt8)) → Option (List (List UInt8))
 | 0, _, _ => none
 | k + 1, y46, y47 =>
 bd ((decide (y46 < (x37.length : Int))) && (decide (0 < x41))) fun x48 =>
 bif x48 then (
 cl true (M_spec_FormatInt fu x41) fun x51 =>
 ck (lenOK (([121] : List UInt8) ++ x51).length) <|
 ck (inR y46 x37.length) <|
 ck (subR 0 1 (gtD x37 y46).length) <|
 ck (lenOK ((([121] : List UInt8) ++ x51) ++ (subL (gtD x37 y46) 0 1)).length) <|
 cl true (M_spec_l3Put fu y47 ((([121] : List UInt8) ++ x51) ++ (subL (gtD x37 y46) 0 1)) false) fun x57 =>
 ck (i64B (y46 + 1)) <|
 M_spec_BlockKeys_L1 fu x37 x41 k (y46 + 1) x57
 ) else (
 some y47
 )
def M_spec_BlockKeys_L2 (fu : Nat) (x62 : List (List UInt8)) (x66 : Int) : Nat → Int → (List (List UInt8)) → Option (List (List UInt8))
 | 0, _, _ => none
 | k + 1, y71, y72 =>
 bd ((decide (y71 < (x62.length : Int))) && (decide (0 < x66))) fun x73 =>
 bif x73 then (
 cl true (M_spec_FormatInt fu x66) fun x76 =>
 ck (lenOK (([121] : List UInt8) ++ x76).length) <|
 ck (inR y71 x62.length) <|
 ck (subR 0 1 (gtD x62 y71).length) <|
 ck (lenOK ((([121] : List UInt8) ++ x76) ++ (subL (gtD x62 y71) 0 1)).length) <|
 cl true (M_spec_l3Put fu y72 ((([121] : List UInt8) ++ x76) ++ (subL (gtD x62 y71) 0 1)) false) fun x82 =>
 ck (i64B (y71 + 1)) <|
 M_spec_BlockKeys_L2 fu x62 x66 k (y71 + 1) x82
 ) else (
 some y72
 )
def M_spec_BlockKeys (fu : Nat) (p0 : T_impl_Record) : Option (List (List UInt8)) :=
 cl true (M_spec_IsValidRecord fu p0) fun x4 =>
 bif (!x4) then (
 some ([] : List (List UInt8))
 ) else (
 ck (inR 0 p0.2.2.2.length) <|
 cl true (M_spec_SoundKeys fu (gtD p0.2.2.2 0)) fun x8 =>
 cl true (M_spec_BlockKeys_L0 fu x8 fu 0 ([] : List (List UInt8))) fun s13 =>
 ck (inR 3 p0.2.2.2.length) <|
 cl true (M_spec_DigitsOf fu (gtD p0.2.2.2 3)) fun x25 =>
 bif (decide (4 ≤ (x25.length : Int))) then (
 ck (i64B ((x25.length : Int) - 4)) <|
 ck (subR ((x25.length : Int) - 4) (x25.length : Int) x25.length) <|
 ck (lenOK (([112] : List UInt8) ++ (subL x25 ((x25.length : Int) - 4) (x25.length : Int))).length) <|
 cl true (M_spec_l3Put fu s13 (([112] : List UInt8) ++ (subL x25 ((x25.length : Int) - 4) (x25.length : Int))) false) fun x32 =>
 ck (inR 0 p0.2.2.2.length) <|
 cl true (M_spec_Tokens fu (gtD p0.2.2.2 0)) fun x37 =>
 ck (inR 2 p0.2.2.2.length) <|
 cl true (M_spec_ParseYear fu (gtD p0.2.2.2 2)) fun x41 =>
 cl true (M_spec_BlockKeys_L1 fu x37 x41 fu 0 x32) fun s45 =>
 some s45
 ) else (
 ck (inR 0 p0.2.2.2.length) <|
 cl true (M_spec_Tokens fu (gtD p0.2.2.2 0)) fun x62 =>
 ck (inR 2 p0.2.2.2.length) <|
 cl true (M_spec_ParseYear fu (gtD p0.2.2.2 2)) fun x66 =>
 cl true (M_spec_BlockKeys_L2 fu x62 x66 fu 0 s13) fun s70 =>
 some s70
 )
 )
theorem M_spec_BlockKeys_ok {fu : Nat} {A0 : Av} {p0 : T_impl_Record} {r : List (List UInt8)} (hr : M_spec_BlockKeys fu p0 = some r) {w : World} {v0 : Value} (hA : AvOK A0 w) (h0 : Rep E_impl_Record A0 w v0 p0) :
 Calls Tryz.prog 32 #[v0] w fun e w' => ∃ v, e = .returned v ∧ ((Res.vec w.heap.size 9 eStr r).ok (addA A0 v) v w' ∧ Fr w w') := by
 unfold M_spec_BlockKeys at hr
 obtain ⟨w0, hw0⟩ : ∃ w0, w0 = w := ⟨_, rfl⟩
 have hF : Fr w0 w := hw0 ▸ Fr.refl _
 have hA0 : ∀ b o, A0 b o → b < w0.heap.size := fun b o h => hw0 ▸ hA b o h
 have hA00 : AvOK A0 w0 := hA0
 rw [show w.heap.size = w0.heap.size from hw0 ▸ rfl]
 rw [show Fr w = Fr w0 from hw0 ▸ rfl]
 clear hw0
 obtain ⟨A, hAe⟩ : ∃ A, A = A0 := ⟨_, rfl⟩
 have hAA : ∀ b o, A0 b o → A b o := fun b o h => hAe ▸ h
 replace hA : AvOK A w := hAe ▸ hA
 have hO : IniOK [] A w := IniOK.nil
 refine calls_of_HT2 [.tmp 2] Tryz.func32 Tryz.ntmps32 (by decide) rfl rfl (Nat.le_of_ble_eq_true rfl) ?_
 intro R hR
 have f_v0 : Rep E_impl_Record A w v0 p0 := hAe ▸ h0
 replace h0 : R 0 = v0 := hR 0 _ rfl
 clear hR hAe
 refine HT.seq ?_
 refine HT.textR [] (⟨_, true, [], some (.box w0.heap.size 51 E_impl_Record p0), true, fun A => .any⟩ :: rA :: []) (by kernel_rfl) (by kernel_rfl) (Wf.mk' (by kernel_rfl) (ua (ua (UAll.nil))) (by kernel_rfl) (by kernel_rfl)) hO hA ?_ ?_
 exact OblsR.cons (OblR.made _ rfl rfl rfl rfl fun A' R' w' ho hd => by have a0 : R' 0 = v0 := (ho.old 0 rfl).trans h0; have ra0 := (f_v0.stp ho.stp).eq a0; exact made_box ra0 (Nat.le_trans hF.size ho.ch.size)) <| OblsR.p (fun A' R' w' ho hd => of_assign trivial) <| OblsR.nil
 intro done ρ σ A R w hdn hI
 obtain ⟨b1_0, e_b1_0⟩ := hI.boxv hdn 0 rfl rfl
 have h1 : R 1 = (.pointer (some ⟨b1_0, 0, none⟩)) := (hI.opvR hdn 0 0 rfl rfl rfl rfl rfl).symm.trans e_b1_0
 replace hAA := hI.low' hAA hA0 (hO.ge (trivial))
 replace hF : Fr w0 w := hF.tr hI.ch (hO.ge (trivial))
 replace hO := hI.left hdn [(0, ob (.pointer (some ⟨b1_0, 0, none⟩)) (.box w0.heap.size 51 E_impl_Record p0))] ⟨rfl, rfl, e_b1_0, rfl, rfl, trivial⟩
 replace hA := hI.avok
 clear hI
 refine HT.seq ?_
 refine HT.textR [ob (.pointer (some ⟨b1_0, 0, none⟩)) (.box w0.heap.size 51 E_impl_Record p0)] (⟨_, true, [], some (.vec w0.heap.size 9 eStr ([] : List (List UInt8))), true, fun A => .any⟩ :: ⟨_, true, [1], some (.vec w0.heap.size 9 eStr ([] : List (List UInt8))), true, fun A => .any⟩ :: []) (by kernel_rfl) (by kernel_rfl) (Wf.mk' (by kernel_rfl) (ua (ua (UAll.nil))) (by kernel_rfl) (by kernel_rfl)) hO hA ?_ ?_
 exact OblsR.cons (OblR.made _ rfl rfl rfl rfl fun A' R' w' ho hd => by exact made_build [] (E := eStr) trivial Tryz.underlying46 Tryz.sizeOf9 Tryz.zeroValue9 rfl rfl rfl (Nat.le_trans hF.size ho.ch.size)) <| OblsR.cons (OblR.took 1 _ _ rfl rfl rfl rfl rfl fun A' R' w' ho hd u hok hav hin hop hds => by exact took_assign (hop _ _ rfl rfl rfl rfl).symm hok hav) <| OblsR.nil
 intro done ρ σ A R w hdn hI
 replace h1 := k1 hI.rg h1
 have z2 := hI.inivR 0 rfl
 obtain ⟨u3, e_u3⟩ : ∃ u, ρ 2 = u := ⟨_, rfl⟩
 have h3 : R 3 = u3 := (hI.opvR hdn 2 1 rfl rfl rfl rfl rfl).symm.trans e_u3
 replace hAA := hI.low' hAA hA0 (hO.ge (⟨rfl, trivial⟩))
 replace hF : Fr w0 w := hF.tr hI.ch (hO.ge (⟨rfl, trivial⟩))
 replace hO := hI.left hdn [(0, ob (.pointer (some ⟨b1_0, 0, none⟩)) (.box w0.heap.size 51 E_impl_Record p0)), (2, ob u3 (.vec w0.heap.size 9 eStr ([] : List (List UInt8))))] ⟨rfl, rfl, z2, rfl, rfl, ⟨rfl, rfl, e_u3, rfl, rfl, trivial⟩⟩
 replace hA := hI.avok
 clear hI
 refine HT.seq ?_
 refine HT.seq ?_
 obtain ⟨x4, q5, hr⟩ := cl_some hr
 refine HT.u hA hF (eF (.rep E_impl_Record A p0) :: eB x4 :: eB (!x4) :: []) ?_ ?_
 exact Obls.p (fun R' w' hw hs hd => (of_load_box ((hO.fr hw).ok 0 _ rfl).1 ((hs 1 rfl).trans h1) (Fld.id _) rfl Tryz.isAgg51 Tryz.sizeOf51)) <| Obls.p (fun R' w' hw hs hd => of_call Tryz.call59 (M_spec_IsValidRecord_ok (q5 rfl) (hA.fr hw.size) (hd.g 0 rfl))) <| Obls.p (fun R' w' hw hs hd => of_not (hd.g 0 rfl)) <| Obls.nil
 intro R w hw hs hF' hA hF
 obtain ⟨h1, h3⟩ := k2 hs h1 h3
 have h13 := hF'.r 2 rfl
 replace hO := hO.fr hw
 refine HT.cond (!x4) h13 (fun c6 => ?_) (fun c6 => ?_)
 have hr := cnd_t c6 hr
 refine HT.seq ?_
 refine HT.u hA hF (eR u3 :: eR u3 :: []) ?_ ?_
 exact Obls.m h3 <| Obls.a <| Obls.nil
 intro R w hw hs hF' hA hF
 have h2 := hF'.r 1 rfl
 replace hO := hO.fr hw
 replace hO : IniOK [ob u3 (.vec w0.heap.size 9 eStr ([] : List (List UInt8)))] A w := hO.sub [(1, ob u3 (.vec w0.heap.size 9 eStr ([] : List (List UInt8))))] ⟨rfl, rfl, trivial⟩
 refine HT.ret ?_
 obtain rfl := Option.some.inj hr
 exact ⟨.inr rfl, [R 2], ⟨rfl, trivial⟩, (own_post (hO.ok 0 _ rfl) hAA h2), hF⟩
 have hr := cnd_f c6 hr
 refine HT.skip ?_
 refine HT.seq ?_
 obtain ⟨e7, hr⟩ := ck_some hr
 obtain ⟨x8, q9, hr⟩ := cl_some hr
 refine HT.u hA hF (eR (.pointer (some ⟨b1_0, 3, none⟩)) :: eF (.rep (eSl eStr) A p0.2.2.2) :: eF (.qtr eStr A (gtD p0.2.2.2 (0 : Int))) :: eF (.rep eStr A (gtD p0.2.2.2 (0 : Int))) :: eF (.rep (eSl eStr) A x8) :: eF (.rep (eSl eStr) A x8) :: []) ?_ ?_
 exact Obls.p (fun R' w' hw hs hd => of_fieldAddr_raw ((hs 1 rfl).trans h1) ff_51_3 Tryz.sizeOf46 (by decide) rfl) <| Obls.p (fun R' w' hw hs hd => (of_load_box ((hO.fr hw).ok 0 _ rfl).1 (hd.g 0 rfl) fl_impl_Record_3 rfl Tryz.isAgg46 Tryz.sizeOf46)) <| Obls.p (fun R' w' hw hs hd => of_indexAddr (hd.g 0 rfl) rfl Tryz.underlying46 Tryz.sizeOf9 e7) <| Obls.p (fun R' w' hw hs hd => (of_load (QRep.ptr (hd.g 0 rfl)) Tryz.isAgg9 Tryz.sizeOf9)) <| Obls.p (fun R' w' hw hs hd => of_call Tryz.call108 (M_spec_SoundKeys_okR (q9 rfl) (hA.fr hw.size) (hd.g 0 rfl))) <| Obls.p (fun R' w' hw hs hd => of_assign (hd.g 0 rfl)) <| Obls.nil
 intro R w hw hs hF' hA hF
 obtain ⟨h1, h3⟩ := k2 hs h1 h3
 obtain ⟨u10, h4, f_u10⟩ : ∃ u, R 4 = u ∧ Rep (eSl eStr) A w u x8 := ⟨_, rfl, hF' 5 _ _ rfl rfl rfl⟩
 replace hO := hO.fr hw
 refine HT.seq ?_
 refine HT.seq ?_
 refine HT.u hA hF (eI 0 :: []) ?_ ?_
 exact Obls.p (fun R' w' hw hs hd => of_assign rfl) <| Obls.nil
 intro R w hw hs hF' hA hF
 obtain ⟨h1, h3, h4⟩ := k3 hs h1 h3 h4
 have h5 := hF'.r 0 rfl
 replace f_u10 := f_u10.fr hw
 replace hO := hO.fr hw
 obtain ⟨rl11, q12, hr⟩ := cl_some hr
 replace q12 := q12 rfl
 refine HT.cut0 (fun R w => ∃ A : Av, ∃ (s13 : (List (List UInt8))) (uo_u3 : Value), rl11 = s13 ∧ AvOK A w ∧ Fr w0 w ∧ (∀ b o, A0 b o → A b o) ∧ IniOK [ob (.pointer (some ⟨b1_0, 0, none⟩)) (.box w0.heap.size 51 E_impl_Record p0), ob uo_u3 (.vec w0.heap.size 9 eStr s13)] A w ∧ R 1 = (.pointer (some ⟨b1_0, 0, none⟩)) ∧ R 3 = uo_u3) ?_ ?_
 refine HT.block ?_
 refine HT.loop (fun k R w => ∃ A : Av, ∃ (y14 : Int) (y15 : List (List UInt8)) (ul_u3 : Value), M_spec_BlockKeys_L0 fu x8 k y14 y15 = some rl11 ∧ AvOK A w ∧ Fr w0 w ∧ (∀ b o, A0 b o → A b o) ∧ IniOK [ob (.pointer (some ⟨b1_0, 0, none⟩)) (.box w0.heap.size 51 E_impl_Record p0), ob ul_u3 (.vec w0.heap.size 9 eStr y15)] A w ∧ R 1 = (.pointer (some ⟨b1_0, 0, none⟩)) ∧ R 3 = ul_u3 ∧ R 4 = u10 ∧ R 5 = .int .i64 y14 ∧ Rep (eSl eStr) A w u10 x8) fu ⟨_, _, _, u3, q12, hA, hF, hAA, hO, h1, h3, h4, h5, f_u10⟩ ?_
 have hr0 := hr; clear hr q12
 rintro k R w ⟨A, y14, y15, ul_u3, hr, hA, hF, hAA, hO, h1, h3, h4, h5, f_u10⟩
 rcases k with _ | k
 cases (show none = some _ from hr)
 rw [M_spec_BlockKeys_L0] at hr
 refine HT.seq ?_
 refine HT.seq ?_
 refine HT.u hA hF (eI y14 :: eR u10 :: eI (x8.length : Int) :: eB (decide (y14 < (x8.length : Int))) :: []) ?_ ?_
 exact Obls.m h5 <| Obls.m h4 <| Obls.p (fun R' w' hw hs hd => of_len_sl (aT := #[]) ((f_u10.fr hw).eq (hd.g 0 rfl)) Tryz.underlying46) <| Obls.p (fun R' w' hw hs hd => of_lss (hd.g 0 rfl) (hd.g 1 rfl)) <| Obls.nil
 intro R w hw hs hF' hA hF
 obtain ⟨h1, h3, h4, h5⟩ := k4 hs h1 h3 h4 h5
 have h23 := hF'.r 3 rfl
 replace f_u10 := f_u10.fr hw
 replace hO := hO.fr hw
 refine HT.cond (decide (y14 < (x8.length : Int))) h23 (fun c16 => ?_) (fun c16 => ?_)
 have hr := cnd_t c16 hr
 refine HT.skip ?_
 refine HT.seq ?_
 refine HT.block ?_
 obtain ⟨e17, hr⟩ := ck_some hr
 obtain ⟨e18, hr⟩ := ck_some hr
 obtain ⟨x19, q20, hr⟩ := cl_some hr
 refine HT.textR [ob (.pointer (some ⟨b1_0, 0, none⟩)) (.box w0.heap.size 51 E_impl_Record p0), ob ul_u3 (.vec w0.heap.size 9 eStr y15)] (rR ul_u3 :: rR u10 :: rI y14 :: (rF fun A => .qtr eStr A (gtD x8 y14)) :: (rF fun A => .rep eStr A (gtD x8 y14)) :: (rF fun A => .rep eStr A (([115] : List UInt8) ++ (gtD x8 y14))) :: ⟨_, true, [1], some (.vec w0.heap.size 9 eStr x19), true, fun A => .any⟩ :: ⟨_, true, [8], some (.vec w0.heap.size 9 eStr x19), true, fun A => .any⟩ :: []) (by kernel_rfl) (by kernel_rfl) (Wf.mk' (by kernel_rfl) (ur (ur (ur (UAll.cons ust_qtr (up (up (ua (ua (UAll.nil))))))))) (by kernel_rfl) (by kernel_rfl)) hO hA ?_ ?_
 exact OblsR.m h3 <| OblsR.m h4 <| OblsR.m h5 <| OblsR.p (fun A' R' w' ho hd => of_indexAddr ((f_u10.stp ho.stp).eq (hd.g 0 rfl)) (hd.g 1 rfl) Tryz.underlying46 Tryz.sizeOf9 e17) <| OblsR.p (fun A' R' w' ho hd => (of_load (QRep.ptr (hd.g 0 rfl)) Tryz.isAgg9 Tryz.sizeOf9)) <| OblsR.p (fun A' R' w' ho hd => of_cat ⟨_, rfl, ⟨_, rfl, rfl, by decide⟩⟩ (hd.g 0 rfl) e18) <| OblsR.cons (OblR.took 1 _ _ rfl rfl rfl rfl rfl fun A' R' w' ho hd u hok hav hin hop hds => by have a0 : R' 26 = ul_u3 := hd.g 0 rfl; have a1 : Rep eStr A' w' (R' 31) (([115] : List UInt8) ++ (gtD x8 y14)) := hd.g 1 rfl; have hu0 : evalR R' (.tmp 26) = u := a0.trans (hin _ rfl).symm; exact took_callm Tryz.call109 hav (by simp only [List.map, hu0]; exact M_spec_l3Put_ok (q20 rfl) (ho.av.sub _) (fun b o h => h.2) (Nat.le_trans hF.size ho.ch.size) (Vec.flat hok (fun _ _ _ _ _ h => h)) (a1.less fun b o h => h.1) rfl)) <| OblsR.cons (OblR.took 8 _ _ rfl rfl rfl rfl rfl fun A' R' w' ho hd u hok hav hin hop hds => by exact took_assign (hop _ _ rfl rfl rfl rfl).symm hok hav) <| OblsR.nil
 intro done ρ σ A R w hdn hI
 obtain ⟨h1, h4, h5⟩ := k3 hI.rg h1 h4 h5
 have z21 := hI.inivR 0 rfl
 obtain ⟨u22, e_u22⟩ : ∃ u, ρ 9 = u := ⟨_, rfl⟩
 have h3 : R 3 = u22 := (hI.opvR hdn 9 7 rfl rfl rfl rfl rfl).symm.trans e_u22
 replace f_u10 := f_u10.stp hI.stp
 replace hAA := hI.low' hAA hA0 (hO.ge (⟨rfl, ⟨rfl, trivial⟩⟩))
 replace hF : Fr w0 w := hF.tr hI.ch (hO.ge (⟨rfl, ⟨rfl, trivial⟩⟩))
 replace hO := hI.left hdn [(0, ob (.pointer (some ⟨b1_0, 0, none⟩)) (.box w0.heap.size 51 E_impl_Record p0)), (9, ob u22 (.vec w0.heap.size 9 eStr x19))] ⟨rfl, rfl, z21, rfl, rfl, ⟨rfl, rfl, e_u22, rfl, rfl, trivial⟩⟩
 replace hA := hI.avok
 clear hI
 obtain ⟨e23, hr⟩ := ck_some hr
 refine HT.u hA hF (eI y14 :: eI (y14 + (1 : Int)) :: eI (y14 + (1 : Int)) :: []) ?_ ?_
 exact Obls.m h5 <| Obls.p (fun R' w' hw hs hd => of_add (hd.g 0 rfl) rfl e23) <| Obls.a <| Obls.nil
 intro R w hw hs hF' hA hF
 obtain ⟨h1, h3, h4⟩ := k3 hs h1 h3 h4
 have h5 := hF'.r 2 rfl
 replace f_u10 := f_u10.fr hw
 replace hO := hO.fr hw
 exact Exists.intro k (And.intro (Nat.lt_succ_self k) ⟨_, _, _, u22, hr, hA, hF, hAA, hO, h1, h3, h4, h5, f_u10⟩)
 have hr := cnd_f c16 hr
 refine HT.exit ?_
 obtain rfl := Option.some.inj hr
 exact Exists.intro _ ⟨_, ul_u3, rfl, hA, hF, hAA, hO, h1, h3⟩
 rintro R w ⟨A, s13, uo_u3, es, hA, hF, hAA, hO, h1, h3⟩
 obtain rfl := es.symm
 refine HT.seq ?_
 obtain ⟨e24, hr⟩ := ck_some hr
 obtain ⟨x25, q26, hr⟩ := cl_some hr
 refine HT.u hA hF (eR (.pointer (some ⟨b1_0, 3, none⟩)) :: eF (.rep (eSl eStr) A p0.2.2.2) :: eF (.qtr eStr A (gtD p0.2.2.2 (3 : Int))) :: eF (.rep eStr A (gtD p0.2.2.2 (3 : Int))) :: eF (.rep eStr A x25) :: eF (.rep eStr A x25) :: []) ?_ ?_
 exact Obls.p (fun R' w' hw hs hd => of_fieldAddr_raw ((hs 1 rfl).trans h1) ff_51_3 Tryz.sizeOf46 (by decide) rfl) <| Obls.p (fun R' w' hw hs hd => (of_load_box ((hO.fr hw).ok 0 _ rfl).1 (hd.g 0 rfl) fl_impl_Record_3 rfl Tryz.isAgg46 Tryz.sizeOf46)) <| Obls.p (fun R' w' hw hs hd => of_indexAddr (hd.g 0 rfl) rfl Tryz.underlying46 Tryz.sizeOf9 e24) <| Obls.p (fun R' w' hw hs hd => (of_load (QRep.ptr (hd.g 0 rfl)) Tryz.isAgg9 Tryz.sizeOf9)) <| Obls.p (fun R' w' hw hs hd => of_call Tryz.call110 (M_spec_DigitsOf_ok (q26 rfl) (hA.fr hw.size) (hd.g 0 rfl))) <| Obls.p (fun R' w' hw hs hd => of_assign (hd.g 0 rfl)) <| Obls.nil
 intro R w hw hs hF' hA hF
 obtain ⟨h1, h3⟩ := k2 hs h1 h3
 obtain ⟨u27, h6, f_u27⟩ : ∃ u, R 6 = u ∧ Rep eStr A w u x25 := ⟨_, rfl, hF' 5 _ _ rfl rfl rfl⟩
 replace hO := hO.fr hw
 refine HT.seq ?_
 refine HT.seq ?_
 refine HT.u hA hF (eR u27 :: eI (x25.length : Int) :: eB (decide ((4 : Int) ≤ (x25.length : Int))) :: []) ?_ ?_
 exact Obls.m h6 <| Obls.p (fun R' w' hw hs hd => of_len_str ((f_u27.fr hw).eq (hd.g 0 rfl)) Tryz.underlying9) <| Obls.p (fun R' w' hw hs hd => of_geq (hd.g 0 rfl) rfl) <| Obls.nil
 intro R w hw hs hF' hA hF
 obtain ⟨h1, h3, h6⟩ := k3 hs h1 h3 h6
 have h40 := hF'.r 2 rfl
 replace f_u27 := f_u27.fr hw
 replace hO := hO.fr hw
 refine HT.cond (decide ((4 : Int) ≤ (x25.length : Int))) h40 (fun c28 => ?_) (fun c28 => ?_)
 have hr := cnd_t c28 hr
 obtain ⟨e29, hr⟩ := ck_some hr
 obtain ⟨e30, hr⟩ := ck_some hr
 obtain ⟨e31, hr⟩ := ck_some hr
 obtain ⟨x32, q33, hr⟩ := cl_some hr
 refine HT.textR [ob (.pointer (some ⟨b1_0, 0, none⟩)) (.box w0.heap.size 51 E_impl_Record p0), ob uo_u3 (.vec w0.heap.size 9 eStr s13)] (rR uo_u3 :: rR u27 :: rR u27 :: rI (x25.length : Int) :: rI ((x25.length : Int) - (4 : Int)) :: (rF fun A => .rep eStr A (subL x25 ((x25.length : Int) - (4 : Int)) (x25.length : Int))) :: (rF fun A => .rep eStr A (([112] : List UInt8) ++ (subL x25 ((x25.length : Int) - (4 : Int)) (x25.length : Int)))) :: ⟨_, true, [1], some (.vec w0.heap.size 9 eStr x32), true, fun A => .any⟩ :: ⟨_, true, [9], some (.vec w0.heap.size 9 eStr x32), true, fun A => .any⟩ :: []) (by kernel_rfl) (by kernel_rfl) (Wf.mk' (by kernel_rfl) (ur (ur (ur (ur (ur (up (up (ua (ua (UAll.nil)))))))))) (by kernel_rfl) (by kernel_rfl)) hO hA ?_ ?_
 exact OblsR.m h3 <| OblsR.m h6 <| OblsR.m h6 <| OblsR.p (fun A' R' w' ho hd => of_len_str ((f_u27.stp ho.stp).eq (hd.g 0 rfl)) Tryz.underlying9) <| OblsR.p (fun A' R' w' ho hd => of_sub (hd.g 0 rfl) rfl e29) <| OblsR.p (fun A' R' w' ho hd => of_slice_str_lo ((f_u27.stp ho.stp).eq (hd.g 0 rfl)) (hd.g 1 rfl) Tryz.underlying9  e30) <| OblsR.p (fun A' R' w' ho hd => of_cat ⟨_, rfl, ⟨_, rfl, rfl, by decide⟩⟩ (hd.g 0 rfl) e31) <| OblsR.cons (OblR.took 1 _ _ rfl rfl rfl rfl rfl fun A' R' w' ho hd u hok hav hin hop hds => by have a0 : R' 41 = uo_u3 := hd.g 0 rfl; have a1 : Rep eStr A' w' (R' 47) (([112] : List UInt8) ++ (subL x25 ((x25.length : Int) - (4 : Int)) (x25.length : Int))) := hd.g 1 rfl; have hu0 : evalR R' (.tmp 41) = u := a0.trans (hin _ rfl).symm; exact took_callm Tryz.call109 hav (by simp only [List.map, hu0]; exact M_spec_l3Put_ok (q33 rfl) (ho.av.sub _) (fun b o h => h.2) (Nat.le_trans hF.size ho.ch.size) (Vec.flat hok (fun _ _ _ _ _ h => h)) (a1.less fun b o h => h.1) rfl)) <| OblsR.cons (OblR.took 9 _ _ rfl rfl rfl rfl rfl fun A' R' w' ho hd u hok hav hin hop hds => by exact took_assign (hop _ _ rfl rfl rfl rfl).symm hok hav) <| OblsR.nil
 intro done ρ σ A R w hdn hI
 replace h1 := k1 hI.rg h1
 have z34 := hI.inivR 0 rfl
 obtain ⟨u35, e_u35⟩ : ∃ u, ρ 10 = u := ⟨_, rfl⟩
 have h3 : R 3 = u35 := (hI.opvR hdn 10 8 rfl rfl rfl rfl rfl).symm.trans e_u35
 replace hAA := hI.low' hAA hA0 (hO.ge (⟨rfl, ⟨rfl, trivial⟩⟩))
 replace hF : Fr w0 w := hF.tr hI.ch (hO.ge (⟨rfl, ⟨rfl, trivial⟩⟩))
 replace hO := hI.left hdn [(0, ob (.pointer (some ⟨b1_0, 0, none⟩)) (.box w0.heap.size 51 E_impl_Record p0)), (10, ob u35 (.vec w0.heap.size 9 eStr x32))] ⟨rfl, rfl, z34, rfl, rfl, ⟨rfl, rfl, e_u35, rfl, rfl, trivial⟩⟩
 replace hA := hI.avok
 clear hI
 refine HT.seq ?_
 obtain ⟨e36, hr⟩ := ck_some hr
 obtain ⟨x37, q38, hr⟩ := cl_some hr
 refine HT.u hA hF (eR (.pointer (some ⟨b1_0, 3, none⟩)) :: eF (.rep (eSl eStr) A p0.2.2.2) :: eF (.qtr eStr A (gtD p0.2.2.2 (0 : Int))) :: eF (.rep eStr A (gtD p0.2.2.2 (0 : Int))) :: eF (.rep (eSl eStr) A x37) :: eF (.rep (eSl eStr) A x37) :: []) ?_ ?_
 exact Obls.p (fun R' w' hw hs hd => of_fieldAddr_raw ((hs 1 rfl).trans h1) ff_51_3 Tryz.sizeOf46 (by decide) rfl) <| Obls.p (fun R' w' hw hs hd => (of_load_box ((hO.fr hw).ok 0 _ rfl).1 (hd.g 0 rfl) fl_impl_Record_3 rfl Tryz.isAgg46 Tryz.sizeOf46)) <| Obls.p (fun R' w' hw hs hd => of_indexAddr (hd.g 0 rfl) rfl Tryz.underlying46 Tryz.sizeOf9 e36) <| Obls.p (fun R' w' hw hs hd => (of_load (QRep.ptr (hd.g 0 rfl)) Tryz.isAgg9 Tryz.sizeOf9)) <| Obls.p (fun R' w' hw hs hd => of_call Tryz.call111 (M_spec_Tokens_okR (q38 rfl) (hA.fr hw.size) (hd.g 0 rfl))) <| Obls.p (fun R' w' hw hs hd => of_assign (hd.g 0 rfl)) <| Obls.nil
 intro R w hw hs hF' hA hF
 obtain ⟨h1, h3⟩ := k2 hs h1 h3
 obtain ⟨u39, h7, f_u39⟩ : ∃ u, R 7 = u ∧ Rep (eSl eStr) A w u x37 := ⟨_, rfl, hF' 5 _ _ rfl rfl rfl⟩
 replace hO := hO.fr hw
 refine HT.seq ?_
 obtain ⟨e40, hr⟩ := ck_some hr
 obtain ⟨x41, q42, hr⟩ := cl_some hr
 refine HT.u hA hF (eR (.pointer (some ⟨b1_0, 3, none⟩)) :: eF (.rep (eSl eStr) A p0.2.2.2) :: eF (.qtr eStr A (gtD p0.2.2.2 (2 : Int))) :: eF (.rep eStr A (gtD p0.2.2.2 (2 : Int))) :: eI x41 :: eI x41 :: []) ?_ ?_
 exact Obls.p (fun R' w' hw hs hd => of_fieldAddr_raw ((hs 1 rfl).trans h1) ff_51_3 Tryz.sizeOf46 (by decide) rfl) <| Obls.p (fun R' w' hw hs hd => (of_load_box ((hO.fr hw).ok 0 _ rfl).1 (hd.g 0 rfl) fl_impl_Record_3 rfl Tryz.isAgg46 Tryz.sizeOf46)) <| Obls.p (fun R' w' hw hs hd => of_indexAddr (hd.g 0 rfl) rfl Tryz.underlying46 Tryz.sizeOf9 e40) <| Obls.p (fun R' w' hw hs hd => (of_load (QRep.ptr (hd.g 0 rfl)) Tryz.isAgg9 Tryz.sizeOf9)) <| Obls.p (fun R' w' hw hs hd => of_call Tryz.call61 (M_spec_ParseYear_ok (q42 rfl) (hA.fr hw.size) (hd.g 0 rfl))) <| Obls.a <| Obls.nil
 intro R w hw hs hF' hA hF
 obtain ⟨h3, h7⟩ := k2 hs h3 h7
 have h8 := hF'.r 5 rfl
 replace f_u39 := f_u39.fr hw
 replace hO := hO.fr hw
 replace hO : IniOK [ob u35 (.vec w0.heap.size 9 eStr x32)] A w := hO.sub [(1, ob u35 (.vec w0.heap.size 9 eStr x32))] ⟨rfl, rfl, trivial⟩
 refine HT.seq ?_
 refine HT.seq ?_
 refine HT.u hA hF (eI 0 :: []) ?_ ?_
 exact Obls.p (fun R' w' hw hs hd => of_assign rfl) <| Obls.nil
 intro R w hw hs hF' hA hF
 obtain ⟨h3, h7, h8⟩ := k3 hs h3 h7 h8
 have h9 := hF'.r 0 rfl
 replace f_u39 := f_u39.fr hw
 replace hO := hO.fr hw
 obtain ⟨rl43, q44, hr⟩ := cl_some hr
 replace q44 := q44 rfl
 refine HT.cut0 (fun R w => ∃ A : Av, ∃ (s45 : (List (List UInt8))) (uo_u35 : Value), rl43 = s45 ∧ AvOK A w ∧ Fr w0 w ∧ (∀ b o, A0 b o → A b o) ∧ IniOK [ob uo_u35 (.vec w0.heap.size 9 eStr s45)] A w ∧ R 3 = uo_u35) ?_ ?_
 refine HT.block ?_
 refine HT.loop (fun k R w => ∃ A : Av, ∃ (y46 : Int) (y47 : List (List UInt8)) (ul_u35 : Value), M_spec_BlockKeys_L1 fu x37 x41 k y46 y47 = some rl43 ∧ AvOK A w ∧ Fr w0 w ∧ (∀ b o, A0 b o → A b o) ∧ IniOK [ob ul_u35 (.vec w0.heap.size 9 eStr y47)] A w ∧ R 3 = ul_u35 ∧ R 7 = u39 ∧ R 8 = .int .i64 x41 ∧ R 9 = .int .i64 y46 ∧ Rep (eSl eStr) A w u39 x37) fu ⟨_, _, _, u35, q44, hA, hF, hAA, hO, h3, h7, h8, h9, f_u39⟩ ?_
 have hr0 := hr; clear hr q44
 rintro k R w ⟨A, y46, y47, ul_u35, hr, hA, hF, hAA, hO, h3, h7, h8, h9, f_u39⟩
 rcases k with _ | k
 cases (show none = some _ from hr)
 rw [M_spec_BlockKeys_L1] at hr
 refine HT.seq ?_
 refine HT.seq ?_
 obtain ⟨x48, q49, hr⟩ := bd_some hr
 refine HT.u hA hF (eI y46 :: eR u39 :: eI (x37.length : Int) :: eB (decide (y46 < (x37.length : Int))) :: eB (decide (y46 < (x37.length : Int))) :: gI (true && ((decide (y46 < (x37.length : Int))) == true)) x41 :: gB (true && ((decide (y46 < (x37.length : Int))) == true)) (decide ((0 : Int) < x41)) :: eB x48 :: []) ?_ ?_
 exact Obls.m h9 <| Obls.m h7 <| Obls.p (fun R' w' hw hs hd => of_len_sl (aT := #[]) ((f_u39.fr hw).eq (hd.g 0 rfl)) Tryz.underlying46) <| Obls.p (fun R' w' hw hs hd => of_lss (hd.g 0 rfl) (hd.g 1 rfl)) <| Obls.v <| Obls.g 4 true (fun hg R' w' hw hs hd => of_move ((hs 8 rfl).trans h8)) <| Obls.g 4 true (fun hg R' w' hw hs hd => of_gtr (hd.h 0 hg rfl) rfl) <| Obls.p (fun R' w' hw hs hd => of_pick (decide (y46 < (x37.length : Int))) (hd.g 0 rfl) (fun hc => by have a1 : R' 65 = .bool (decide ((0 : Int) < x41)) := hd 1 _ _ _ rfl rfl rfl rfl (g_and rfl (beq_of hc)); show _ = Value.bool x48; rw [q49, hc]; exact a1) (fun hc => by show _ = Value.bool x48; rw [q49, hc]; exact rfl)) <| Obls.nil
 intro R w hw hs hF' hA hF
 obtain ⟨h3, h7, h8, h9⟩ := k4 hs h3 h7 h8 h9
 have h66 := hF'.r 7 rfl
 replace f_u39 := f_u39.fr hw
 replace hO := hO.fr hw
 refine HT.cond x48 h66 (fun c50 => ?_) (fun c50 => ?_)
 have hr := cnd_t c50 hr
 refine HT.skip ?_
 refine HT.seq ?_
 refine HT.block ?_
 obtain ⟨x51, q52, hr⟩ := cl_some hr
 obtain ⟨e53, hr⟩ := ck_some hr
 obtain ⟨e54, hr⟩ := ck_some hr
 obtain ⟨e55, hr⟩ := ck_some hr
 obtain ⟨e56, hr⟩ := ck_some hr
 obtain ⟨x57, q58, hr⟩ := cl_some hr
 refine HT.drawR [ob ul_u35 (.vec w0.heap.size 9 eStr y47)] (rR ul_u35 :: rI x41 :: (rF fun A => .rep eStr A x51) :: (rF fun A => .rep eStr A (([121] : List UInt8) ++ x51)) :: rR u39 :: rI y46 :: (rF fun A => .qtr eStr A (gtD x37 y46)) :: (rF fun A => .rep eStr A (gtD x37 y46)) :: (rF fun A => .rep eStr A (subL (gtD x37 y46) 0 (1 : Int))) :: (rF fun A => .rep eStr A ((([121] : List UInt8) ++ x51) ++ (subL (gtD x37 y46) 0 (1 : Int)))) :: ⟨_, true, [0], some (.vec w0.heap.size 9 eStr x57), true, fun A => .any⟩ :: ⟨_, true, [11], some (.vec w0.heap.size 9 eStr x57), true, fun A => .any⟩ :: []) (by kernel_rfl) (by kernel_rfl) (by kernel_rfl) (Wf.mk' (by kernel_rfl) (ur (ur (up (up (ur (ur (UAll.cons ust_qtr (up (up (up (ua (ua (UAll.nil))))))))))))) (by kernel_rfl) (by kernel_rfl)) hO hA ?_ ?_
 exact OblsR.m h3 <| OblsR.m h8 <| OblsR.p (fun A' R' w' ho hd => of_call Tryz.call88 (M_spec_FormatInt_ok (q52 rfl) ho.av (hd.g 0 rfl))) <| OblsR.p (fun A' R' w' ho hd => of_cat ⟨_, rfl, ⟨_, rfl, rfl, by decide⟩⟩ (hd.g 0 rfl) e53) <| OblsR.m h7 <| OblsR.m h9 <| OblsR.p (fun A' R' w' ho hd => of_indexAddr ((f_u39.stp ho.stp).eq (hd.g 0 rfl)) (hd.g 1 rfl) Tryz.underlying46 Tryz.sizeOf9 e54) <| OblsR.p (fun A' R' w' ho hd => (of_load (QRep.ptr (hd.g 0 rfl)) Tryz.isAgg9 Tryz.sizeOf9)) <| OblsR.p (fun A' R' w' ho hd => of_slice_str_hi (hd.g 0 rfl) rfl Tryz.underlying9  e55) <| OblsR.p (fun A' R' w' ho hd => of_cat (hd.g 0 rfl) (hd.g 1 rfl) e56) <| OblsR.cons (OblR.took 0 _ _ rfl rfl rfl rfl rfl fun A' R' w' ho hd u hok hav hin hop hds => by have a0 : R' 69 = ul_u35 := hd.g 0 rfl; have a1 : Rep eStr A' w' (R' 78) ((([121] : List UInt8) ++ x51) ++ (subL (gtD x37 y46) 0 (1 : Int))) := hd.g 1 rfl; have hu0 : evalR R' (.tmp 69) = u := a0.trans (hin _ rfl).symm; exact took_callm Tryz.call109 hav (by simp only [List.map, hu0]; exact M_spec_l3Put_ok (q58 rfl) (ho.av.sub _) (fun b o h => h.2) (Nat.le_trans hF.size ho.ch.size) (Vec.flat hok (fun _ _ _ _ _ h => h)) (a1.less fun b o h => h.1) rfl)) <| OblsR.cons (OblR.took 11 _ _ rfl rfl rfl rfl rfl fun A' R' w' ho hd u hok hav hin hop hds => by exact took_assign (hop _ _ rfl rfl rfl rfl).symm hok hav) <| OblsR.nil
 intro done ρ σ A R w hdn hI
 obtain ⟨h7, h8, h9⟩ := k3 hI.rg h7 h8 h9
 obtain ⟨u59, e_u59⟩ : ∃ u, ρ 12 = u := ⟨_, rfl⟩
 have h3 : R 3 = u59 := (hI.opvR hdn 12 11 rfl rfl rfl rfl rfl).symm.trans e_u59
 replace f_u39 := f_u39.stp hI.stp
 replace hAA := hI.low' hAA hA0 (hO.ge (⟨rfl, trivial⟩))
 replace hF : Fr w0 w := hF.tr hI.ch (hO.ge (⟨rfl, trivial⟩))
 replace hO := hI.left hdn [(12, ob u59 (.vec w0.heap.size 9 eStr x57))] ⟨rfl, rfl, e_u59, rfl, rfl, trivial⟩
 replace hA := hI.avok
 clear hI
 obtain ⟨e60, hr⟩ := ck_some hr
 refine HT.u hA hF (eI y46 :: eI (y46 + (1 : Int)) :: eI (y46 + (1 : Int)) :: []) ?_ ?_
 exact Obls.m h9 <| Obls.p (fun R' w' hw hs hd => of_add (hd.g 0 rfl) rfl e60) <| Obls.a <| Obls.nil
 intro R w hw hs hF' hA hF
 obtain ⟨h3, h7, h8⟩ := k3 hs h3 h7 h8
 have h9 := hF'.r 2 rfl
 replace f_u39 := f_u39.fr hw
 replace hO := hO.fr hw
 exact Exists.intro k (And.intro (Nat.lt_succ_self k) ⟨_, _, _, u59, hr, hA, hF, hAA, hO, h3, h7, h8, h9, f_u39⟩)
 have hr := cnd_f c50 hr
 refine HT.exit ?_
 obtain rfl := Option.some.inj hr
 exact Exists.intro _ ⟨_, ul_u35, rfl, hA, hF, hAA, hO, h3⟩
 rintro R w ⟨A, s45, uo_u35, es, hA, hF, hAA, hO, h3⟩
 obtain rfl := es.symm
 refine HT.seq ?_
 refine HT.u hA hF (eR uo_u35 :: eR uo_u35 :: []) ?_ ?_
 exact Obls.m h3 <| Obls.a <| Obls.nil
 intro R w hw hs hF' hA hF
 have h2 := hF'.r 1 rfl
 replace hO := hO.fr hw
 refine HT.ret ?_
 obtain rfl := Option.some.inj hr
 exact ⟨.inr rfl, [R 2], ⟨rfl, trivial⟩, (own_post (hO.ok 0 _ rfl) hAA h2), hF⟩
 have hr := cnd_f c28 hr
 refine HT.skip ?_
 refine HT.seq ?_
 obtain ⟨e61, hr⟩ := ck_some hr
 obtain ⟨x62, q63, hr⟩ := cl_some hr
 refine HT.u hA hF (eR (.pointer (some ⟨b1_0, 3, none⟩)) :: eF (.rep (eSl eStr) A p0.2.2.2) :: eF (.qtr eStr A (gtD p0.2.2.2 (0 : Int))) :: eF (.rep eStr A (gtD p0.2.2.2 (0 : Int))) :: eF (.rep (eSl eStr) A x62) :: eF (.rep (eSl eStr) A x62) :: []) ?_ ?_
 exact Obls.p (fun R' w' hw hs hd => of_fieldAddr_raw ((hs 1 rfl).trans h1) ff_51_3 Tryz.sizeOf46 (by decide) rfl) <| Obls.p (fun R' w' hw hs hd => (of_load_box ((hO.fr hw).ok 0 _ rfl).1 (hd.g 0 rfl) fl_impl_Record_3 rfl Tryz.isAgg46 Tryz.sizeOf46)) <| Obls.p (fun R' w' hw hs hd => of_indexAddr (hd.g 0 rfl) rfl Tryz.underlying46 Tryz.sizeOf9 e61) <| Obls.p (fun R' w' hw hs hd => (of_load (QRep.ptr (hd.g 0 rfl)) Tryz.isAgg9 Tryz.sizeOf9)) <| Obls.p (fun R' w' hw hs hd => of_call Tryz.call111 (M_spec_Tokens_okR (q63 rfl) (hA.fr hw.size) (hd.g 0 rfl))) <| Obls.p (fun R' w' hw hs hd => of_assign (hd.g 0 rfl)) <| Obls.nil
 intro R w hw hs hF' hA hF
 obtain ⟨h1, h3⟩ := k2 hs h1 h3
 obtain ⟨u64, h7, f_u64⟩ : ∃ u, R 7 = u ∧ Rep (eSl eStr) A w u x62 := ⟨_, rfl, hF' 5 _ _ rfl rfl rfl⟩
 replace hO := hO.fr hw
 refine HT.seq ?_
 obtain ⟨e65, hr⟩ := ck_some hr
 obtain ⟨x66, q67, hr⟩ := cl_some hr
 refine HT.u hA hF (eR (.pointer (some ⟨b1_0, 3, none⟩)) :: eF (.rep (eSl eStr) A p0.2.2.2) :: eF (.qtr eStr A (gtD p0.2.2.2 (2 : Int))) :: eF (.rep eStr A (gtD p0.2.2.2 (2 : Int))) :: eI x66 :: eI x66 :: []) ?_ ?_
 exact Obls.p (fun R' w' hw hs hd => of_fieldAddr_raw ((hs 1 rfl).trans h1) ff_51_3 Tryz.sizeOf46 (by decide) rfl) <| Obls.p (fun R' w' hw hs hd => (of_load_box ((hO.fr hw).ok 0 _ rfl).1 (hd.g 0 rfl) fl_impl_Record_3 rfl Tryz.isAgg46 Tryz.sizeOf46)) <| Obls.p (fun R' w' hw hs hd => of_indexAddr (hd.g 0 rfl) rfl Tryz.underlying46 Tryz.sizeOf9 e65) <| Obls.p (fun R' w' hw hs hd => (of_load (QRep.ptr (hd.g 0 rfl)) Tryz.isAgg9 Tryz.sizeOf9)) <| Obls.p (fun R' w' hw hs hd => of_call Tryz.call61 (M_spec_ParseYear_ok (q67 rfl) (hA.fr hw.size) (hd.g 0 rfl))) <| Obls.a <| Obls.nil
 intro R w hw hs hF' hA hF
 obtain ⟨h3, h7⟩ := k2 hs h3 h7
 have h8 := hF'.r 5 rfl
 replace f_u64 := f_u64.fr hw
 replace hO := hO.fr hw
 replace hO : IniOK [ob uo_u3 (.vec w0.heap.size 9 eStr s13)] A w := hO.sub [(1, ob uo_u3 (.vec w0.heap.size 9 eStr s13))] ⟨rfl, rfl, trivial⟩
 refine HT.seq ?_
 refine HT.seq ?_
 refine HT.u hA hF (eI 0 :: []) ?_ ?_
 exact Obls.p (fun R' w' hw hs hd => of_assign rfl) <| Obls.nil
 intro R w hw hs hF' hA hF
 obtain ⟨h3, h7, h8⟩ := k3 hs h3 h7 h8
 have h9 := hF'.r 0 rfl
 replace f_u64 := f_u64.fr hw
 replace hO := hO.fr hw
 obtain ⟨rl68, q69, hr⟩ := cl_some hr
 replace q69 := q69 rfl
 refine HT.cut0 (fun R w => ∃ A : Av, ∃ (s70 : (List (List UInt8))) (uo_uo_u3 : Value), rl68 = s70 ∧ AvOK A w ∧ Fr w0 w ∧ (∀ b o, A0 b o → A b o) ∧ IniOK [ob uo_uo_u3 (.vec w0.heap.size 9 eStr s70)] A w ∧ R 3 = uo_uo_u3) ?_ ?_
 refine HT.block ?_
 refine HT.loop (fun k R w => ∃ A : Av, ∃ (y71 : Int) (y72 : List (List UInt8)) (ul_uo_u3 : Value), M_spec_BlockKeys_L2 fu x62 x66 k y71 y72 = some rl68 ∧ AvOK A w ∧ Fr w0 w ∧ (∀ b o, A0 b o → A b o) ∧ IniOK [ob ul_uo_u3 (.vec w0.heap.size 9 eStr y72)] A w ∧ R 3 = ul_uo_u3 ∧ R 7 = u64 ∧ R 8 = .int .i64 x66 ∧ R 9 = .int .i64 y71 ∧ Rep (eSl eStr) A w u64 x62) fu ⟨_, _, _, uo_u3, q69, hA, hF, hAA, hO, h3, h7, h8, h9, f_u64⟩ ?_
 have hr0 := hr; clear hr q69
 rintro k R w ⟨A, y71, y72, ul_uo_u3, hr, hA, hF, hAA, hO, h3, h7, h8, h9, f_u64⟩
 rcases k with _ | k
 cases (show none = some _ from hr)
 rw [M_spec_BlockKeys_L2] at hr
 refine HT.seq ?_
 refine HT.seq ?_
 obtain ⟨x73, q74, hr⟩ := bd_some hr
 refine HT.u hA hF (eI y71 :: eR u64 :: eI (x62.length : Int) :: eB (decide (y71 < (x62.length : Int))) :: eB (decide (y71 < (x62.length : Int))) :: gI (true && ((decide (y71 < (x62.length : Int))) == true)) x66 :: gB (true && ((decide (y71 < (x62.length : Int))) == true)) (decide ((0 : Int) < x66)) :: eB x73 :: []) ?_ ?_
 exact Obls.m h9 <| Obls.m h7 <| Obls.p (fun R' w' hw hs hd => of_len_sl (aT := #[]) ((f_u64.fr hw).eq (hd.g 0 rfl)) Tryz.underlying46) <| Obls.p (fun R' w' hw hs hd => of_lss (hd.g 0 rfl) (hd.g 1 rfl)) <| Obls.v <| Obls.g 4 true (fun hg R' w' hw hs hd => of_move ((hs 8 rfl).trans h8)) <| Obls.g 4 true (fun hg R' w' hw hs hd => of_gtr (hd.h 0 hg rfl) rfl) <| Obls.p (fun R' w' hw hs hd => of_pick (decide (y71 < (x62.length : Int))) (hd.g 0 rfl) (fun hc => by have a1 : R' 65 = .bool (decide ((0 : Int) < x66)) := hd 1 _ _ _ rfl rfl rfl rfl (g_and rfl (beq_of hc)); show _ = Value.bool x73; rw [q74, hc]; exact a1) (fun hc => by show _ = Value.bool x73; rw [q74, hc]; exact rfl)) <| Obls.nil
 intro R w hw hs hF' hA hF
 obtain ⟨h3, h7, h8, h9⟩ := k4 hs h3 h7 h8 h9
 have h66 := hF'.r 7 rfl
 replace f_u64 := f_u64.fr hw
 replace hO := hO.fr hw
 refine HT.cond x73 h66 (fun c75 => ?_) (fun c75 => ?_)
 have hr := cnd_t c75 hr
 refine HT.skip ?_
 refine HT.seq ?_
 refine HT.block ?_
 obtain ⟨x76, q77, hr⟩ := cl_some hr
 obtain ⟨e78, hr⟩ := ck_some hr
 obtain ⟨e79, hr⟩ := ck_some hr
 obtain ⟨e80, hr⟩ := ck_some hr
 obtain ⟨e81, hr⟩ := ck_some hr
 obtain ⟨x82, q83, hr⟩ := cl_some hr
 refine HT.drawR [ob ul_uo_u3 (.vec w0.heap.size 9 eStr y72)] (rR ul_uo_u3 :: rI x66 :: (rF fun A => .rep eStr A x76) :: (rF fun A => .rep eStr A (([121] : List UInt8) ++ x76)) :: rR u64 :: rI y71 :: (rF fun A => .qtr eStr A (gtD x62 y71)) :: (rF fun A => .rep eStr A (gtD x62 y71)) :: (rF fun A => .rep eStr A (subL (gtD x62 y71) 0 (1 : Int))) :: (rF fun A => .rep eStr A ((([121] : List UInt8) ++ x76) ++ (subL (gtD x62 y71) 0 (1 : Int)))) :: ⟨_, true, [0], some (.vec w0.heap.size 9 eStr x82), true, fun A => .any⟩ :: ⟨_, true, [11], some (.vec w0.heap.size 9 eStr x82), true, fun A => .any⟩ :: []) (by kernel_rfl) (by kernel_rfl) (by kernel_rfl) (Wf.mk' (by kernel_rfl) (ur (ur (up (up (ur (ur (UAll.cons ust_qtr (up (up (up (ua (ua (UAll.nil))))))))))))) (by kernel_rfl) (by kernel_rfl)) hO hA ?_ ?_
 exact OblsR.m h3 <| OblsR.m h8 <| OblsR.p (fun A' R' w' ho hd => of_call Tryz.call88 (M_spec_FormatInt_ok (q77 rfl) ho.av (hd.g 0 rfl))) <| OblsR.p (fun A' R' w' ho hd => of_cat ⟨_, rfl, ⟨_, rfl, rfl, by decide⟩⟩ (hd.g 0 rfl) e78) <| OblsR.m h7 <| OblsR.m h9 <| OblsR.p (fun A' R' w' ho hd => of_indexAddr ((f_u64.stp ho.stp).eq (hd.g 0 rfl)) (hd.g 1 rfl) Tryz.underlying46 Tryz.sizeOf9 e79) <| OblsR.p (fun A' R' w' ho hd => (of_load (QRep.ptr (hd.g 0 rfl)) Tryz.isAgg9 Tryz.sizeOf9)) <| OblsR.p (fun A' R' w' ho hd => of_slice_str_hi (hd.g 0 rfl) rfl Tryz.underlying9  e80) <| OblsR.p (fun A' R' w' ho hd => of_cat (hd.g 0 rfl) (hd.g 1 rfl) e81) <| OblsR.cons (OblR.took 0 _ _ rfl rfl rfl rfl rfl fun A' R' w' ho hd u hok hav hin hop hds => by have a0 : R' 69 = ul_uo_u3 := hd.g 0 rfl; have a1 : Rep eStr A' w' (R' 78) ((([121] : List UInt8) ++ x76) ++ (subL (gtD x62 y71) 0 (1 : Int))) := hd.g 1 rfl; have hu0 : evalR R' (.tmp 69) = u := a0.trans (hin _ rfl).symm; exact took_callm Tryz.call109 hav (by simp only [List.map, hu0]; exact M_spec_l3Put_ok (q83 rfl) (ho.av.sub _) (fun b o h => h.2) (Nat.le_trans hF.size ho.ch.size) (Vec.flat hok (fun _ _ _ _ _ h => h)) (a1.less fun b o h => h.1) rfl)) <| OblsR.cons (OblR.took 11 _ _ rfl rfl rfl rfl rfl fun A' R' w' ho hd u hok hav hin hop hds => by exact took_assign (hop _ _ rfl rfl rfl rfl).symm hok hav) <| OblsR.nil
 intro done ρ σ A R w hdn hI
 obtain ⟨h7, h8, h9⟩ := k3 hI.rg h7 h8 h9
 obtain ⟨u84, e_u84⟩ : ∃ u, ρ 12 = u := ⟨_, rfl⟩
 have h3 : R 3 = u84 := (hI.opvR hdn 12 11 rfl rfl rfl rfl rfl).symm.trans e_u84
 replace f_u64 := f_u64.stp hI.stp
 replace hAA := hI.low' hAA hA0 (hO.ge (⟨rfl, trivial⟩))
 replace hF : Fr w0 w := hF.tr hI.ch (hO.ge (⟨rfl, trivial⟩))
 replace hO := hI.left hdn [(12, ob u84 (.vec w0.heap.size 9 eStr x82))] ⟨rfl, rfl, e_u84, rfl, rfl, trivial⟩
 replace hA := hI.avok
 clear hI
 obtain ⟨e85, hr⟩ := ck_some hr
 refine HT.u hA hF (eI y71 :: eI (y71 + (1 : Int)) :: eI (y71 + (1 : Int)) :: []) ?_ ?_
 exact Obls.m h9 <| Obls.p (fun R' w' hw hs hd => of_add (hd.g 0 rfl) rfl e85) <| Obls.a <| Obls.nil
 intro R w hw hs hF' hA hF
 obtain ⟨h3, h7, h8⟩ := k3 hs h3 h7 h8
 have h9 := hF'.r 2 rfl
 replace f_u64 := f_u64.fr hw
 replace hO := hO.fr hw
 exact Exists.intro k (And.intro (Nat.lt_succ_self k) ⟨_, _, _, u84, hr, hA, hF, hAA, hO, h3, h7, h8, h9, f_u64⟩)
 have hr := cnd_f c75 hr
 refine HT.exit ?_
 obtain rfl := Option.some.inj hr
 exact Exists.intro _ ⟨_, ul_uo_u3, rfl, hA, hF, hAA, hO, h3⟩
 rintro R w ⟨A, s70, uo_uo_u3, es, hA, hF, hAA, hO, h3⟩
 obtain rfl := es.symm
 refine HT.seq ?_
 refine HT.u hA hF (eR uo_uo_u3 :: eR uo_uo_u3 :: []) ?_ ?_
 exact Obls.m h3 <| Obls.a <| Obls.nil
 intro R w hw hs hF' hA hF
 have h2 := hF'.r 1 rfl
 replace hO := hO.fr hw
 refine HT.ret ?_
 obtain rfl := Option.some.inj hr
 exact ⟨.inr rfl, [R 2], ⟨rfl, trivial⟩, (own_post (hO.ok 0 _ rfl) hAA h2), hF⟩
theorem M_spec_BlockKeys_okR {fu : Nat} {A0 : Av} {p0 : T_impl_Record} {r : List (List UInt8)} (hr : M_spec_BlockKeys fu p0 = some r) {w : World} {v0 : Value} (hA : AvOK A0 w) (h0 : Rep E_impl_Record A0 w v0 p0) :
 Calls Tryz.prog 32 #[v0] w fun e w' => ∃ v, e = .returned v ∧ (Rep (eSl eStr) A0 w' v r ∧ Fr w w') := by
 refine Calls.mono (M_spec_BlockKeys_ok hr hA h0) ?_
 rintro e w' ⟨v, he, hv, hf⟩
 exact ⟨v, he, vec_rep hv (fun b o h => .inl h) hA, hf⟩
def M_impl_within (fu : Nat) (p0 : Int) (p1 : Int) (p2 : Int) : Option Bool :=
 bd ((decide (p1 ≤ p0)) && (decide (p0 ≤ p2))) fun x1 =>
 some x1
theorem M_impl_within_ok {fu : Nat} {A : Av} {p0 : Int} {p1 : Int} {p2 : Int} {r : Bool} (hr : M_impl_within fu p0 p1 p2 = some r) {w : World} {v0 : Value} {v1 : Value} {v2 : Value} (hA : AvOK A w) (h0 : v0 = .int .i64 p0) (h1 : v1 = .int .i64 p1) (h2 : v2 = .int .i64 p2) :
 Calls Tryz.prog 94 #[v0, v1, v2] w fun e w' => ∃ v, e = .returned v ∧ (v = .bool r ∧ Fr w w') := by
 unfold M_impl_within at hr
 obtain ⟨w0, hw0⟩ : ∃ w0, w0 = w := ⟨_, rfl⟩
 have hF : Fr w0 w := hw0 ▸ Fr.refl _
 rw [show Fr w = Fr w0 from hw0 ▸ rfl]
 clear hw0
 refine calls_of_HT2 [.tmp 6] Tryz.func94 Tryz.ntmps94 (by decide) rfl rfl (Nat.le_of_ble_eq_true rfl) ?_
 intro R hR
 replace h0 : R 0 = .int .i64 p0 := (hR 0 _ rfl).trans h0
 replace h1 : R 1 = .int .i64 p1 := (hR 1 _ rfl).trans h1
 replace h2 : R 2 = .int .i64 p2 := (hR 2 _ rfl).trans h2
 clear hR
 refine HT.seq ?_
 refine HT.u hA hF (eB false :: []) ?_ ?_
 exact Obls.p (fun R' w' hw hs hd => of_assign rfl) <| Obls.nil
 intro R w hw hs hF' hA hF
 obtain ⟨h0, h1, h2⟩ := k3 hs h0 h1 h2
 refine HT.seq ?_
 obtain ⟨x1, q2, hr⟩ := bd_some hr
 refine HT.u hA hF (eI p0 :: eI p1 :: eB (decide (p1 ≤ p0)) :: eB (decide (p1 ≤ p0)) :: gI (true && ((decide (p1 ≤ p0)) == true)) p0 :: gI (true && ((decide (p1 ≤ p0)) == true)) p2 :: gB (true && ((decide (p1 ≤ p0)) == true)) (decide (p0 ≤ p2)) :: eB x1 :: eB x1 :: []) ?_ ?_
 exact Obls.m h0 <| Obls.m h1 <| Obls.p (fun R' w' hw hs hd => of_geq (hd.g 0 rfl) (hd.g 1 rfl)) <| Obls.v <| Obls.g 3 true (fun hg R' w' hw hs hd => of_move ((hs 0 rfl).trans h0)) <| Obls.g 3 true (fun hg R' w' hw hs hd => of_move ((hs 2 rfl).trans h2)) <| Obls.g 3 true (fun hg R' w' hw hs hd => of_leq (hd.h 0 hg rfl) (hd.h 1 hg rfl)) <| Obls.p (fun R' w' hw hs hd => of_pick (decide (p1 ≤ p0)) (hd.g 0 rfl) (fun hc => by have a1 : R' 13 = .bool (decide (p0 ≤ p2)) := hd 1 _ _ _ rfl rfl rfl rfl (g_and rfl (beq_of hc)); show _ = Value.bool x1; rw [q2, hc]; exact a1) (fun hc => by show _ = Value.bool x1; rw [q2, hc]; exact rfl)) <| Obls.a <| Obls.nil
 intro R w hw hs hF' hA hF
 have h6 := hF'.r 8 rfl
 refine HT.ret ?_
 obtain rfl := Option.some.inj hr
 exact ⟨.inr rfl, [R 6], ⟨rfl, trivial⟩, h6, hF⟩
def M_slices_IndexFunc_string_string_L0 (fu : Nat) (p0 : List (List UInt8)) (p1 : (List UInt8) → Option Bool) : Nat → Int → Option (Ex Int Unit)
 | 0, _ => none
 | k + 1, y4 =>
 bif (decide (y4 < (p0.length : Int))) then (
 ck (inR y4 p0.length) <|
 cl true (p1 (gtD p0 y4)) fun x7 =>
 bif x7 then (
 some (Ex.ret y4)
 ) else (
 ck (i64B (y4 + 1)) <|
 M_slices_IndexFunc_string_string_L0 fu p0 p1 k (y4 + 1)
 )
 ) else (
 some (Ex.go ())
 )
def M_slices_IndexFunc_string_string (fu : Nat) (p0 : List (List UInt8)) (p1 : (List UInt8) → Option Bool) : Option Int :=
 cl true (M_slices_IndexFunc_string_string_L0 fu p0 p1 fu 0) fun rl1 =>
 exM rl1 (fun r => some r) fun s3 =>
 some (-1)
theorem M_slices_IndexFunc_string_string_ok {fu : Nat} {A : Av} {p0 : List (List UInt8)} {p1 : (List UInt8) → Option Bool} {r : Int} (hr : M_slices_IndexFunc_string_string fu p0 p1 = some r) {w : World} {v0 : Value} {v1 : Value} (hA : AvOK A w) (h0 : Rep (eSl eStr) A w v0 p0) (h1 : FnB1 Tryz.prog eStr (fun r => .raw (.bool r)) A w v1 p1) :
 Calls Tryz.prog 211 #[v0, v1] w fun e w' => ∃ v, e = .returned v ∧ (v = .int .i64 r ∧ Fr w w') := by
 unfold M_slices_IndexFunc_string_string at hr
 obtain ⟨w0, hw0⟩ : ∃ w0, w0 = w := ⟨_, rfl⟩
 have hF : Fr w0 w := hw0 ▸ Fr.refl _
 rw [show Fr w = Fr w0 from hw0 ▸ rfl]
 have f_v1 : FnB1 Tryz.prog eStr (fun r => .raw (.bool r)) A w0 v1 p1 := hw0 ▸ h1
 clear hw0
 refine calls_of_HT2 [.tmp 4] Tryz.func211 Tryz.ntmps211 (by decide) rfl rfl (Nat.le_of_ble_eq_true rfl) ?_
 intro R hR
 have f_v0 := h0
 replace h0 : R 0 = v0 := hR 0 _ rfl
 replace h1 : R 1 = v1 := hR 1 _ rfl
 clear hR
 refine HT.seq ?_
 refine HT.u hA hF (eI 0 :: []) ?_ ?_
 exact Obls.p (fun R' w' hw hs hd => of_assign rfl) <| Obls.nil
 intro R w hw hs hF' hA hF
 obtain ⟨h0, h1⟩ := k2 hs h0 h1
 replace f_v0 := f_v0.fr hw
 refine HT.seq ?_
 refine HT.seq ?_
 refine HT.u hA hF (eR v0 :: eI (p0.length : Int) :: eI 0 :: []) ?_ ?_
 exact Obls.m h0 <| Obls.p (fun R' w' hw hs hd => of_len_sl (aT := #[]) ((f_v0.fr hw).eq (hd.g 0 rfl)) Tryz.underlying46) <| Obls.p (fun R' w' hw hs hd => of_move rfl) <| Obls.nil
 intro R w hw hs hF' hA hF
 obtain ⟨h0, h1⟩ := k2 hs h0 h1
 have h7 := hF'.r 1 rfl
 have h8 := hF'.r 2 rfl
 replace f_v0 := f_v0.fr hw
 obtain ⟨rl1, q2, hr⟩ := cl_some hr
 replace q2 := q2 rfl
 refine HT.cut0 (fun R w => ∃ (s3 : Unit), rl1 = Ex.go s3 ∧ AvOK A w ∧ Fr w0 w) ?_ ?_
 refine HT.block ?_
 refine HT.loop (fun k R w => ∃ (y4 : Int), M_slices_IndexFunc_string_string_L0 fu p0 p1 k y4 = some rl1 ∧ AvOK A w ∧ Fr w0 w ∧ R 0 = v0 ∧ R 1 = v1 ∧ R 7 = .int .i64 (p0.length : Int) ∧ R 8 = .int .i64 y4 ∧ Rep (eSl eStr) A w v0 p0) fu ⟨_, q2, hA, hF, h0, h1, h7, h8, f_v0⟩ ?_
 have hr0 := hr; clear hr q2
 rintro k R w ⟨y4, hr, hA, hF, h0, h1, h7, h8, f_v0⟩
 rcases k with _ | k
 cases (show none = some _ from hr)
 rw [M_slices_IndexFunc_string_string_L0] at hr
 refine HT.seq ?_
 refine HT.u hA hF (eB (decide (y4 < (p0.length : Int))) :: []) ?_ ?_
 exact Obls.p (fun R' w' hw hs hd => of_lss ((hs 8 rfl).trans h8) ((hs 7 rfl).trans h7)) <| Obls.nil
 intro R w hw hs hF' hA hF
 obtain ⟨h0, h1, h7, h8⟩ := k4 hs h0 h1 h7 h8
 have h9 := hF'.r 0 rfl
 replace f_v0 := f_v0.fr hw
 refine HT.seq ?_
 refine HT.cond (decide (y4 < (p0.length : Int))) h9 (fun c5 => ?_) (fun c5 => ?_)
 have hr := cnd_t c5 hr
 refine HT.skip ?_
 refine HT.seq ?_
 refine HT.block ?_
 refine HT.seq ?_
 refine HT.u hA hF (eI y4 :: eI y4 :: []) ?_ ?_
 exact Obls.m h8 <| Obls.a <| Obls.nil
 intro R w hw hs hF' hA hF
 obtain ⟨h0, h1, h7, h8⟩ := k4 hs h0 h1 h7 h8
 have h5 := hF'.r 1 rfl
 replace f_v0 := f_v0.fr hw
 refine HT.seq ?_
 obtain ⟨e6, hr⟩ := ck_some hr
 obtain ⟨x7, q8, hr⟩ := cl_some hr
 refine HT.u hA hF (eR v1 :: eR v0 :: eI y4 :: eF (.qtr eStr A (gtD p0 y4)) :: eF (.rep eStr A (gtD p0 y4)) :: eB x7 :: []) ?_ ?_
 exact Obls.m h1 <| Obls.m h0 <| Obls.m h5 <| Obls.p (fun R' w' hw hs hd => of_indexAddr ((f_v0.fr hw).eq (hd.g 0 rfl)) (hd.g 1 rfl) Tryz.underlying46 Tryz.sizeOf9 e6) <| Obls.p (fun R' w' hw hs hd => (of_load (QRep.ptr (hd.g 0 rfl)) Tryz.isAgg9 Tryz.sizeOf9)) <| Obls.p (fun R' w' hw hs hd => of_callv (hd.g 0 rfl) (f_v1 _ _ (q8 rfl) _ _ ((hF.trans hw).ch _) (hA.fr hw.size) (hd.g 1 rfl))) <| Obls.nil
 intro R w hw hs hF' hA hF
 obtain ⟨h0, h1, h5, h7, h8⟩ := k5 hs h0 h1 h5 h7 h8
 have h16 := hF'.r 5 rfl
 replace f_v0 := f_v0.fr hw
 refine HT.cond x7 h16 (fun c9 => ?_) (fun c9 => ?_)
 have hr := cnd_t c9 hr
 refine HT.seq ?_
 refine HT.u hA hF (eI y4 :: eI y4 :: []) ?_ ?_
 exact Obls.m h5 <| Obls.a <| Obls.nil
 intro R w hw hs hF' hA hF
 have h4 := hF'.r 1 rfl
 refine HT.ret ?_
 obtain rfl := Option.some.inj hr
 have hr := hr0
 replace hr : some _ = some _ := hr
 obtain rfl := Option.some.inj hr
 exact ⟨.inr rfl, [R 4], ⟨rfl, trivial⟩, h4, hF⟩
 have hr := cnd_f c9 hr
 refine HT.skip ?_
 obtain ⟨e10, hr⟩ := ck_some hr
 refine HT.u hA hF (eI (y4 + (1 : Int)) :: eI (y4 + (1 : Int)) :: []) ?_ ?_
 exact Obls.p (fun R' w' hw hs hd => of_add ((hs 8 rfl).trans h8) rfl e10) <| Obls.v <| Obls.nil
 intro R w hw hs hF' hA hF
 obtain ⟨h0, h1, h7⟩ := k3 hs h0 h1 h7
 have h8 := hF'.r 1 rfl
 replace f_v0 := f_v0.fr hw
 exact Exists.intro k (And.intro (Nat.lt_succ_self k) ⟨_, hr, hA, hF, h0, h1, h7, h8, f_v0⟩)
 have hr := cnd_f c5 hr
 refine HT.exit ?_
 obtain rfl := Option.some.inj hr
 exact Exists.intro _ ⟨rfl, hA, hF⟩
 rintro R w ⟨s3, rfl, hA, hF⟩
 have hr := exM_go hr
 refine HT.seq ?_
 refine HT.u hA hF (eI (-1) :: []) ?_ ?_
 exact Obls.p (fun R' w' hw hs hd => of_assign rfl) <| Obls.nil
 intro R w hw hs hF' hA hF
 have h4 := hF'.r 0 rfl
 refine HT.ret ?_
 obtain rfl := Option.some.inj hr
 exact ⟨.inr rfl, [R 4], ⟨rfl, trivial⟩, h4, hF⟩
def M_slices_ContainsFunc_string_string (fu : Nat) (p0 : List (List UInt8)) (p1 : (List UInt8) → Option Bool) : Option Bool :=
 cl true (M_slices_IndexFunc_string_string fu p0 p1) fun x1 =>
 some (decide (0 ≤ x1))
theorem M_slices_ContainsFunc_string_string_ok {fu : Nat} {A : Av} {p0 : List (List UInt8)} {p1 : (List UInt8) → Option Bool} {r : Bool} (hr : M_slices_ContainsFunc_string_string fu p0 p1 = some r) {w : World} {v0 : Value} {v1 : Value} (hA : AvOK A w) (h0 : Rep (eSl eStr) A w v0 p0) (h1 : FnB1 Tryz.prog eStr (fun r => .raw (.bool r)) A w v1 p1) :
 Calls Tryz.prog 161 #[v0, v1] w fun e w' => ∃ v, e = .returned v ∧ (v = .bool r ∧ Fr w w') := by
 unfold M_slices_ContainsFunc_string_string at hr
 obtain ⟨w0, hw0⟩ : ∃ w0, w0 = w := ⟨_, rfl⟩
 have hF : Fr w0 w := hw0 ▸ Fr.refl _
 rw [show Fr w = Fr w0 from hw0 ▸ rfl]
 have f_v1 : FnB1 Tryz.prog eStr (fun r => .raw (.bool r)) A w0 v1 p1 := hw0 ▸ h1
 clear hw0
 refine calls_of_HT2 [.tmp 4] Tryz.func161 Tryz.ntmps161 (by decide) rfl rfl (Nat.le_of_ble_eq_true rfl) ?_
 intro R hR
 have f_v0 := h0
 replace h0 : R 0 = v0 := hR 0 _ rfl
 replace h1 : R 1 = v1 := hR 1 _ rfl
 clear hR
 refine HT.seq ?_
 refine HT.u hA hF (eB false :: []) ?_ ?_
 exact Obls.p (fun R' w' hw hs hd => of_assign rfl) <| Obls.nil
 intro R w hw hs hF' hA hF
 obtain ⟨h0, h1⟩ := k2 hs h0 h1
 replace f_v0 := f_v0.fr hw
 refine HT.seq ?_
 obtain ⟨x1, q2, hr⟩ := cl_some hr
 refine HT.u hA hF (eR v0 :: eR v1 :: eI x1 :: eB (decide ((0 : Int) ≤ x1)) :: eB (decide ((0 : Int) ≤ x1)) :: []) ?_ ?_
 exact Obls.m h0 <| Obls.m h1 <| Obls.p (fun R' w' hw hs hd => of_call Tryz.call211 (M_slices_IndexFunc_string_string_ok (q2 rfl) (hA.fr hw.size) ((f_v0.fr hw).eq (hd.g 0 rfl)) ((f_v1.on (hF.trans hw) (fun _ _ h => h)).eq (hd.g 1 rfl)))) <| Obls.p (fun R' w' hw hs hd => of_geq (hd.g 0 rfl) rfl) <| Obls.a <| Obls.nil
 intro R w hw hs hF' hA hF
 have h4 := hF'.r 4 rfl
 refine HT.ret ?_
 obtain rfl := Option.some.inj hr
 exact ⟨.inr rfl, [R 4], ⟨rfl, trivial⟩, h4, hF⟩
def M_impl_IsText_L0 (fu : Nat) (p0 : List UInt8) : Nat → Int → Option (Ex Bool Unit)
 | 0, _ => none
 | k + 1, y4 =>
 bif (decide (y4 < (p0.length : Int))) then (
 ck (inR y4 p0.length) <|
 cl true (M_impl_within fu (IntKind.i64.wrap (bAt p0 y4)) 32 126) fun x7 =>
 bif (!x7) then (
 some (Ex.ret false)
 ) else (
 ck (i64B (y4 + 1)) <|
 M_impl_IsText_L0 fu p0 k (y4 + 1)
 )
 ) else (
 some (Ex.go ())
 )
def M_impl_IsText (fu : Nat) (p0 : List UInt8) : Option Bool :=
 cl true (M_impl_IsText_L0 fu p0 fu 0) fun rl1 =>
 exM rl1 (fun r => some r) fun s3 =>
 some (decide ((p0.length : Int) ≤ 40))
theorem M_impl_IsText_ok {fu : Nat} {A : Av} {p0 : List UInt8} {r : Bool} (hr : M_impl_IsText fu p0 = some r) {w : World} {v0 : Value} (hA : AvOK A w) (h0 : Rep eStr A w v0 p0) :
 Calls Tryz.prog 212 #[v0] w fun e w' => ∃ v, e = .returned v ∧ (v = .bool r ∧ Fr w w') := by
 unfold M_impl_IsText at hr
 obtain ⟨w0, hw0⟩ : ∃ w0, w0 = w := ⟨_, rfl⟩
 have hF : Fr w0 w := hw0 ▸ Fr.refl _
 rw [show Fr w = Fr w0 from hw0 ▸ rfl]
 clear hw0
 refine calls_of_HT2 [.tmp 2] Tryz.func212 Tryz.ntmps212 (by decide) rfl rfl (Nat.le_of_ble_eq_true rfl) ?_
 intro R hR
 have f_v0 := h0
 replace h0 : R 0 = v0 := hR 0 _ rfl
 clear hR
 refine HT.seq ?_
 refine HT.u hA hF (eB false :: []) ?_ ?_
 exact Obls.p (fun R' w' hw hs hd => of_assign rfl) <| Obls.nil
 intro R w hw hs hF' hA hF
 replace h0 := k1 hs h0
 replace f_v0 := f_v0.fr hw
 refine HT.seq ?_
 refine HT.seq ?_
 refine HT.u hA hF (eR v0 :: eI (p0.length : Int) :: eI 0 :: []) ?_ ?_
 exact Obls.m h0 <| Obls.p (fun R' w' hw hs hd => of_len_str ((f_v0.fr hw).eq (hd.g 0 rfl)) Tryz.underlying9) <| Obls.p (fun R' w' hw hs hd => of_move rfl) <| Obls.nil
 intro R w hw hs hF' hA hF
 replace h0 := k1 hs h0
 have h5 := hF'.r 1 rfl
 have h6 := hF'.r 2 rfl
 replace f_v0 := f_v0.fr hw
 obtain ⟨rl1, q2, hr⟩ := cl_some hr
 replace q2 := q2 rfl
 refine HT.cut0 (fun R w => ∃ (s3 : Unit), rl1 = Ex.go s3 ∧ AvOK A w ∧ Fr w0 w ∧ R 0 = v0 ∧ Rep eStr A w v0 p0) ?_ ?_
 refine HT.block ?_
 refine HT.loop (fun k R w => ∃ (y4 : Int), M_impl_IsText_L0 fu p0 k y4 = some rl1 ∧ AvOK A w ∧ Fr w0 w ∧ R 0 = v0 ∧ R 5 = .int .i64 (p0.length : Int) ∧ R 6 = .int .i64 y4 ∧ Rep eStr A w v0 p0) fu ⟨_, q2, hA, hF, h0, h5, h6, f_v0⟩ ?_
 have hr0 := hr; clear hr q2
 rintro k R w ⟨y4, hr, hA, hF, h0, h5, h6, f_v0⟩
 rcases k with _ | k
 cases (show none = some _ from hr)
 rw [M_impl_IsText_L0] at hr
 refine HT.seq ?_
 refine HT.u hA hF (eB (decide (y4 < (p0.length : Int))) :: []) ?_ ?_
 exact Obls.p (fun R' w' hw hs hd => of_lss ((hs 6 rfl).trans h6) ((hs 5 rfl).trans h5)) <| Obls.nil
 intro R w hw hs hF' hA hF
 obtain ⟨h0, h5, h6⟩ := k3 hs h0 h5 h6
 have h7 := hF'.r 0 rfl
 replace f_v0 := f_v0.fr hw
 refine HT.seq ?_
 refine HT.cond (decide (y4 < (p0.length : Int))) h7 (fun c5 => ?_) (fun c5 => ?_)
 have hr := cnd_t c5 hr
 refine HT.skip ?_
 refine HT.seq ?_
 refine HT.block ?_
 refine HT.seq ?_
 refine HT.u hA hF (eI y4 :: eI y4 :: []) ?_ ?_
 exact Obls.m h6 <| Obls.a <| Obls.nil
 intro R w hw hs hF' hA hF
 obtain ⟨h0, h5, h6⟩ := k3 hs h0 h5 h6
 have h3 := hF'.r 1 rfl
 replace f_v0 := f_v0.fr hw
 refine HT.seq ?_
 obtain ⟨e6, hr⟩ := ck_some hr
 obtain ⟨x7, q8, hr⟩ := cl_some hr
 refine HT.u hA hF (eR v0 :: eI y4 :: eU (bAt p0 y4) :: eI (IntKind.i64.wrap (bAt p0 y4)) :: eB x7 :: eB (!x7) :: []) ?_ ?_
 exact Obls.m h0 <| Obls.m h3 <| Obls.p (fun R' w' hw hs hd => of_strIndex ((f_v0.fr hw).eq (hd.g 0 rfl)) (hd.g 1 rfl) Tryz.underlying9 e6) <| Obls.p (fun R' w' hw hs hd => of_conv_int (hd.g 0 rfl) Tryz.underlying5 Tryz.underlying3) <| Obls.p (fun R' w' hw hs hd => of_call Tryz.call94 (M_impl_within_ok (q8 rfl) (hA.fr hw.size) (hd.g 0 rfl) rfl rfl)) <| Obls.p (fun R' w' hw hs hd => of_not (hd.g 0 rfl)) <| Obls.nil
 intro R w hw hs hF' hA hF
 obtain ⟨h0, h5, h6⟩ := k3 hs h0 h5 h6
 have h14 := hF'.r 5 rfl
 replace f_v0 := f_v0.fr hw
 refine HT.cond (!x7) h14 (fun c9 => ?_) (fun c9 => ?_)
 have hr := cnd_t c9 hr
 refine HT.seq ?_
 refine HT.u hA hF (eB false :: []) ?_ ?_
 exact Obls.p (fun R' w' hw hs hd => of_assign rfl) <| Obls.nil
 intro R w hw hs hF' hA hF
 have h2 := hF'.r 0 rfl
 refine HT.ret ?_
 obtain rfl := Option.some.inj hr
 have hr := hr0
 replace hr : some _ = some _ := hr
 obtain rfl := Option.some.inj hr
 exact ⟨.inr rfl, [R 2], ⟨rfl, trivial⟩, h2, hF⟩
 have hr := cnd_f c9 hr
 refine HT.skip ?_
 obtain ⟨e10, hr⟩ := ck_some hr
 refine HT.u hA hF (eI (y4 + (1 : Int)) :: eI (y4 + (1 : Int)) :: []) ?_ ?_
 exact Obls.p (fun R' w' hw hs hd => of_add ((hs 6 rfl).trans h6) rfl e10) <| Obls.v <| Obls.nil
 intro R w hw hs hF' hA hF
 obtain ⟨h0, h5⟩ := k2 hs h0 h5
 have h6 := hF'.r 1 rfl
 replace f_v0 := f_v0.fr hw
 exact Exists.intro k (And.intro (Nat.lt_succ_self k) ⟨_, hr, hA, hF, h0, h5, h6, f_v0⟩)
 have hr := cnd_f c5 hr
 refine HT.exit ?_
 obtain rfl := Option.some.inj hr
 exact Exists.intro _ ⟨rfl, hA, hF, h0, f_v0⟩
 rintro R w ⟨s3, rfl, hA, hF, h0, f_v0⟩
 have hr := exM_go hr
 refine HT.seq ?_
 refine HT.u hA hF (eR v0 :: eI (p0.length : Int) :: eB (decide ((p0.length : Int) ≤ (40 : Int))) :: eB (decide ((p0.length : Int) ≤ (40 : Int))) :: []) ?_ ?_
 exact Obls.m h0 <| Obls.p (fun R' w' hw hs hd => of_len_str ((f_v0.fr hw).eq (hd.g 0 rfl)) Tryz.underlying9) <| Obls.p (fun R' w' hw hs hd => of_leq (hd.g 0 rfl) rfl) <| Obls.a <| Obls.nil
 intro R w hw hs hF' hA hF
 have h2 := hF'.r 3 rfl
 refine HT.ret ?_
 obtain rfl := Option.some.inj hr
 exact ⟨.inr rfl, [R 2], ⟨rfl, trivial⟩, h2, hF⟩
def M_impl_isField (fu : Nat) (p0 : List UInt8) : Option Bool :=
 cl true (M_impl_IsText fu p0) fun x1 =>
 cl (true && (x1 == true)) (M_containsAny fu p0 ([124, 59] : List UInt8)) fun x3 =>
 bd (x1 && (!x3)) fun x5 =>
 some x5
theorem M_impl_isField_ok {fu : Nat} {A : Av} {p0 : List UInt8} {r : Bool} (hr : M_impl_isField fu p0 = some r) {w : World} {v0 : Value} (hA : AvOK A w) (h0 : Rep eStr A w v0 p0) :
 Calls Tryz.prog 163 #[v0] w fun e w' => ∃ v, e = .returned v ∧ (v = .bool r ∧ Fr w w') := by
 unfold M_impl_isField at hr
 obtain ⟨w0, hw0⟩ : ∃ w0, w0 = w := ⟨_, rfl⟩
 have hF : Fr w0 w := hw0 ▸ Fr.refl _
 rw [show Fr w = Fr w0 from hw0 ▸ rfl]
 clear hw0
 refine calls_of_HT2 [.tmp 2] Tryz.func163 Tryz.ntmps163 (by decide) rfl rfl (Nat.le_of_ble_eq_true rfl) ?_
 intro R hR
 have f_v0 := h0
 replace h0 : R 0 = v0 := hR 0 _ rfl
 clear hR
 refine HT.seq ?_
 refine HT.u hA hF (eB false :: []) ?_ ?_
 exact Obls.p (fun R' w' hw hs hd => of_assign rfl) <| Obls.nil
 intro R w hw hs hF' hA hF
 replace h0 := k1 hs h0
 replace f_v0 := f_v0.fr hw
 refine HT.seq ?_
 obtain ⟨x1, q2, hr⟩ := cl_some hr
 obtain ⟨x3, q4, hr⟩ := cl_some hr
 obtain ⟨x5, q6, hr⟩ := bd_some hr
 refine HT.u hA hF (eR v0 :: eB x1 :: eB x1 :: gR (true && (x1 == true)) v0 :: gB (true && (x1 == true)) x3 :: gB (true && (x1 == true)) (!x3) :: eB x5 :: eB x5 :: []) ?_ ?_
 exact Obls.m h0 <| Obls.p (fun R' w' hw hs hd => of_call Tryz.call212 (M_impl_IsText_ok (q2 rfl) (hA.fr hw.size) ((f_v0.fr hw).eq (hd.g 0 rfl)))) <| Obls.v <| Obls.g 2 true (fun hg R' w' hw hs hd => of_move ((hs 0 rfl).trans h0)) <| Obls.g 2 true (fun hg R' w' hw hs hd => of_call Tryz.call213 (M_containsAny_ok (q4 hg) (hA.fr hw.size) ((f_v0.fr hw).eq (hd.h 0 hg rfl)) ⟨_, rfl, ⟨_, rfl, rfl, by decide⟩⟩)) <| Obls.g 2 true (fun hg R' w' hw hs hd => of_not (hd.h 0 hg rfl)) <| Obls.p (fun R' w' hw hs hd => of_pick x1 (hd.g 0 rfl) (fun hc => by have a1 : R' 8 = .bool (!x3) := hd 1 _ _ _ rfl rfl rfl rfl (g_and rfl (beq_of hc)); show _ = Value.bool x5; rw [q6, hc]; exact a1) (fun hc => by show _ = Value.bool x5; rw [q6, hc]; exact rfl)) <| Obls.a <| Obls.nil
 intro R w hw hs hF' hA hF
 have h2 := hF'.r 7 rfl
 refine HT.ret ?_
 obtain rfl := Option.some.inj hr
 exact ⟨.inr rfl, [R 2], ⟨rfl, trivial⟩, h2, hF⟩
def M_impl_IsValidRecord_1 (fu : Nat) (p0 : List UInt8) : Option Bool :=
 cl true (M_impl_isField fu p0) fun x1 =>
 some (!x1)
theorem M_impl_IsValidRecord_1_ok {fu : Nat} {A : Av} {p0 : List UInt8} {r : Bool} (hr : M_impl_IsValidRecord_1 fu p0 = some r) {w : World} {v0 : Value} (hA : AvOK A w) (h0 : Rep eStr A w v0 p0) :
 Calls Tryz.prog 162 #[v0] w fun e w' => ∃ v, e = .returned v ∧ (v = .bool r ∧ Fr w w') := by
 unfold M_impl_IsValidRecord_1 at hr
 obtain ⟨w0, hw0⟩ : ∃ w0, w0 = w := ⟨_, rfl⟩
 have hF : Fr w0 w := hw0 ▸ Fr.refl _
 rw [show Fr w = Fr w0 from hw0 ▸ rfl]
 clear hw0
 refine calls_of_HT2 [.tmp 2] Tryz.func162 Tryz.ntmps162 (by decide) rfl rfl (Nat.le_of_ble_eq_true rfl) ?_
 intro R hR
 have f_v0 := h0
 replace h0 : R 0 = v0 := hR 0 _ rfl
 clear hR
 refine HT.seq ?_
 refine HT.u hA hF (eB false :: []) ?_ ?_
 exact Obls.p (fun R' w' hw hs hd => of_assign rfl) <| Obls.nil
 intro R w hw hs hF' hA hF
 replace h0 := k1 hs h0
 replace f_v0 := f_v0.fr hw
 refine HT.seq ?_
 obtain ⟨x1, q2, hr⟩ := cl_some hr
 refine HT.u hA hF (eR v0 :: eB x1 :: eB (!x1) :: eB (!x1) :: []) ?_ ?_
 exact Obls.m h0 <| Obls.p (fun R' w' hw hs hd => of_call Tryz.call163 (M_impl_isField_ok (q2 rfl) (hA.fr hw.size) ((f_v0.fr hw).eq (hd.g 0 rfl)))) <| Obls.p (fun R' w' hw hs hd => of_not (hd.g 0 rfl)) <| Obls.a <| Obls.nil
 intro R w hw hs hF' hA hF
 have h2 := hF'.r 3 rfl
 refine HT.ret ?_
 obtain rfl := Option.some.inj hr
 exact ⟨.inr rfl, [R 2], ⟨rfl, trivial⟩, h2, hF⟩
def M_impl_IsValidRecord (fu : Nat) (p0 : T_impl_Record) : Option Bool :=
 cl true (M_impl_within fu p0.1 0 3) fun x2 =>
 cl (true && ((!x2) == false)) (M_impl_within fu p0.2.1 1 99) fun x4 =>
 bd ((!x2) || (!x4)) fun x6 =>
 cl (true && (x6 == false)) (M_impl_within fu p0.2.2.1 1 999) fun x8 =>
 bd (x6 || (!x8)) fun x10 =>
 bif x10 then (
 some false
 ) else (
 cl (true && (((p0.2.2.2.length : Int) == 4) == true)) (M_slices_ContainsFunc_string_string fu p0.2.2.2 (fun x => M_impl_IsValidRecord_1 fu x)) fun x13 =>
 bd (((p0.2.2.2.length : Int) == 4) && (!x13)) fun x15 =>
 some x15
 )
theorem M_impl_IsValidRecord_ok {fu : Nat} {A0 : Av} {p0 : T_impl_Record} {r : Bool} (hr : M_impl_IsValidRecord fu p0 = some r) {w : World} {v0 : Value} (hA : AvOK A0 w) (h0 : Rep E_impl_Record A0 w v0 p0) :
 Calls Tryz.prog 113 #[v0] w fun e w' => ∃ v, e = .returned v ∧ (v = .bool r ∧ Fr w w') := by
 unfold M_impl_IsValidRecord at hr
 obtain ⟨w0, hw0⟩ : ∃ w0, w0 = w := ⟨_, rfl⟩
 have hF : Fr w0 w := hw0 ▸ Fr.refl _
 have hA0 : ∀ b o, A0 b o → b < w0.heap.size := fun b o h => hw0 ▸ hA b o h
 have hA00 : AvOK A0 w0 := hA0
 rw [show Fr w = Fr w0 from hw0 ▸ rfl]
 clear hw0
 obtain ⟨A, hAe⟩ : ∃ A, A = A0 := ⟨_, rfl⟩
 have hAA : ∀ b o, A0 b o → A b o := fun b o h => hAe ▸ h
 replace hA : AvOK A w := hAe ▸ hA
 have hO : IniOK [] A w := IniOK.nil
 refine calls_of_HT2 [.tmp 2] Tryz.func113 Tryz.ntmps113 (by decide) rfl rfl (Nat.le_of_ble_eq_true rfl) ?_
 intro R hR
 have f_v0 : Rep E_impl_Record A w v0 p0 := hAe ▸ h0
 replace h0 : R 0 = v0 := hR 0 _ rfl
 clear hR hAe
 refine HT.seq ?_
 refine HT.textR [] (⟨_, true, [], some (.box w0.heap.size 51 E_impl_Record p0), true, fun A => .any⟩ :: rB false :: []) (by kernel_rfl) (by kernel_rfl) (Wf.mk' (by kernel_rfl) (ua (ur (UAll.nil))) (by kernel_rfl) (by kernel_rfl)) hO hA ?_ ?_
 exact OblsR.cons (OblR.made _ rfl rfl rfl rfl fun A' R' w' ho hd => by have a0 : R' 0 = v0 := (ho.old 0 rfl).trans h0; have ra0 := (f_v0.stp ho.stp).eq a0; exact made_box ra0 (Nat.le_trans hF.size ho.ch.size)) <| OblsR.p (fun A' R' w' ho hd => of_assign rfl) <| OblsR.nil
 intro done ρ σ A R w hdn hI
 obtain ⟨b1_0, e_b1_0⟩ := hI.boxv hdn 0 rfl rfl
 have h1 : R 1 = (.pointer (some ⟨b1_0, 0, none⟩)) := (hI.opvR hdn 0 0 rfl rfl rfl rfl rfl).symm.trans e_b1_0
 replace hAA := hI.low' hAA hA0 (hO.ge (trivial))
 replace hF : Fr w0 w := hF.tr hI.ch (hO.ge (trivial))
 replace hO := hI.left hdn [(0, ob (.pointer (some ⟨b1_0, 0, none⟩)) (.box w0.heap.size 51 E_impl_Record p0))] ⟨rfl, rfl, e_b1_0, rfl, rfl, trivial⟩
 replace hA := hI.avok
 clear hI
 refine HT.seq ?_
 refine HT.seq ?_
 obtain ⟨x2, q3, hr⟩ := cl_some hr
 obtain ⟨x4, q5, hr⟩ := cl_some hr
 obtain ⟨x6, q7, hr⟩ := bd_some hr
 obtain ⟨x8, q9, hr⟩ := cl_some hr
 obtain ⟨x10, q11, hr⟩ := bd_some hr
 refine HT.u hA hF (eR (.pointer (some ⟨b1_0, 0, none⟩)) :: eI p0.1 :: eB x2 :: eB (!x2) :: eB (!x2) :: gR (true && ((!x2) == false)) (.pointer (some ⟨b1_0, 1, none⟩)) :: gI (true && ((!x2) == false)) p0.2.1 :: gB (true && ((!x2) == false)) x4 :: gB (true && ((!x2) == false)) (!x4) :: eB x6 :: eB x6 :: gR (true && (x6 == false)) (.pointer (some ⟨b1_0, 2, none⟩)) :: gI (true && (x6 == false)) p0.2.2.1 :: gB (true && (x6 == false)) x8 :: gB (true && (x6 == false)) (!x8) :: eB x10 :: []) ?_ ?_
 exact Obls.p (fun R' w' hw hs hd => of_fieldAddr_raw ((hs 1 rfl).trans h1) ff_51_0 Tryz.sizeOf3 (by decide) rfl) <| Obls.p (fun R' w' hw hs hd => OpF.int (of_load_box ((hO.fr hw).ok 0 _ rfl).1 (hd.g 0 rfl) fl_impl_Record_0 rfl Tryz.isAgg3 Tryz.sizeOf3)) <| Obls.p (fun R' w' hw hs hd => of_call Tryz.call94 (M_impl_within_ok (q3 rfl) (hA.fr hw.size) (hd.g 0 rfl) rfl rfl)) <| Obls.p (fun R' w' hw hs hd => of_not (hd.g 0 rfl)) <| Obls.v <| Obls.g 4 false (fun hg R' w' hw hs hd => of_fieldAddr_raw ((hs 1 rfl).trans h1) ff_51_1 Tryz.sizeOf3 (by decide) rfl) <| Obls.g 4 false (fun hg R' w' hw hs hd => OpF.int (of_load_box ((hO.fr hw).ok 0 _ rfl).1 (hd.h 0 hg rfl) fl_impl_Record_1 rfl Tryz.isAgg3 Tryz.sizeOf3)) <| Obls.g 4 false (fun hg R' w' hw hs hd => of_call Tryz.call94 (M_impl_within_ok (q5 hg) (hA.fr hw.size) (hd.h 0 hg rfl) rfl rfl)) <| Obls.g 4 false (fun hg R' w' hw hs hd => of_not (hd.h 0 hg rfl)) <| Obls.p (fun R' w' hw hs hd => of_pick (!x2) (hd.g 0 rfl) (fun hc => by show _ = Value.bool x6; rw [q7, hc]; exact rfl) (fun hc => by have a2 : R' 11 = .bool (!x4) := hd 1 _ _ _ rfl rfl rfl rfl (g_and rfl (beq_of hc)); show _ = Value.bool x6; rw [q7, hc]; exact a2)) <| Obls.v <| Obls.g 10 false (fun hg R' w' hw hs hd => of_fieldAddr_raw ((hs 1 rfl).trans h1) ff_51_2 Tryz.sizeOf3 (by decide) rfl) <| Obls.g 10 false (fun hg R' w' hw hs hd => OpF.int (of_load_box ((hO.fr hw).ok 0 _ rfl).1 (hd.h 0 hg rfl) fl_impl_Record_2 rfl Tryz.isAgg3 Tryz.sizeOf3)) <| Obls.g 10 false (fun hg R' w' hw hs hd => of_call Tryz.call94 (M_impl_within_ok (q9 hg) (hA.fr hw.size) (hd.h 0 hg rfl) rfl rfl)) <| Obls.g 10 false (fun hg R' w' hw hs hd => of_not (hd.h 0 hg rfl)) <| Obls.p (fun R' w' hw hs hd => of_pick x6 (hd.g 0 rfl) (fun hc => by show _ = Value.bool x10; rw [q11, hc]; exact rfl) (fun hc => by have a2 : R' 17 = .bool (!x8) := hd 1 _ _ _ rfl rfl rfl rfl (g_and rfl (beq_of hc)); show _ = Value.bool x10; rw [q11, hc]; exact a2)) <| Obls.nil
 intro R w hw hs hF' hA hF
 replace h1 := k1 hs h1
 have h18 := hF'.r 15 rfl
 replace hO := hO.fr hw
 refine HT.cond x10 h18 (fun c12 => ?_) (fun c12 => ?_)
 have hr := cnd_t c12 hr
 refine HT.seq ?_
 refine HT.u hA hF (eB false :: []) ?_ ?_
 exact Obls.p (fun R' w' hw hs hd => of_assign rfl) <| Obls.nil
 intro R w hw hs hF' hA hF
 have h2 := hF'.r 0 rfl
 replace hO := hO.fr hw
 replace hO : IniOK [] A w := hO.sub [] trivial
 refine HT.ret ?_
 obtain rfl := Option.some.inj hr
 exact ⟨.inr rfl, [R 2], ⟨rfl, trivial⟩, h2, hF⟩
 have hr := cnd_f c12 hr
 refine HT.skip ?_
 refine HT.seq ?_
 obtain ⟨x13, q14, hr⟩ := cl_some hr
 obtain ⟨x15, q16, hr⟩ := bd_some hr
 refine HT.u hA hF (eR (.pointer (some ⟨b1_0, 3, none⟩)) :: eF (.rep (eSl eStr) A p0.2.2.2) :: eI (p0.2.2.2.length : Int) :: eB ((p0.2.2.2.length : Int) == (4 : Int)) :: eB ((p0.2.2.2.length : Int) == (4 : Int)) :: gR (true && (((p0.2.2.2.length : Int) == (4 : Int)) == true)) (.pointer (some ⟨b1_0, 3, none⟩)) :: gF (true && (((p0.2.2.2.length : Int) == (4 : Int)) == true)) (.rep (eSl eStr) A p0.2.2.2) :: gB (true && (((p0.2.2.2.length : Int) == (4 : Int)) == true)) x13 :: gB (true && (((p0.2.2.2.length : Int) == (4 : Int)) == true)) (!x13) :: eB x15 :: eB x15 :: []) ?_ ?_
 exact Obls.p (fun R' w' hw hs hd => of_fieldAddr_raw ((hs 1 rfl).trans h1) ff_51_3 Tryz.sizeOf46 (by decide) rfl) <| Obls.p (fun R' w' hw hs hd => (of_load_box ((hO.fr hw).ok 0 _ rfl).1 (hd.g 0 rfl) fl_impl_Record_3 rfl Tryz.isAgg46 Tryz.sizeOf46)) <| Obls.p (fun R' w' hw hs hd => of_len_sl (aT := #[]) (hd.g 0 rfl) Tryz.underlying46) <| Obls.p (fun R' w' hw hs hd => of_eql (hd.g 0 rfl) rfl) <| Obls.v <| Obls.g 4 true (fun hg R' w' hw hs hd => of_fieldAddr_raw ((hs 1 rfl).trans h1) ff_51_3 Tryz.sizeOf46 (by decide) rfl) <| Obls.g 4 true (fun hg R' w' hw hs hd => (of_load_box ((hO.fr hw).ok 0 _ rfl).1 (hd.h 0 hg rfl) fl_impl_Record_3 rfl Tryz.isAgg46 Tryz.sizeOf46)) <| Obls.g 4 true (fun hg R' w' hw hs hd => of_call Tryz.call161 (M_slices_ContainsFunc_string_string_ok (q14 hg) (hA.fr hw.size) (hd.h 0 hg rfl) (fnb1_of [] rfl Tryz.call162 (fun x r hr' w'' a hF' hA' ha => M_impl_IsValidRecord_1_ok hr' hA' ha)))) <| Obls.g 4 true (fun hg R' w' hw hs hd => of_not (hd.h 0 hg rfl)) <| Obls.p (fun R' w' hw hs hd => of_pick ((p0.2.2.2.length : Int) == (4 : Int)) (hd.g 0 rfl) (fun hc => by have a1 : R' 27 = .bool (!x13) := hd 1 _ _ _ rfl rfl rfl rfl (g_and rfl (beq_of hc)); show _ = Value.bool x15; rw [q16, hc]; exact a1) (fun hc => by show _ = Value.bool x15; rw [q16, hc]; exact rfl)) <| Obls.a <| Obls.nil
 intro R w hw hs hF' hA hF
 have h2 := hF'.r 10 rfl
 replace hO := hO.fr hw
 replace hO : IniOK [] A w := hO.sub [] trivial
 refine HT.ret ?_
 obtain rfl := Option.some.inj hr
 exact ⟨.inr rfl, [R 2], ⟨rfl, trivial⟩, h2, hF⟩
def M_impl_mapped_L0 (fu : Nat) (p0 : List UInt8) (p1 : Int → Option Int) : Nat → Int → (List Int) → Option (List Int)
 | 0, _, _ => none
 | k + 1, y6, y7 =>
 bif (decide (y6 < ((bytL p0).length : Int))) then (
 ck (inR y6 y7.length) <|
 cl true (p1 (gtD y7 y6)) fun x10 =>
 ck (inR y6 y7.length) <|
 ck (i64B (y6 + 1)) <|
 M_impl_mapped_L0 fu p0 p1 k (y6 + 1) (y7.set y6.toNat x10)
 ) else (
 some y7
 )
def M_impl_mapped (fu : Nat) (p0 : List UInt8) (p1 : Int → Option Int) : Option (List UInt8) :=
 ck (lenOK p0.length) <|
 cl true (M_impl_mapped_L0 fu p0 p1 fu 0 (bytL p0)) fun s5 =>
 some (strB s5)
theorem M_impl_mapped_ok {fu : Nat} {A0 : Av} {p0 : List UInt8} {p1 : Int → Option Int} {r : List UInt8} (hr : M_impl_mapped fu p0 p1 = some r) {w : World} {v0 : Value} {v1 : Value} (hA : AvOK A0 w) (h0 : Rep eStr A0 w v0 p0) (h1 : FnB1 Tryz.prog (eInt .u8) (fun r => .raw (.int .u8 r)) A0 w v1 p1) :
 Calls Tryz.prog 286 #[v0, v1] w fun e w' => ∃ v, e = .returned v ∧ (Rep eStr A0 w' v r ∧ Fr w w') := by
 unfold M_impl_mapped at hr
 obtain ⟨w0, hw0⟩ : ∃ w0, w0 = w := ⟨_, rfl⟩
 have hF : Fr w0 w := hw0 ▸ Fr.refl _
 have hA0 : ∀ b o, A0 b o → b < w0.heap.size := fun b o h => hw0 ▸ hA b o h
 have hA00 : AvOK A0 w0 := hA0
 rw [show Fr w = Fr w0 from hw0 ▸ rfl]
 have f_v1 : FnB1 Tryz.prog (eInt .u8) (fun r => .raw (.int .u8 r)) A0 w0 v1 p1 := hw0 ▸ h1
 clear hw0
 obtain ⟨A, hAe⟩ : ∃ A, A = A0 := ⟨_, rfl⟩
 have hAA : ∀ b o, A0 b o → A b o := fun b o h => hAe ▸ h
 replace hA : AvOK A w := hAe ▸ hA
 have hO : IniOK [] A w := IniOK.nil
 refine calls_of_HT2 [.tmp 4] Tryz.func286 Tryz.ntmps286 (by decide) rfl rfl (Nat.le_of_ble_eq_true rfl) ?_
 intro R hR
 have f_v0 : Rep eStr A w v0 p0 := hAe ▸ h0
 replace h0 : R 0 = v0 := hR 0 _ rfl
 replace h1 : R 1 = v1 := hR 1 _ rfl
 clear hR hAe
 refine HT.seq ?_
 refine HT.u hA hF (eF (.rep eStr A ([] : List UInt8)) :: []) ?_ ?_
 exact Obls.p (fun R' w' hw hs hd => of_assign ⟨_, rfl, ⟨_, rfl, rfl, by decide⟩⟩) <| Obls.nil
 intro R w hw hs hF' hA hF
 obtain ⟨h0, h1⟩ := k2 hs h0 h1
 replace f_v0 := f_v0.fr hw
 replace hO := hO.fr hw
 refine HT.seq ?_
 obtain ⟨e1, hr⟩ := ck_some hr
 refine HT.textR [] (rR v0 :: ⟨_, true, [], some (.vec w0.heap.size 5 (eInt .u8) (bytL p0)), true, fun A => .any⟩ :: ⟨_, true, [1], some (.vec w0.heap.size 5 (eInt .u8) (bytL p0)), true, fun A => .any⟩ :: []) (by kernel_rfl) (by kernel_rfl) (Wf.mk' (by kernel_rfl) (ur (ua (ua (UAll.nil)))) (by kernel_rfl) (by kernel_rfl)) hO hA ?_ ?_
 exact OblsR.m h0 <| OblsR.cons (OblR.made _ rfl rfl rfl rfl fun A' R' w' ho hd => by have a0 : R' 8 = v0 := hd.g 0 rfl; have ra0 := (f_v0.stp ho.stp).eq a0; exact made_bytes ra0 Tryz.underlying9 Tryz.underlying22 Tryz.underlying5 rfl e1 (Nat.le_trans hF.size ho.ch.size)) <| OblsR.cons (OblR.took 1 _ _ rfl rfl rfl rfl rfl fun A' R' w' ho hd u hok hav hin hop hds => by exact took_assign (hop _ _ rfl rfl rfl rfl).symm hok hav) <| OblsR.nil
 intro done ρ σ A R w hdn hI
 replace h1 := k1 hI.rg h1
 obtain ⟨u2, e_u2⟩ : ∃ u, ρ 2 = u := ⟨_, rfl⟩
 have h5 : R 5 = u2 := (hI.opvR hdn 2 2 rfl rfl rfl rfl rfl).symm.trans e_u2
 replace hAA := hI.low' hAA hA0 (hO.ge (trivial))
 replace hF : Fr w0 w := hF.tr hI.ch (hO.ge (trivial))
 replace hO := hI.left hdn [(2, ob u2 (.vec w0.heap.size 5 (eInt .u8) (bytL p0)))] ⟨rfl, rfl, e_u2, rfl, rfl, trivial⟩
 replace hA := hI.avok
 clear hI
 refine HT.seq ?_
 refine HT.seq ?_
 refine HT.u hA hF (eR u2 :: eI ((bytL p0).length : Int) :: eI 0 :: []) ?_ ?_
 exact Obls.m h5 <| Obls.p (fun R' w' hw hs hd => of_len_vec (hO.ok 0 _ rfl).1 (hd.g 0 rfl) Tryz.underlying22) <| Obls.p (fun R' w' hw hs hd => of_move rfl) <| Obls.nil
 intro R w hw hs hF' hA hF
 obtain ⟨h1, h5⟩ := k2 hs h1 h5
 have h10 := hF'.r 0 rfl
 have h11 := hF'.r 1 rfl
 have h12 := hF'.r 2 rfl
 replace hO := hO.fr hw
 obtain ⟨rl3, q4, hr⟩ := cl_some hr
 replace q4 := q4 rfl
 refine HT.cut0 (fun R w => ∃ A : Av, ∃ (s5 : (List Int)), rl3 = s5 ∧ AvOK A w ∧ Fr w0 w ∧ (∀ b o, A0 b o → A b o) ∧ IniOK [ob u2 (.vec w0.heap.size 5 (eInt .u8) s5)] A w ∧ R 5 = u2) ?_ ?_
 refine HT.block ?_
 refine HT.loop (fun k R w => ∃ A : Av, ∃ (y6 : Int) (y7 : List Int), M_impl_mapped_L0 fu p0 p1 k y6 y7 = some rl3 ∧ AvOK A w ∧ Fr w0 w ∧ (∀ b o, A0 b o → A b o) ∧ IniOK [ob u2 (.vec w0.heap.size 5 (eInt .u8) y7)] A w ∧ R 1 = v1 ∧ R 5 = u2 ∧ R 10 = u2 ∧ R 11 = .int .i64 ((bytL p0).length : Int) ∧ R 12 = .int .i64 y6) fu ⟨_, _, _, q4, hA, hF, hAA, hO, h1, h5, h10, h11, h12⟩ ?_
 have hr0 := hr; clear hr q4
 rintro k R w ⟨A, y6, y7, hr, hA, hF, hAA, hO, h1, h5, h10, h11, h12⟩
 rcases k with _ | k
 cases (show none = some _ from hr)
 rw [M_impl_mapped_L0] at hr
 refine HT.seq ?_
 refine HT.u hA hF (eB (decide (y6 < ((bytL p0).length : Int))) :: []) ?_ ?_
 exact Obls.p (fun R' w' hw hs hd => of_lss ((hs 12 rfl).trans h12) ((hs 11 rfl).trans h11)) <| Obls.nil
 intro R w hw hs hF' hA hF
 obtain ⟨h1, h5, h10, h11, h12⟩ := k5 hs h1 h5 h10 h11 h12
 have h13 := hF'.r 0 rfl
 replace hO := hO.fr hw
 refine HT.seq ?_
 refine HT.cond (decide (y6 < ((bytL p0).length : Int))) h13 (fun c8 => ?_) (fun c8 => ?_)
 have hr := cnd_t c8 hr
 refine HT.skip ?_
 refine HT.seq ?_
 refine HT.block ?_
 refine HT.seq ?_
 obtain ⟨e9, hr⟩ := ck_some hr
 refine HT.u hA hF (eI y6 :: eR (vptr u2 (y6.toNat * 1)) :: eU (gtD y7 y6) :: eI y6 :: eU (gtD y7 y6) :: []) ?_ ?_
 exact Obls.m h12 <| Obls.p (fun R' w' hw hs hd => of_indexAddr_vec (hO.ok 0 _ rfl).1 ((hs 10 rfl).trans h10) ((hs 12 rfl).trans h12) Tryz.underlying22 Tryz.sizeOf5 e9 rfl) <| Obls.p (fun R' w' hw hs hd => OpF.int (of_load_vec ((hO.fr hw).ok 0 _ rfl).1 (hd.g 0 rfl) e9 rfl (Fld.id _) rfl Tryz.isAgg5 Tryz.sizeOf5)) <| Obls.a <| Obls.a <| Obls.nil
 intro R w hw hs hF' hA hF
 obtain ⟨h1, h5, h10, h11, h12⟩ := k5 hs h1 h5 h10 h11 h12
 have h6 := hF'.r 3 rfl
 have h7 := hF'.r 4 rfl
 replace hO := hO.fr hw
 obtain ⟨x10, q11, hr⟩ := cl_some hr
 obtain ⟨e12, hr⟩ := ck_some hr
 refine HT.textR [ob u2 (.vec w0.heap.size 5 (eInt .u8) y7)] (rR u2 :: rI y6 :: rR v1 :: rU (gtD y7 y6) :: rU x10 :: rR (vptr u2 (y6.toNat * 1)) :: ⟨_, true, [0], some (.vec w0.heap.size 5 (eInt .u8) (y7.set y6.toNat x10)), false, fun A => .any⟩ :: []) (by kernel_rfl) (by kernel_rfl) (Wf.mk' (by kernel_rfl) (ur (ur (ur (ur (ur (ur (ua (UAll.nil)))))))) (by kernel_rfl) (by kernel_rfl)) hO hA ?_ ?_
 exact OblsR.m h5 <| OblsR.m h6 <| OblsR.m h1 <| OblsR.m h7 <| OblsR.p (fun A' R' w' ho hd => of_callv (hd.g 0 rfl) (f_v1 _ _ (q11 rfl) _ _ ((hF.tr ho.ch (hO.ge (⟨rfl, trivial⟩))).ch _) (hA00.fr (Nat.le_trans hF.size ho.ch.size)) ((rep_int.eq (hd.g 1 rfl)).less (ho.low' hAA hA0 (hO.ge (⟨rfl, trivial⟩)))))) <| OblsR.p (fun A' R' w' ho hd => of_indexAddr_vec (hO.ok 0 _ rfl).1 (hd.g 0 rfl) (hd.g 1 rfl) Tryz.underlying22 Tryz.sizeOf5 e12 rfl) <| OblsR.cons (OblR.took 0 _ _ rfl rfl rfl rfl rfl fun A' R' w' ho hd u hok hav hin hop hds => by have a0 : R' 22 = (vptr u2 (y6.toNat * 1)) := hd.g 0 rfl; have a1 : R' 21 = .int .u8 x10 := hd.g 1 rfl; obtain rfl := hin _ rfl; exact took_vstore (rep_int.eq a1) hok hav a0 e12 rfl (FldS.id _) Tryz.sizeOf5 rfl) <| OblsR.nil
 intro done ρ σ A R w hdn hI
 obtain ⟨h1, h5, h10, h11, h12⟩ := k5 hI.rg h1 h5 h10 h11 h12
 have z13 := hI.inivR 0 rfl
 have z14 := (hI.opnR hdn 7 6 rfl rfl rfl rfl rfl).trans z13
 replace hAA := hI.low' hAA hA0 (hO.ge (⟨rfl, trivial⟩))
 replace hF : Fr w0 w := hF.tr hI.ch (hO.ge (⟨rfl, trivial⟩))
 replace hO := hI.left hdn [(7, ob u2 (.vec w0.heap.size 5 (eInt .u8) (y7.set y6.toNat x10)))] ⟨rfl, rfl, z14, rfl, rfl, trivial⟩
 replace hA := hI.avok
 clear hI
 obtain ⟨e15, hr⟩ := ck_some hr
 refine HT.u hA hF (eI (y6 + (1 : Int)) :: eI (y6 + (1 : Int)) :: []) ?_ ?_
 exact Obls.p (fun R' w' hw hs hd => of_add ((hs 12 rfl).trans h12) rfl e15) <| Obls.v <| Obls.nil
 intro R w hw hs hF' hA hF
 obtain ⟨h1, h5, h10, h11⟩ := k4 hs h1 h5 h10 h11
 have h12 := hF'.r 1 rfl
 replace hO := hO.fr hw
 exact Exists.intro k (And.intro (Nat.lt_succ_self k) ⟨_, _, _, hr, hA, hF, hAA, hO, h1, h5, h10, h11, h12⟩)
 have hr := cnd_f c8 hr
 refine HT.exit ?_
 obtain rfl := Option.some.inj hr
 exact Exists.intro _ ⟨_, rfl, hA, hF, hAA, hO, h5⟩
 rintro R w ⟨A, s5, es, hA, hF, hAA, hO, h5⟩
 obtain rfl := es.symm
 refine HT.seq ?_
 refine HT.u hA hF (eR u2 :: eF (.rep eStr A (strB s5)) :: eF (.rep eStr A (strB s5)) :: []) ?_ ?_
 exact Obls.m h5 <| Obls.p (fun R' w' hw hs hd => of_conv_bytes ((vec_rep ((hO.fr hw).ok 0 _ rfl).1 hAA hA0).eq (hd.g 0 rfl)) Tryz.underlying22 Tryz.underlying5 Tryz.underlying9) <| Obls.p (fun R' w' hw hs hd => of_assign (hd.g 0 rfl)) <| Obls.nil
 intro R w hw hs hF' hA hF
 obtain ⟨u16, h4, f_u16⟩ : ∃ u, R 4 = u ∧ Rep eStr A w u (strB s5) := ⟨_, rfl, hF' 2 _ _ rfl rfl rfl⟩
 replace hO := hO.fr hw
 replace hO : IniOK [] A w := hO.sub [] trivial
 refine HT.ret ?_
 obtain rfl := Option.some.inj hr
 exact ⟨.inr rfl, [R 4], ⟨rfl, trivial⟩, (f_u16.eq h4).down hAA, hF⟩
def M_impl_FoldCase_1 (fu : Nat) (p0 : Int) : Option Int :=
 bd ((decide (65 ≤ p0)) && (decide (p0 ≤ 90))) fun x1 =>
 bif x1 then (
 some (IntKind.u8.wrap (p0 + 32))
 ) else (
 some p0
 )
theorem M_impl_FoldCase_1_ok {fu : Nat} {A : Av} {p0 : Int} {r : Int} (hr : M_impl_FoldCase_1 fu p0 = some r) {w : World} {v0 : Value} (hA : AvOK A w) (h0 : v0 = .int .u8 p0) :
 Calls Tryz.prog 287 #[v0] w fun e w' => ∃ v, e = .returned v ∧ (v = .int .u8 r ∧ Fr w w') := by
 unfold M_impl_FoldCase_1 at hr
 obtain ⟨w0, hw0⟩ : ∃ w0, w0 = w := ⟨_, rfl⟩
 have hF : Fr w0 w := hw0 ▸ Fr.refl _
 rw [show Fr w = Fr w0 from hw0 ▸ rfl]
 clear hw0
 refine calls_of_HT2 [.tmp 2] Tryz.func287 Tryz.ntmps287 (by decide) rfl rfl (Nat.le_of_ble_eq_true rfl) ?_
 intro R hR
 replace h0 : R 0 = .int .u8 p0 := (hR 0 _ rfl).trans h0
 clear hR
 refine HT.seq ?_
 refine HT.u hA hF (eU 0 :: []) ?_ ?_
 exact Obls.p (fun R' w' hw hs hd => of_assign rfl) <| Obls.nil
 intro R w hw hs hF' hA hF
 replace h0 := k1 hs h0
 refine HT.seq ?_
 refine HT.seq ?_
 obtain ⟨x1, q2, hr⟩ := bd_some hr
 refine HT.u hA hF (eU p0 :: eB (decide ((65 : Int) ≤ p0)) :: eB (decide ((65 : Int) ≤ p0)) :: gU (true && ((decide ((65 : Int) ≤ p0)) == true)) p0 :: gB (true && ((decide ((65 : Int) ≤ p0)) == true)) (decide (p0 ≤ (90 : Int))) :: eB x1 :: []) ?_ ?_
 exact Obls.m h0 <| Obls.p (fun R' w' hw hs hd => of_geq (hd.g 0 rfl) rfl) <| Obls.v <| Obls.g 2 true (fun hg R' w' hw hs hd => of_move ((hs 0 rfl).trans h0)) <| Obls.g 2 true (fun hg R' w' hw hs hd => of_leq (hd.h 0 hg rfl) rfl) <| Obls.p (fun R' w' hw hs hd => of_pick (decide ((65 : Int) ≤ p0)) (hd.g 0 rfl) (fun hc => by have a1 : R' 7 = .bool (decide (p0 ≤ (90 : Int))) := hd 1 _ _ _ rfl rfl rfl rfl (g_and rfl (beq_of hc)); show _ = Value.bool x1; rw [q2, hc]; exact a1) (fun hc => by show _ = Value.bool x1; rw [q2, hc]; exact rfl)) <| Obls.nil
 intro R w hw hs hF' hA hF
 replace h0 := k1 hs h0
 have h8 := hF'.r 5 rfl
 refine HT.cond x1 h8 (fun c3 => ?_) (fun c3 => ?_)
 have hr := cnd_t c3 hr
 refine HT.seq ?_
 refine HT.u hA hF (eU p0 :: eU (IntKind.u8.wrap (p0 + (32 : Int))) :: eU (IntKind.u8.wrap (p0 + (32 : Int))) :: []) ?_ ?_
 exact Obls.m h0 <| Obls.p (fun R' w' hw hs hd => of_add_w (hd.g 0 rfl) rfl) <| Obls.a <| Obls.nil
 intro R w hw hs hF' hA hF
 have h2 := hF'.r 2 rfl
 refine HT.ret ?_
 obtain rfl := Option.some.inj hr
 exact ⟨.inr rfl, [R 2], ⟨rfl, trivial⟩, h2, hF⟩
 have hr := cnd_f c3 hr
 refine HT.skip ?_
 refine HT.seq ?_
 refine HT.u hA hF (eU p0 :: eU p0 :: []) ?_ ?_
 exact Obls.m h0 <| Obls.a <| Obls.nil
 intro R w hw hs hF' hA hF
 have h2 := hF'.r 1 rfl
 refine HT.ret ?_
 obtain rfl := Option.some.inj hr
 exact ⟨.inr rfl, [R 2], ⟨rfl, trivial⟩, h2, hF⟩
def M_impl_FoldCase (fu : Nat) (p0 : List UInt8) : Option (List UInt8) :=
 cl true (M_impl_mapped fu p0 (fun x => M_impl_FoldCase_1 fu x)) fun x1 =>
 some x1
theorem M_impl_FoldCase_ok {fu : Nat} {A : Av} {p0 : List UInt8} {r : List UInt8} (hr : M_impl_FoldCase fu p0 = some r) {w : World} {v0 : Value} (hA : AvOK A w) (h0 : Rep eStr A w v0 p0) :
 Calls Tryz.prog 247 #[v0] w fun e w' => ∃ v, e = .returned v ∧ (Rep eStr A w' v r ∧ Fr w w') := by
 unfold M_impl_FoldCase at hr
 obtain ⟨w0, hw0⟩ : ∃ w0, w0 = w := ⟨_, rfl⟩
 have hF : Fr w0 w := hw0 ▸ Fr.refl _
 rw [show Fr w = Fr w0 from hw0 ▸ rfl]
 clear hw0
 refine calls_of_HT2 [.tmp 2] Tryz.func247 Tryz.ntmps247 (by decide) rfl rfl (Nat.le_of_ble_eq_true rfl) ?_
 intro R hR
 have f_v0 := h0
 replace h0 : R 0 = v0 := hR 0 _ rfl
 clear hR
 refine HT.seq ?_
 refine HT.u hA hF (eF (.rep eStr A ([] : List UInt8)) :: []) ?_ ?_
 exact Obls.p (fun R' w' hw hs hd => of_assign ⟨_, rfl, ⟨_, rfl, rfl, by decide⟩⟩) <| Obls.nil
 intro R w hw hs hF' hA hF
 replace h0 := k1 hs h0
 replace f_v0 := f_v0.fr hw
 refine HT.seq ?_
 obtain ⟨x1, q2, hr⟩ := cl_some hr
 refine HT.u hA hF (eR v0 :: eF (.rep eStr A x1) :: eF (.rep eStr A x1) :: []) ?_ ?_
 exact Obls.m h0 <| Obls.p (fun R' w' hw hs hd => of_call Tryz.call286 (M_impl_mapped_ok (q2 rfl) (hA.fr hw.size) ((f_v0.fr hw).eq (hd.g 0 rfl)) (fnb1_of [] rfl Tryz.call287 (fun x r hr' w'' a hF' hA' ha => M_impl_FoldCase_1_ok hr' hA' (rep_int_eq ha))))) <| Obls.p (fun R' w' hw hs hd => of_assign (hd.g 0 rfl)) <| Obls.nil
 intro R w hw hs hF' hA hF
 obtain ⟨u3, h2, f_u3⟩ : ∃ u, R 2 = u ∧ Rep eStr A w u x1 := ⟨_, rfl, hF' 2 _ _ rfl rfl rfl⟩
 refine HT.ret ?_
 obtain rfl := Option.some.inj hr
 exact ⟨.inr rfl, [R 2], ⟨rfl, trivial⟩, (f_u3.eq h2), hF⟩
def M_impl_isSmall (fu : Nat) (p0 : Int) : Option Bool :=
 bd ((decide (97 ≤ p0)) && (decide (p0 ≤ 122))) fun x1 =>
 some x1
theorem M_impl_isSmall_ok {fu : Nat} {A : Av} {p0 : Int} {r : Bool} (hr : M_impl_isSmall fu p0 = some r) {w : World} {v0 : Value} (hA : AvOK A w) (h0 : v0 = .int .u8 p0) :
 Calls Tryz.prog 288 #[v0] w fun e w' => ∃ v, e = .returned v ∧ (v = .bool r ∧ Fr w w') := by
 unfold M_impl_isSmall at hr
 obtain ⟨w0, hw0⟩ : ∃ w0, w0 = w := ⟨_, rfl⟩
 have hF : Fr w0 w := hw0 ▸ Fr.refl _
 rw [show Fr w = Fr w0 from hw0 ▸ rfl]
 clear hw0
 refine calls_of_HT2 [.tmp 2] Tryz.func288 Tryz.ntmps288 (by decide) rfl rfl (Nat.le_of_ble_eq_true rfl) ?_
 intro R hR
 replace h0 : R 0 = .int .u8 p0 := (hR 0 _ rfl).trans h0
 clear hR
 refine HT.seq ?_
 refine HT.u hA hF (eB false :: []) ?_ ?_
 exact Obls.p (fun R' w' hw hs hd => of_assign rfl) <| Obls.nil
 intro R w hw hs hF' hA hF
 replace h0 := k1 hs h0
 refine HT.seq ?_
 obtain ⟨x1, q2, hr⟩ := bd_some hr
 refine HT.u hA hF (eU p0 :: eB (decide ((97 : Int) ≤ p0)) :: eB (decide ((97 : Int) ≤ p0)) :: gU (true && ((decide ((97 : Int) ≤ p0)) == true)) p0 :: gB (true && ((decide ((97 : Int) ≤ p0)) == true)) (decide (p0 ≤ (122 : Int))) :: eB x1 :: eB x1 :: []) ?_ ?_
 exact Obls.m h0 <| Obls.p (fun R' w' hw hs hd => of_geq (hd.g 0 rfl) rfl) <| Obls.v <| Obls.g 2 true (fun hg R' w' hw hs hd => of_move ((hs 0 rfl).trans h0)) <| Obls.g 2 true (fun hg R' w' hw hs hd => of_leq (hd.h 0 hg rfl) rfl) <| Obls.p (fun R' w' hw hs hd => of_pick (decide ((97 : Int) ≤ p0)) (hd.g 0 rfl) (fun hc => by have a1 : R' 7 = .bool (decide (p0 ≤ (122 : Int))) := hd 1 _ _ _ rfl rfl rfl rfl (g_and rfl (beq_of hc)); show _ = Value.bool x1; rw [q2, hc]; exact a1) (fun hc => by show _ = Value.bool x1; rw [q2, hc]; exact rfl)) <| Obls.a <| Obls.nil
 intro R w hw hs hF' hA hF
 have h2 := hF'.r 6 rfl
 refine HT.ret ?_
 obtain rfl := Option.some.inj hr
 exact ⟨.inr rfl, [R 2], ⟨rfl, trivial⟩, h2, hF⟩
def M_impl_isDigit (fu : Nat) (p0 : Int) : Option Bool :=
 bd ((decide (48 ≤ p0)) && (decide (p0 ≤ 57))) fun x1 =>
 some x1
theorem M_impl_isDigit_ok {fu : Nat} {A : Av} {p0 : Int} {r : Bool} (hr : M_impl_isDigit fu p0 = some r) {w : World} {v0 : Value} (hA : AvOK A w) (h0 : v0 = .int .u8 p0) :
 Calls Tryz.prog 215 #[v0] w fun e w' => ∃ v, e = .returned v ∧ (v = .bool r ∧ Fr w w') := by
 unfold M_impl_isDigit at hr
 obtain ⟨w0, hw0⟩ : ∃ w0, w0 = w := ⟨_, rfl⟩
 have hF : Fr w0 w := hw0 ▸ Fr.refl _
 rw [show Fr w = Fr w0 from hw0 ▸ rfl]
 clear hw0
 refine calls_of_HT2 [.tmp 2] Tryz.func215 Tryz.ntmps215 (by decide) rfl rfl (Nat.le_of_ble_eq_true rfl) ?_
 intro R hR
 replace h0 : R 0 = .int .u8 p0 := (hR 0 _ rfl).trans h0
 clear hR
 refine HT.seq ?_
 refine HT.u hA hF (eB false :: []) ?_ ?_
 exact Obls.p (fun R' w' hw hs hd => of_assign rfl) <| Obls.nil
 intro R w hw hs hF' hA hF
 replace h0 := k1 hs h0
 refine HT.seq ?_
 obtain ⟨x1, q2, hr⟩ := bd_some hr
 refine HT.u hA hF (eU p0 :: eB (decide ((48 : Int) ≤ p0)) :: eB (decide ((48 : Int) ≤ p0)) :: gU (true && ((decide ((48 : Int) ≤ p0)) == true)) p0 :: gB (true && ((decide ((48 : Int) ≤ p0)) == true)) (decide (p0 ≤ (57 : Int))) :: eB x1 :: eB x1 :: []) ?_ ?_
 exact Obls.m h0 <| Obls.p (fun R' w' hw hs hd => of_geq (hd.g 0 rfl) rfl) <| Obls.v <| Obls.g 2 true (fun hg R' w' hw hs hd => of_move ((hs 0 rfl).trans h0)) <| Obls.g 2 true (fun hg R' w' hw hs hd => of_leq (hd.h 0 hg rfl) rfl) <| Obls.p (fun R' w' hw hs hd => of_pick (decide ((48 : Int) ≤ p0)) (hd.g 0 rfl) (fun hc => by have a1 : R' 7 = .bool (decide (p0 ≤ (57 : Int))) := hd 1 _ _ _ rfl rfl rfl rfl (g_and rfl (beq_of hc)); show _ = Value.bool x1; rw [q2, hc]; exact a1) (fun hc => by show _ = Value.bool x1; rw [q2, hc]; exact rfl)) <| Obls.a <| Obls.nil
 intro R w hw hs hF' hA hF
 have h2 := hF'.r 6 rfl
 refine HT.ret ?_
 obtain rfl := Option.some.inj hr
 exact ⟨.inr rfl, [R 2], ⟨rfl, trivial⟩, h2, hF⟩
def M_impl_isWordByte (fu : Nat) (p0 : Int) : Option Bool :=
 cl true (M_impl_isSmall fu p0) fun x1 =>
 bd ((decide (65 ≤ p0)) && (decide (p0 ≤ 90))) fun x3 =>
 bd (x1 || x3) fun x5 =>
 cl (true && (x5 == false)) (M_impl_isDigit fu p0) fun x7 =>
 bd (x5 || x7) fun x9 =>
 some x9
theorem M_impl_isWordByte_ok {fu : Nat} {A : Av} {p0 : Int} {r : Bool} (hr : M_impl_isWordByte fu p0 = some r) {w : World} {v0 : Value} (hA : AvOK A w) (h0 : v0 = .int .u8 p0) :
 Calls Tryz.prog 294 #[v0] w fun e w' => ∃ v, e = .returned v ∧ (v = .bool r ∧ Fr w w') := by
 unfold M_impl_isWordByte at hr
 obtain ⟨w0, hw0⟩ : ∃ w0, w0 = w := ⟨_, rfl⟩
 have hF : Fr w0 w := hw0 ▸ Fr.refl _
 rw [show Fr w = Fr w0 from hw0 ▸ rfl]
 clear hw0
 refine calls_of_HT2 [.tmp 2] Tryz.func294 Tryz.ntmps294 (by decide) rfl rfl (Nat.le_of_ble_eq_true rfl) ?_
 intro R hR
 replace h0 : R 0 = .int .u8 p0 := (hR 0 _ rfl).trans h0
 clear hR
 refine HT.seq ?_
 refine HT.u hA hF (eB false :: []) ?_ ?_
 exact Obls.p (fun R' w' hw hs hd => of_assign rfl) <| Obls.nil
 intro R w hw hs hF' hA hF
 replace h0 := k1 hs h0
 refine HT.seq ?_
 obtain ⟨x1, q2, hr⟩ := cl_some hr
 obtain ⟨x3, q4, hr⟩ := bd_some hr
 obtain ⟨x5, q6, hr⟩ := bd_some hr
 obtain ⟨x7, q8, hr⟩ := cl_some hr
 obtain ⟨x9, q10, hr⟩ := bd_some hr
 refine HT.u hA hF (eU p0 :: eB x1 :: eB x1 :: gU (true && (x1 == false)) p0 :: gB (true && (x1 == false)) (decide ((65 : Int) ≤ p0)) :: gB (true && (x1 == false)) (decide ((65 : Int) ≤ p0)) :: gU ((true && (x1 == false)) && ((decide ((65 : Int) ≤ p0)) == true)) p0 :: gB ((true && (x1 == false)) && ((decide ((65 : Int) ≤ p0)) == true)) (decide (p0 ≤ (90 : Int))) :: gB (true && (x1 == false)) x3 :: eB x5 :: eB x5 :: gU (true && (x5 == false)) p0 :: gB (true && (x5 == false)) x7 :: eB x9 :: eB x9 :: []) ?_ ?_
 exact Obls.m h0 <| Obls.p (fun R' w' hw hs hd => of_call Tryz.call288 (M_impl_isSmall_ok (q2 rfl) (hA.fr hw.size) (hd.g 0 rfl))) <| Obls.v <| Obls.g 2 false (fun hg R' w' hw hs hd => of_move ((hs 0 rfl).trans h0)) <| Obls.g 2 false (fun hg R' w' hw hs hd => of_geq (hd.h 0 hg rfl) rfl) <| Obls.g 2 false (fun hg R' w' hw hs hd => of_move (hd.h 0 hg rfl)) <| Obls.g 5 true (fun hg R' w' hw hs hd => of_move ((hs 0 rfl).trans h0)) <| Obls.g 5 true (fun hg R' w' hw hs hd => of_leq (hd.h 0 hg rfl) rfl) <| Obls.g 2 false (fun hg R' w' hw hs hd => of_pick (decide ((65 : Int) ≤ p0)) (hd.h 0 hg rfl) (fun hc => by have a1 : R' 10 = .bool (decide (p0 ≤ (90 : Int))) := hd 1 _ _ _ rfl rfl rfl rfl (g_and hg (beq_of hc)); show _ = Value.bool x3; rw [q4, hc]; exact a1) (fun hc => by show _ = Value.bool x3; rw [q4, hc]; exact rfl)) <| Obls.p (fun R' w' hw hs hd => of_pick x1 (hd.g 0 rfl) (fun hc => by show _ = Value.bool x5; rw [q6, hc]; exact rfl) (fun hc => by have a2 : R' 11 = .bool x3 := hd 1 _ _ _ rfl rfl rfl rfl (g_and rfl (beq_of hc)); show _ = Value.bool x5; rw [q6, hc]; exact a2)) <| Obls.v <| Obls.g 10 false (fun hg R' w' hw hs hd => of_move ((hs 0 rfl).trans h0)) <| Obls.g 10 false (fun hg R' w' hw hs hd => of_call Tryz.call215 (M_impl_isDigit_ok (q8 hg) (hA.fr hw.size) (hd.h 0 hg rfl))) <| Obls.p (fun R' w' hw hs hd => of_pick x5 (hd.g 0 rfl) (fun hc => by show _ = Value.bool x9; rw [q10, hc]; exact rfl) (fun hc => by have a2 : R' 15 = .bool x7 := hd 1 _ _ _ rfl rfl rfl rfl (g_and rfl (beq_of hc)); show _ = Value.bool x9; rw [q10, hc]; exact a2)) <| Obls.a <| Obls.nil
 intro R w hw hs hF' hA hF
 have h2 := hF'.r 14 rfl
 refine HT.ret ?_
 obtain rfl := Option.some.inj hr
 exact ⟨.inr rfl, [R 2], ⟨rfl, trivial⟩, h2, hF⟩
def M_impl_StripMarks_1 (fu : Nat) (p0 : Int) : Option Int :=
 cl true (M_impl_isWordByte fu p0) fun x1 =>
 bif x1 then (
 some p0
 ) else (
 some 32
 )
theorem M_impl_StripMarks_1_ok {fu : Nat} {A : Av} {p0 : Int} {r : Int} (hr : M_impl_StripMarks_1 fu p0 = some r) {w : World} {v0 : Value} (hA : AvOK A w) (h0 : v0 = .int .u8 p0) :
 Calls Tryz.prog 293 #[v0] w fun e w' => ∃ v, e = .returned v ∧ (v = .int .u8 r ∧ Fr w w') := by
 unfold M_impl_StripMarks_1 at hr
 obtain ⟨w0, hw0⟩ : ∃ w0, w0 = w := ⟨_, rfl⟩
 have hF : Fr w0 w := hw0 ▸ Fr.refl _
 rw [show Fr w = Fr w0 from hw0 ▸ rfl]
 clear hw0
 refine calls_of_HT2 [.tmp 2] Tryz.func293 Tryz.ntmps293 (by decide) rfl rfl (Nat.le_of_ble_eq_true rfl) ?_
 intro R hR
 replace h0 : R 0 = .int .u8 p0 := (hR 0 _ rfl).trans h0
 clear hR
 refine HT.seq ?_
 refine HT.u hA hF (eU 0 :: []) ?_ ?_
 exact Obls.p (fun R' w' hw hs hd => of_assign rfl) <| Obls.nil
 intro R w hw hs hF' hA hF
 replace h0 := k1 hs h0
 refine HT.seq ?_
 refine HT.seq ?_
 obtain ⟨x1, q2, hr⟩ := cl_some hr
 refine HT.u hA hF (eU p0 :: eB x1 :: []) ?_ ?_
 exact Obls.m h0 <| Obls.p (fun R' w' hw hs hd => of_call Tryz.call294 (M_impl_isWordByte_ok (q2 rfl) (hA.fr hw.size) (hd.g 0 rfl))) <| Obls.nil
 intro R w hw hs hF' hA hF
 replace h0 := k1 hs h0
 have h4 := hF'.r 1 rfl
 refine HT.cond x1 h4 (fun c3 => ?_) (fun c3 => ?_)
 have hr := cnd_t c3 hr
 refine HT.seq ?_
 refine HT.u hA hF (eU p0 :: eU p0 :: []) ?_ ?_
 exact Obls.m h0 <| Obls.a <| Obls.nil
 intro R w hw hs hF' hA hF
 have h2 := hF'.r 1 rfl
 refine HT.ret ?_
 obtain rfl := Option.some.inj hr
 exact ⟨.inr rfl, [R 2], ⟨rfl, trivial⟩, h2, hF⟩
 have hr := cnd_f c3 hr
 refine HT.skip ?_
 refine HT.seq ?_
 refine HT.u hA hF (eU 32 :: []) ?_ ?_
 exact Obls.p (fun R' w' hw hs hd => of_assign rfl) <| Obls.nil
 intro R w hw hs hF' hA hF
 have h2 := hF'.r 0 rfl
 refine HT.ret ?_
 obtain rfl := Option.some.inj hr
 exact ⟨.inr rfl, [R 2], ⟨rfl, trivial⟩, h2, hF⟩
def M_impl_StripMarks (fu : Nat) (p0 : List UInt8) : Option (List UInt8) :=
 cl true (M_replaceAll fu p0 ([39] : List UInt8) ([] : List UInt8)) fun x1 =>
 cl true (M_impl_mapped fu x1 (fun x => M_impl_StripMarks_1 fu x)) fun x3 =>
 some x3
theorem M_impl_StripMarks_ok {fu : Nat} {A : Av} {p0 : List UInt8} {r : List UInt8} (hr : M_impl_StripMarks fu p0 = some r) {w : World} {v0 : Value} (hA : AvOK A w) (hG : GTab w) (h0 : Rep eStr A w v0 p0) :
 Calls Tryz.prog 253 #[v0] w fun e w' => ∃ v, e = .returned v ∧ (Rep eStr A w' v r ∧ Fr w w') := by
 unfold M_impl_StripMarks at hr
 obtain ⟨w0, hw0⟩ : ∃ w0, w0 = w := ⟨_, rfl⟩
 have hF : Fr w0 w := hw0 ▸ Fr.refl _
 rw [show Fr w = Fr w0 from hw0 ▸ rfl]
 have hG0 : GTab w0 := hw0 ▸ hG
 clear hw0
 refine calls_of_HT2 [.tmp 2] Tryz.func253 Tryz.ntmps253 (by decide) rfl rfl (Nat.le_of_ble_eq_true rfl) ?_
 intro R hR
 have f_v0 := h0
 replace h0 : R 0 = v0 := hR 0 _ rfl
 clear hR
 refine HT.seq ?_
 refine HT.u hA hF (eF (.rep eStr A ([] : List UInt8)) :: []) ?_ ?_
 exact Obls.p (fun R' w' hw hs hd => of_assign ⟨_, rfl, ⟨_, rfl, rfl, by decide⟩⟩) <| Obls.nil
 intro R w hw hs hF' hA hF
 replace h0 := k1 hs h0
 replace f_v0 := f_v0.fr hw
 refine HT.seq ?_
 obtain ⟨x1, q2, hr⟩ := cl_some hr
 obtain ⟨x3, q4, hr⟩ := cl_some hr
 refine HT.u hA hF (eR v0 :: eF (.rep eStr A x1) :: eF (.rep eStr A x3) :: eF (.rep eStr A x3) :: []) ?_ ?_
 exact Obls.m h0 <| Obls.p (fun R' w' hw hs hd => of_call Tryz.call292 (M_replaceAll_ok (q2 rfl) (hA.fr hw.size) (hG0.fr (hF.trans hw)) ((f_v0.fr hw).eq (hd.g 0 rfl)) ⟨_, rfl, ⟨_, rfl, rfl, by decide⟩⟩ ⟨_, rfl, ⟨_, rfl, rfl, by decide⟩⟩)) <| Obls.p (fun R' w' hw hs hd => of_call Tryz.call286 (M_impl_mapped_ok (q4 rfl) (hA.fr hw.size) (hd.g 0 rfl) (fnb1_of [] rfl Tryz.call293 (fun x r hr' w'' a hF' hA' ha => M_impl_StripMarks_1_ok hr' hA' (rep_int_eq ha))))) <| Obls.p (fun R' w' hw hs hd => of_assign (hd.g 0 rfl)) <| Obls.nil
 intro R w hw hs hF' hA hF
 obtain ⟨u5, h2, f_u5⟩ : ∃ u, R 2 = u ∧ Rep eStr A w u x3 := ⟨_, rfl, hF' 3 _ _ rfl rfl rfl⟩
 refine HT.ret ?_
 obtain rfl := Option.some.inj hr
 exact ⟨.inr rfl, [R 2], ⟨rfl, trivial⟩, (f_u5.eq h2), hF⟩
def M_internal_stringslite_HasSuffix (fu : Nat) (p0 : List UInt8) (p1 : List UInt8) : Option Bool :=
 ck (!(true && ((decide ((p1.length : Int) ≤ (p0.length : Int))) == true)) || i64B ((p0.length : Int) - (p1.length : Int))) <|
 ck (!(true && ((decide ((p1.length : Int) ≤ (p0.length : Int))) == true)) || subR ((p0.length : Int) - (p1.length : Int)) (p0.length : Int) p0.length) <|
 bd ((decide ((p1.length : Int) ≤ (p0.length : Int))) && ((subL p0 ((p0.length : Int) - (p1.length : Int)) (p0.length : Int)) == p1)) fun x3 =>
 some x3
theorem M_internal_stringslite_HasSuffix_ok {fu : Nat} {A : Av} {p0 : List UInt8} {p1 : List UInt8} {r : Bool} (hr : M_internal_stringslite_HasSuffix fu p0 p1 = some r) {w : World} {v0 : Value} {v1 : Value} (hA : AvOK A w) (h0 : Rep eStr A w v0 p0) (h1 : Rep eStr A w v1 p1) :
 Calls Tryz.prog 267 #[v0, v1] w fun e w' => ∃ v, e = .returned v ∧ (v = .bool r ∧ Fr w w') := by
 unfold M_internal_stringslite_HasSuffix at hr
 obtain ⟨w0, hw0⟩ : ∃ w0, w0 = w := ⟨_, rfl⟩
 have hF : Fr w0 w := hw0 ▸ Fr.refl _
 rw [show Fr w = Fr w0 from hw0 ▸ rfl]
 clear hw0
 refine calls_of_HT2 [.tmp 4] Tryz.func267 Tryz.ntmps267 (by decide) rfl rfl (Nat.le_of_ble_eq_true rfl) ?_
 intro R hR
 have f_v0 := h0
 replace h0 : R 0 = v0 := hR 0 _ rfl
 have f_v1 := h1
 replace h1 : R 1 = v1 := hR 1 _ rfl
 clear hR
 refine HT.seq ?_
 refine HT.u hA hF (eB false :: []) ?_ ?_
 exact Obls.p (fun R' w' hw hs hd => of_assign rfl) <| Obls.nil
 intro R w hw hs hF' hA hF
 obtain ⟨h0, h1⟩ := k2 hs h0 h1
 replace f_v0 := f_v0.fr hw
 replace f_v1 := f_v1.fr hw
 refine HT.seq ?_
 obtain ⟨e1, hr⟩ := ck_some hr
 obtain ⟨e2, hr⟩ := ck_some hr
 obtain ⟨x3, q4, hr⟩ := bd_some hr
 refine HT.u hA hF (eR v0 :: eI (p0.length : Int) :: eR v1 :: eI (p1.length : Int) :: eB (decide ((p1.length : Int) ≤ (p0.length : Int))) :: eB (decide ((p1.length : Int) ≤ (p0.length : Int))) :: gR (true && ((decide ((p1.length : Int) ≤ (p0.length : Int))) == true)) v0 :: gR (true && ((decide ((p1.length : Int) ≤ (p0.length : Int))) == true)) v0 :: gI (true && ((decide ((p1.length : Int) ≤ (p0.length : Int))) == true)) (p0.length : Int) :: gR (true && ((decide ((p1.length : Int) ≤ (p0.length : Int))) == true)) v1 :: gI (true && ((decide ((p1.length : Int) ≤ (p0.length : Int))) == true)) (p1.length : Int) :: gI (true && ((decide ((p1.length : Int) ≤ (p0.length : Int))) == true)) ((p0.length : Int) - (p1.length : Int)) :: gF (true && ((decide ((p1.length : Int) ≤ (p0.length : Int))) == true)) (.rep eStr A (subL p0 ((p0.length : Int) - (p1.length : Int)) (p0.length : Int))) :: gR (true && ((decide ((p1.length : Int) ≤ (p0.length : Int))) == true)) v1 :: gB (true && ((decide ((p1.length : Int) ≤ (p0.length : Int))) == true)) ((subL p0 ((p0.length : Int) - (p1.length : Int)) (p0.length : Int)) == p1) :: eB x3 :: eB x3 :: []) ?_ ?_
 exact Obls.m h0 <| Obls.p (fun R' w' hw hs hd => of_len_str ((f_v0.fr hw).eq (hd.g 0 rfl)) Tryz.underlying9) <| Obls.m h1 <| Obls.p (fun R' w' hw hs hd => of_len_str ((f_v1.fr hw).eq (hd.g 0 rfl)) Tryz.underlying9) <| Obls.p (fun R' w' hw hs hd => of_geq (hd.g 0 rfl) (hd.g 1 rfl)) <| Obls.v <| Obls.g 5 true (fun hg R' w' hw hs hd => of_move ((hs 0 rfl).trans h0)) <| Obls.g 5 true (fun hg R' w' hw hs hd => of_move ((hs 0 rfl).trans h0)) <| Obls.g 5 true (fun hg R' w' hw hs hd => of_len_str ((f_v0.fr hw).eq (hd.h 0 hg rfl)) Tryz.underlying9) <| Obls.g 5 true (fun hg R' w' hw hs hd => of_move ((hs 1 rfl).trans h1)) <| Obls.g 5 true (fun hg R' w' hw hs hd => of_len_str ((f_v1.fr hw).eq (hd.h 0 hg rfl)) Tryz.underlying9) <| Obls.g 5 true (fun hg R' w' hw hs hd => of_sub (hd.h 0 hg rfl) (hd.h 1 hg rfl) (gd e1 hg)) <| Obls.g 5 true (fun hg R' w' hw hs hd => of_slice_str_lo ((f_v0.fr hw).eq (hd.h 0 hg rfl)) (hd.h 1 hg rfl) Tryz.underlying9  (gd e2 hg)) <| Obls.g 5 true (fun hg R' w' hw hs hd => of_move ((hs 1 rfl).trans h1)) <| Obls.g 5 true (fun hg R' w' hw hs hd => of_seql (hd.h 0 hg rfl) ((f_v1.fr hw).eq (hd.h 1 hg rfl))) <| Obls.p (fun R' w' hw hs hd => of_pick (decide ((p1.length : Int) ≤ (p0.length : Int))) (hd.g 0 rfl) (fun hc => by have a1 : R' 19 = .bool ((subL p0 ((p0.length : Int) - (p1.length : Int)) (p0.length : Int)) == p1) := hd 1 _ _ _ rfl rfl rfl rfl (g_and rfl (beq_of hc)); show _ = Value.bool x3; rw [q4, hc]; exact a1) (fun hc => by show _ = Value.bool x3; rw [q4, hc]; exact rfl)) <| Obls.a <| Obls.nil
 intro R w hw hs hF' hA hF
 have h4 := hF'.r 16 rfl
 refine HT.ret ?_
 obtain rfl := Option.some.inj hr
 exact ⟨.inr rfl, [R 4], ⟨rfl, trivial⟩, h4, hF⟩
def M_internal_stringslite_TrimSuffix (fu : Nat) (p0 : List UInt8) (p1 : List UInt8) : Option (List UInt8) :=
 cl true (M_internal_stringslite_HasSuffix fu p0 p1) fun x1 =>
 bif x1 then (
 ck (i64B ((p0.length : Int) - (p1.length : Int))) <|
 ck (subR 0 ((p0.length : Int) - (p1.length : Int)) p0.length) <|
 some (subL p0 0 ((p0.length : Int) - (p1.length : Int)))
 ) else (
 some p0
 )
theorem M_internal_stringslite_TrimSuffix_ok {fu : Nat} {A : Av} {p0 : List UInt8} {p1 : List UInt8} {r : List UInt8} (hr : M_internal_stringslite_TrimSuffix fu p0 p1 = some r) {w : World} {v0 : Value} {v1 : Value} (hA : AvOK A w) (h0 : Rep eStr A w v0 p0) (h1 : Rep eStr A w v1 p1) :
 Calls Tryz.prog 316 #[v0, v1] w fun e w' => ∃ v, e = .returned v ∧ (Rep eStr A w' v r ∧ Fr w w') := by
 unfold M_internal_stringslite_TrimSuffix at hr
 obtain ⟨w0, hw0⟩ : ∃ w0, w0 = w := ⟨_, rfl⟩
 have hF : Fr w0 w := hw0 ▸ Fr.refl _
 rw [show Fr w = Fr w0 from hw0 ▸ rfl]
 clear hw0
 refine calls_of_HT2 [.tmp 4] Tryz.func316 Tryz.ntmps316 (by decide) rfl rfl (Nat.le_of_ble_eq_true rfl) ?_
 intro R hR
 have f_v0 := h0
 replace h0 : R 0 = v0 := hR 0 _ rfl
 have f_v1 := h1
 replace h1 : R 1 = v1 := hR 1 _ rfl
 clear hR
 refine HT.seq ?_
 refine HT.u hA hF (eF (.rep eStr A ([] : List UInt8)) :: []) ?_ ?_
 exact Obls.p (fun R' w' hw hs hd => of_assign ⟨_, rfl, ⟨_, rfl, rfl, by decide⟩⟩) <| Obls.nil
 intro R w hw hs hF' hA hF
 obtain ⟨h0, h1⟩ := k2 hs h0 h1
 replace f_v0 := f_v0.fr hw
 replace f_v1 := f_v1.fr hw
 refine HT.seq ?_
 refine HT.seq ?_
 obtain ⟨x1, q2, hr⟩ := cl_some hr
 refine HT.u hA hF (eR v0 :: eR v1 :: eB x1 :: []) ?_ ?_
 exact Obls.m h0 <| Obls.m h1 <| Obls.p (fun R' w' hw hs hd => of_call Tryz.call267 (M_internal_stringslite_HasSuffix_ok (q2 rfl) (hA.fr hw.size) ((f_v0.fr hw).eq (hd.g 0 rfl)) ((f_v1.fr hw).eq (hd.g 1 rfl)))) <| Obls.nil
 intro R w hw hs hF' hA hF
 obtain ⟨h0, h1⟩ := k2 hs h0 h1
 have h7 := hF'.r 2 rfl
 replace f_v0 := f_v0.fr hw
 replace f_v1 := f_v1.fr hw
 refine HT.cond x1 h7 (fun c3 => ?_) (fun c3 => ?_)
 have hr := cnd_t c3 hr
 refine HT.seq ?_
 obtain ⟨e4, hr⟩ := ck_some hr
 obtain ⟨e5, hr⟩ := ck_some hr
 refine HT.u hA hF (eR v0 :: eR v0 :: eI (p0.length : Int) :: eR v1 :: eI (p1.length : Int) :: eI ((p0.length : Int) - (p1.length : Int)) :: eF (.rep eStr A (subL p0 0 ((p0.length : Int) - (p1.length : Int)))) :: eF (.rep eStr A (subL p0 0 ((p0.length : Int) - (p1.length : Int)))) :: []) ?_ ?_
 exact Obls.m h0 <| Obls.m h0 <| Obls.p (fun R' w' hw hs hd => of_len_str ((f_v0.fr hw).eq (hd.g 0 rfl)) Tryz.underlying9) <| Obls.m h1 <| Obls.p (fun R' w' hw hs hd => of_len_str ((f_v1.fr hw).eq (hd.g 0 rfl)) Tryz.underlying9) <| Obls.p (fun R' w' hw hs hd => of_sub (hd.g 0 rfl) (hd.g 1 rfl) e4) <| Obls.p (fun R' w' hw hs hd => of_slice_str_hi ((f_v0.fr hw).eq (hd.g 0 rfl)) (hd.g 1 rfl) Tryz.underlying9  e5) <| Obls.p (fun R' w' hw hs hd => of_assign (hd.g 0 rfl)) <| Obls.nil
 intro R w hw hs hF' hA hF
 obtain ⟨u6, h4, f_u6⟩ : ∃ u, R 4 = u ∧ Rep eStr A w u (subL p0 0 ((p0.length : Int) - (p1.length : Int))) := ⟨_, rfl, hF' 7 _ _ rfl rfl rfl⟩
 refine HT.ret ?_
 obtain rfl := Option.some.inj hr
 exact ⟨.inr rfl, [R 4], ⟨rfl, trivial⟩, (f_u6.eq h4), hF⟩
 have hr := cnd_f c3 hr
 refine HT.skip ?_
 refine HT.seq ?_
 refine HT.u hA hF (eR v0 :: eR v0 :: []) ?_ ?_
 exact Obls.m h0 <| Obls.a <| Obls.nil
 intro R w hw hs hF' hA hF
 have h4 := hF'.r 1 rfl
 replace f_v0 := f_v0.fr hw
 refine HT.ret ?_
 obtain rfl := Option.some.inj hr
 exact ⟨.inr rfl, [R 4], ⟨rfl, trivial⟩, (f_v0.eq h4), hF⟩
def M_strings_TrimSuffix (fu : Nat) (p0 : List UInt8) (p1 : List UInt8) : Option (List UInt8) :=
 cl true (M_internal_stringslite_TrimSuffix fu p0 p1) fun x1 =>
 some x1
theorem M_strings_TrimSuffix_ok {fu : Nat} {A : Av} {p0 : List UInt8} {p1 : List UInt8} {r : List UInt8} (hr : M_strings_TrimSuffix fu p0 p1 = some r) {w : World} {v0 : Value} {v1 : Value} (hA : AvOK A w) (h0 : Rep eStr A w v0 p0) (h1 : Rep eStr A w v1 p1) :
 Calls Tryz.prog 291 #[v0, v1] w fun e w' => ∃ v, e = .returned v ∧ (Rep eStr A w' v r ∧ Fr w w') := by
 unfold M_strings_TrimSuffix at hr
 obtain ⟨w0, hw0⟩ : ∃ w0, w0 = w := ⟨_, rfl⟩
 have hF : Fr w0 w := hw0 ▸ Fr.refl _
 rw [show Fr w = Fr w0 from hw0 ▸ rfl]
 clear hw0
 refine calls_of_HT2 [.tmp 4] Tryz.func291 Tryz.ntmps291 (by decide) rfl rfl (Nat.le_of_ble_eq_true rfl) ?_
 intro R hR
 have f_v0 := h0
 replace h0 : R 0 = v0 := hR 0 _ rfl
 have f_v1 := h1
 replace h1 : R 1 = v1 := hR 1 _ rfl
 clear hR
 refine HT.seq ?_
 refine HT.u hA hF (eF (.rep eStr A ([] : List UInt8)) :: []) ?_ ?_
 exact Obls.p (fun R' w' hw hs hd => of_assign ⟨_, rfl, ⟨_, rfl, rfl, by decide⟩⟩) <| Obls.nil
 intro R w hw hs hF' hA hF
 obtain ⟨h0, h1⟩ := k2 hs h0 h1
 replace f_v0 := f_v0.fr hw
 replace f_v1 := f_v1.fr hw
 refine HT.seq ?_
 obtain ⟨x1, q2, hr⟩ := cl_some hr
 refine HT.u hA hF (eR v0 :: eR v1 :: eF (.rep eStr A x1) :: eF (.rep eStr A x1) :: []) ?_ ?_
 exact Obls.m h0 <| Obls.m h1 <| Obls.p (fun R' w' hw hs hd => of_call Tryz.call316 (M_internal_stringslite_TrimSuffix_ok (q2 rfl) (hA.fr hw.size) ((f_v0.fr hw).eq (hd.g 0 rfl)) ((f_v1.fr hw).eq (hd.g 1 rfl)))) <| Obls.p (fun R' w' hw hs hd => of_assign (hd.g 0 rfl)) <| Obls.nil
 intro R w hw hs hF' hA hF
 obtain ⟨u3, h4, f_u3⟩ : ∃ u, R 4 = u ∧ Rep eStr A w u x1 := ⟨_, rfl, hF' 3 _ _ rfl rfl rfl⟩
 refine HT.ret ?_
 obtain rfl := Option.some.inj hr
 exact ⟨.inr rfl, [R 4], ⟨rfl, trivial⟩, (f_u3.eq h4), hF⟩
def M_impl_CollapseSpaces_L0 (fu : Nat) (p0 : List UInt8) : Nat → Int → (List Int) → Option (List Int)
 | 0, _, _ => none
 | k + 1, y5, y6 =>
 bif (decide (y5 < (p0.length : Int))) then (
 ck (inR y5 p0.length) <|
 ck (!((true && (((bAt p0 y5) != 32) == false)) && ((decide (0 < (y6.length : Int))) == true)) || i64B ((y6.length : Int) - 1)) <|
 ck (!((true && (((bAt p0 y5) != 32) == false)) && ((decide (0 < (y6.length : Int))) == true)) || inR ((y6.length : Int) - 1) y6.length) <|
 bd ((decide (0 < (y6.length : Int))) && ((gtD y6 ((y6.length : Int) - 1)) != 32)) fun x11 =>
 bd (((bAt p0 y5) != 32) || x11) fun x13 =>
 bif x13 then (
 ck (inR y5 p0.length) <|
 ck (lenOK (y6.length + ([(bAt p0 y5)] : List Int).length)) <|
 ck (i64B (y5 + 1)) <|
 M_impl_CollapseSpaces_L0 fu p0 k (y5 + 1) (y6 ++ ([(bAt p0 y5)] : List Int))
 ) else (
 ck (i64B (y5 + 1)) <|
 M_impl_CollapseSpaces_L0 fu p0 k (y5 + 1) y6
 )
 ) else (
 some y6
 )
def M_impl_CollapseSpaces (fu : Nat) (p0 : List UInt8) : Option (List UInt8) :=
 cl true (M_impl_CollapseSpaces_L0 fu p0 fu 0 ([] : List Int)) fun s4 =>
 cl true (M_strings_TrimSuffix fu (strB s4) ([32] : List UInt8)) fun x21 =>
 some x21
theorem M_impl_CollapseSpaces_ok {fu : Nat} {A0 : Av} {p0 : List UInt8} {r : List UInt8} (hr : M_impl_CollapseSpaces fu p0 = some r) {w : World} {v0 : Value} (hA : AvOK A0 w) (h0 : Rep eStr A0 w v0 p0) :
 Calls Tryz.prog 252 #[v0] w fun e w' => ∃ v, e = .returned v ∧ (Rep eStr A0 w' v r ∧ Fr w w') := by
 unfold M_impl_CollapseSpaces at hr
 obtain ⟨w0, hw0⟩ : ∃ w0, w0 = w := ⟨_, rfl⟩
 have hF : Fr w0 w := hw0 ▸ Fr.refl _
 have hA0 : ∀ b o, A0 b o → b < w0.heap.size := fun b o h => hw0 ▸ hA b o h
 have hA00 : AvOK A0 w0 := hA0
 rw [show Fr w = Fr w0 from hw0 ▸ rfl]
 clear hw0
 obtain ⟨A, hAe⟩ : ∃ A, A = A0 := ⟨_, rfl⟩
 have hAA : ∀ b o, A0 b o → A b o := fun b o h => hAe ▸ h
 replace hA : AvOK A w := hAe ▸ hA
 have hO : IniOK [] A w := IniOK.nil
 refine calls_of_HT2 [.tmp 2] Tryz.func252 Tryz.ntmps252 (by decide) rfl rfl (Nat.le_of_ble_eq_true rfl) ?_
 intro R hR
 have f_v0 : Rep eStr A w v0 p0 := hAe ▸ h0
 replace h0 : R 0 = v0 := hR 0 _ rfl
 clear hR hAe
 refine HT.seq ?_
 refine HT.u hA hF (eF (.rep eStr A ([] : List UInt8)) :: []) ?_ ?_
 exact Obls.p (fun R' w' hw hs hd => of_assign ⟨_, rfl, ⟨_, rfl, rfl, by decide⟩⟩) <| Obls.nil
 intro R w hw hs hF' hA hF
 replace h0 := k1 hs h0
 replace f_v0 := f_v0.fr hw
 replace hO := hO.fr hw
 refine HT.seq ?_
 refine HT.u hA hF (eR (.slice none 0 0) :: []) ?_ ?_
 exact Obls.p (fun R' w' hw hs hd => of_assign rfl) <| Obls.nil
 intro R w hw hs hF' hA hF
 replace h0 := k1 hs h0
 obtain ⟨u1, n_u1⟩ : ∃ u, u = Value.slice none 0 0 := ⟨_, rfl⟩
 have h3 : R 3 = u1 := (hF' 0 _ _ rfl rfl rfl).trans n_u1.symm
 replace f_v0 := f_v0.fr hw
 replace hO := hO.fr hw
 replace hO := hO.nilcons (u := u1) n_u1 w0.heap.size 5 (eInt .u8)
 refine HT.seq ?_
 refine HT.seq ?_
 refine HT.u hA hF (eR v0 :: eI (p0.length : Int) :: eI 0 :: []) ?_ ?_
 exact Obls.m h0 <| Obls.p (fun R' w' hw hs hd => of_len_str ((f_v0.fr hw).eq (hd.g 0 rfl)) Tryz.underlying9) <| Obls.p (fun R' w' hw hs hd => of_move rfl) <| Obls.nil
 intro R w hw hs hF' hA hF
 obtain ⟨h0, h3⟩ := k2 hs h0 h3
 have h6 := hF'.r 1 rfl
 have h7 := hF'.r 2 rfl
 replace f_v0 := f_v0.fr hw
 replace hO := hO.fr hw
 obtain ⟨rl2, q3, hr⟩ := cl_some hr
 replace q3 := q3 rfl
 refine HT.cut0 (fun R w => ∃ A : Av, ∃ (s4 : (List Int)) (uo_u1 : Value), rl2 = s4 ∧ AvOK A w ∧ Fr w0 w ∧ (∀ b o, A0 b o → A b o) ∧ IniOK [ob uo_u1 (.vec w0.heap.size 5 (eInt .u8) s4)] A w ∧ R 3 = uo_u1) ?_ ?_
 refine HT.block ?_
 refine HT.loop (fun k R w => ∃ A : Av, ∃ (y5 : Int) (y6 : List Int) (ul_u1 : Value), M_impl_CollapseSpaces_L0 fu p0 k y5 y6 = some rl2 ∧ AvOK A w ∧ Fr w0 w ∧ (∀ b o, A0 b o → A b o) ∧ IniOK [ob ul_u1 (.vec w0.heap.size 5 (eInt .u8) y6)] A w ∧ R 0 = v0 ∧ R 3 = ul_u1 ∧ R 6 = .int .i64 (p0.length : Int) ∧ R 7 = .int .i64 y5 ∧ Rep eStr A w v0 p0) fu ⟨_, _, _, u1, q3, hA, hF, hAA, hO, h0, h3, h6, h7, f_v0⟩ ?_
 have hr0 := hr; clear hr q3
 rintro k R w ⟨A, y5, y6, ul_u1, hr, hA, hF, hAA, hO, h0, h3, h6, h7, f_v0⟩
 rcases k with _ | k
 cases (show none = some _ from hr)
 rw [M_impl_CollapseSpaces_L0] at hr
 refine HT.seq ?_
 refine HT.u hA hF (eB (decide (y5 < (p0.length : Int))) :: []) ?_ ?_
 exact Obls.p (fun R' w' hw hs hd => of_lss ((hs 7 rfl).trans h7) ((hs 6 rfl).trans h6)) <| Obls.nil
 intro R w hw hs hF' hA hF
 obtain ⟨h0, h3, h6, h7⟩ := k4 hs h0 h3 h6 h7
 have h8 := hF'.r 0 rfl
 replace f_v0 := f_v0.fr hw
 replace hO := hO.fr hw
 refine HT.seq ?_
 refine HT.cond (decide (y5 < (p0.length : Int))) h8 (fun c7 => ?_) (fun c7 => ?_)
 have hr := cnd_t c7 hr
 refine HT.skip ?_
 refine HT.seq ?_
 refine HT.block ?_
 refine HT.seq ?_
 refine HT.u hA hF (eI y5 :: eI y5 :: []) ?_ ?_
 exact Obls.m h7 <| Obls.a <| Obls.nil
 intro R w hw hs hF' hA hF
 obtain ⟨h0, h3, h6, h7⟩ := k4 hs h0 h3 h6 h7
 have h4 := hF'.r 1 rfl
 replace f_v0 := f_v0.fr hw
 replace hO := hO.fr hw
 refine HT.seq ?_
 obtain ⟨e8, hr⟩ := ck_some hr
 obtain ⟨e9, hr⟩ := ck_some hr
 obtain ⟨e10, hr⟩ := ck_some hr
 obtain ⟨x11, q12, hr⟩ := bd_some hr
 obtain ⟨x13, q14, hr⟩ := bd_some hr
 refine HT.u hA hF (eR v0 :: eI y5 :: eU (bAt p0 y5) :: eB ((bAt p0 y5) != (32 : Int)) :: eB ((bAt p0 y5) != (32 : Int)) :: gR (true && (((bAt p0 y5) != (32 : Int)) == false)) ul_u1 :: gI (true && (((bAt p0 y5) != (32 : Int)) == false)) (y6.length : Int) :: gB (true && (((bAt p0 y5) != (32 : Int)) == false)) (decide ((0 : Int) < (y6.length : Int))) :: gB (true && (((bAt p0 y5) != (32 : Int)) == false)) (decide ((0 : Int) < (y6.length : Int))) :: gR ((true && (((bAt p0 y5) != (32 : Int)) == false)) && ((decide ((0 : Int) < (y6.length : Int))) == true)) ul_u1 :: gR ((true && (((bAt p0 y5) != (32 : Int)) == false)) && ((decide ((0 : Int) < (y6.length : Int))) == true)) ul_u1 :: gI ((true && (((bAt p0 y5) != (32 : Int)) == false)) && ((decide ((0 : Int) < (y6.length : Int))) == true)) (y6.length : Int) :: gI ((true && (((bAt p0 y5) != (32 : Int)) == false)) && ((decide ((0 : Int) < (y6.length : Int))) == true)) ((y6.length : Int) - (1 : Int)) :: gR ((true && (((bAt p0 y5) != (32 : Int)) == false)) && ((decide ((0 : Int) < (y6.length : Int))) == true)) (vptr ul_u1 (((y6.length : Int) - (1 : Int)).toNat * 1)) :: gU ((true && (((bAt p0 y5) != (32 : Int)) == false)) && ((decide ((0 : Int) < (y6.length : Int))) == true)) (gtD y6 ((y6.length : Int) - (1 : Int))) :: gB ((true && (((bAt p0 y5) != (32 : Int)) == false)) && ((decide ((0 : Int) < (y6.length : Int))) == true)) ((gtD y6 ((y6.length : Int) - (1 : Int))) != (32 : Int)) :: gB (true && (((bAt p0 y5) != (32 : Int)) == false)) x11 :: eB x13 :: []) ?_ ?_
 exact Obls.m h0 <| Obls.m h4 <| Obls.p (fun R' w' hw hs hd => of_strIndex ((f_v0.fr hw).eq (hd.g 0 rfl)) (hd.g 1 rfl) Tryz.underlying9 e8) <| Obls.p (fun R' w' hw hs hd => of_neq (hd.g 0 rfl) rfl) <| Obls.v <| Obls.g 4 false (fun hg R' w' hw hs hd => of_move ((hs 3 rfl).trans h3)) <| Obls.g 4 false (fun hg R' w' hw hs hd => of_len_vec (hO.ok 0 _ rfl).1 (hd.h 0 hg rfl) Tryz.underlying22) <| Obls.g 4 false (fun hg R' w' hw hs hd => of_gtr (hd.h 0 hg rfl) rfl) <| Obls.g 4 false (fun hg R' w' hw hs hd => of_move (hd.h 0 hg rfl)) <| Obls.g 8 true (fun hg R' w' hw hs hd => of_move ((hs 3 rfl).trans h3)) <| Obls.g 8 true (fun hg R' w' hw hs hd => of_move ((hs 3 rfl).trans h3)) <| Obls.g 8 true (fun hg R' w' hw hs hd => of_len_vec (hO.ok 0 _ rfl).1 (hd.h 0 hg rfl) Tryz.underlying22) <| Obls.g 8 true (fun hg R' w' hw hs hd => of_sub (hd.h 0 hg rfl) rfl (gd e9 hg)) <| Obls.g 8 true (fun hg R' w' hw hs hd => of_indexAddr_vec (hO.ok 0 _ rfl).1 (hd.h 0 hg rfl) (hd.h 1 hg rfl) Tryz.underlying22 Tryz.sizeOf5 (gd e10 hg) rfl) <| Obls.g 8 true (fun hg R' w' hw hs hd => OpF.int (of_load_vec ((hO.fr hw).ok 0 _ rfl).1 (hd.h 0 hg rfl) (gd e10 hg) rfl (Fld.id _) rfl Tryz.isAgg5 Tryz.sizeOf5)) <| Obls.g 8 true (fun hg R' w' hw hs hd => of_neq (hd.h 0 hg rfl) rfl) <| Obls.g 4 false (fun hg R' w' hw hs hd => of_pick (decide ((0 : Int) < (y6.length : Int))) (hd.h 0 hg rfl) (fun hc => by have a1 : R' 25 = .bool ((gtD y6 ((y6.length : Int) - (1 : Int))) != (32 : Int)) := hd 1 _ _ _ rfl rfl rfl rfl (g_and hg (beq_of hc)); show _ = Value.bool x11; rw [q12, hc]; exact a1) (fun hc => by show _ = Value.bool x11; rw [q12, hc]; exact rfl)) <| Obls.p (fun R' w' hw hs hd => of_pick ((bAt p0 y5) != (32 : Int)) (hd.g 0 rfl) (fun hc => by show _ = Value.bool x13; rw [q14, hc]; exact rfl) (fun hc => by have a2 : R' 26 = .bool x11 := hd 1 _ _ _ rfl rfl rfl rfl (g_and rfl (beq_of hc)); show _ = Value.bool x13; rw [q14, hc]; exact a2)) <| Obls.nil
 intro R w hw hs hF' hA hF
 obtain ⟨h0, h3, h4, h6, h7⟩ := k5 hs h0 h3 h4 h6 h7
 have h27 := hF'.r 17 rfl
 replace f_v0 := f_v0.fr hw
 replace hO := hO.fr hw
 refine HT.cond x13 h27 (fun c15 => ?_) (fun c15 => ?_)
 have hr := cnd_t c15 hr
 obtain ⟨e16, hr⟩ := ck_some hr
 obtain ⟨e17, hr⟩ := ck_some hr
 refine HT.textR [ob ul_u1 (.vec w0.heap.size 5 (eInt .u8) y6)] (rR ul_u1 :: rR v0 :: rI y5 :: rU (bAt p0 y5) :: (rF fun A => .rep (eSl (eInt .u8)) A ([(bAt p0 y5)] : List Int)) :: ⟨_, true, [0], some (.vec w0.heap.size 5 (eInt .u8) (y6 ++ ([(bAt p0 y5)] : List Int))), true, fun A => .any⟩ :: ⟨_, true, [6], some (.vec w0.heap.size 5 (eInt .u8) (y6 ++ ([(bAt p0 y5)] : List Int))), true, fun A => .any⟩ :: []) (by kernel_rfl) (by kernel_rfl) (Wf.mk' (by kernel_rfl) (ur (ur (ur (ur (up (ua (ua (UAll.nil)))))))) (by kernel_rfl) (by kernel_rfl)) hO hA ?_ ?_
 exact OblsR.m h3 <| OblsR.m h0 <| OblsR.m h4 <| OblsR.p (fun A' R' w' ho hd => of_strIndex ((f_v0.stp ho.stp).eq (hd.g 0 rfl)) (hd.g 1 rfl) Tryz.underlying9 e16) <| OblsR.p (fun A' R' w' ho hd => of_build [_] (E := eInt .u8) ⟨(rep_int.eq (hd.g 0 rfl)), trivial⟩ Tryz.underlying22 Tryz.sizeOf5 Tryz.zeroValue5 rfl rfl rfl ho.av) <| OblsR.cons (OblR.took 0 _ _ rfl rfl rfl rfl rfl fun A' R' w' ho hd u hok hav hin hop hds => by have a0 : R' 28 = ul_u1 := hd.g 0 rfl; have a1 : Rep (eSl (eInt .u8)) A' w' (R' 32) ([(bAt p0 y5)] : List Int) := hd.g 1 rfl; exact took_append (a0.trans (hin _ rfl).symm) hok hav (Nat.le_trans hF.size ho.ch.size) a1 Tryz.underlying22 el_5 e17) <| OblsR.cons (OblR.took 6 _ _ rfl rfl rfl rfl rfl fun A' R' w' ho hd u hok hav hin hop hds => by exact took_assign (hop _ _ rfl rfl rfl rfl).symm hok hav) <| OblsR.nil
 intro done ρ σ A R w hdn hI
 obtain ⟨h0, h6, h7⟩ := k3 hI.rg h0 h6 h7
 obtain ⟨u18, e_u18⟩ : ∃ u, ρ 7 = u := ⟨_, rfl⟩
 have h3 : R 3 = u18 := (hI.opvR hdn 7 6 rfl rfl rfl rfl rfl).symm.trans e_u18
 replace f_v0 := f_v0.stp hI.stp
 replace hAA := hI.low' hAA hA0 (hO.ge (⟨rfl, trivial⟩))
 replace hF : Fr w0 w := hF.tr hI.ch (hO.ge (⟨rfl, trivial⟩))
 replace hO := hI.left hdn [(7, ob u18 (.vec w0.heap.size 5 (eInt .u8) (y6 ++ ([(bAt p0 y5)] : List Int))))] ⟨rfl, rfl, e_u18, rfl, rfl, trivial⟩
 replace hA := hI.avok
 clear hI
 obtain ⟨e19, hr⟩ := ck_some hr
 refine HT.u hA hF (eI (y5 + (1 : Int)) :: eI (y5 + (1 : Int)) :: []) ?_ ?_
 exact Obls.p (fun R' w' hw hs hd => of_add ((hs 7 rfl).trans h7) rfl e19) <| Obls.v <| Obls.nil
 intro R w hw hs hF' hA hF
 obtain ⟨h0, h3, h6⟩ := k3 hs h0 h3 h6
 have h7 := hF'.r 1 rfl
 replace f_v0 := f_v0.fr hw
 replace hO := hO.fr hw
 exact Exists.intro k (And.intro (Nat.lt_succ_self k) ⟨_, _, _, u18, hr, hA, hF, hAA, hO, h0, h3, h6, h7, f_v0⟩)
 have hr := cnd_f c15 hr
 refine HT.skip ?_
 obtain ⟨e20, hr⟩ := ck_some hr
 refine HT.u hA hF (eI (y5 + (1 : Int)) :: eI (y5 + (1 : Int)) :: []) ?_ ?_
 exact Obls.p (fun R' w' hw hs hd => of_add ((hs 7 rfl).trans h7) rfl e20) <| Obls.v <| Obls.nil
 intro R w hw hs hF' hA hF
 obtain ⟨h0, h3, h6⟩ := k3 hs h0 h3 h6
 have h7 := hF'.r 1 rfl
 replace f_v0 := f_v0.fr hw
 replace hO := hO.fr hw
 exact Exists.intro k (And.intro (Nat.lt_succ_self k) ⟨_, _, _, ul_u1, hr, hA, hF, hAA, hO, h0, h3, h6, h7, f_v0⟩)
 have hr := cnd_f c7 hr
 refine HT.exit ?_
 obtain rfl := Option.some.inj hr
 exact Exists.intro _ ⟨_, ul_u1, rfl, hA, hF, hAA, hO, h3⟩
 rintro R w ⟨A, s4, uo_u1, es, hA, hF, hAA, hO, h3⟩
 obtain rfl := es.symm
 refine HT.seq ?_
 obtain ⟨x21, q22, hr⟩ := cl_some hr
 refine HT.u hA hF (eR uo_u1 :: eF (.rep eStr A (strB s4)) :: eF (.rep eStr A x21) :: eF (.rep eStr A x21) :: []) ?_ ?_
 exact Obls.m h3 <| Obls.p (fun R' w' hw hs hd => of_conv_bytes ((vec_rep ((hO.fr hw).ok 0 _ rfl).1 hAA hA0).eq (hd.g 0 rfl)) Tryz.underlying22 Tryz.underlying5 Tryz.underlying9) <| Obls.p (fun R' w' hw hs hd => of_call Tryz.call291 (M_strings_TrimSuffix_ok (q22 rfl) (hA.fr hw.size) (hd.g 0 rfl) ⟨_, rfl, ⟨_, rfl, rfl, by decide⟩⟩)) <| Obls.p (fun R' w' hw hs hd => of_assign (hd.g 0 rfl)) <| Obls.nil
 intro R w hw hs hF' hA hF
 obtain ⟨u23, h2, f_u23⟩ : ∃ u, R 2 = u ∧ Rep eStr A w u x21 := ⟨_, rfl, hF' 3 _ _ rfl rfl rfl⟩
 replace hO := hO.fr hw
 replace hO : IniOK [] A w := hO.sub [] trivial
 refine HT.ret ?_
 obtain rfl := Option.some.inj hr
 exact ⟨.inr rfl, [R 2], ⟨rfl, trivial⟩, (f_u23.eq h2).down hAA, hF⟩
def M_impl_Normalize (fu : Nat) (p0 : List UInt8) : Option (List UInt8) :=
 cl true (M_impl_FoldCase fu p0) fun x1 =>
 cl true (M_impl_StripMarks fu x1) fun x3 =>
 cl true (M_impl_CollapseSpaces fu x3) fun x5 =>
 some x5
theorem M_impl_Normalize_ok {fu : Nat} {A : Av} {p0 : List UInt8} {r : List UInt8} (hr : M_impl_Normalize fu p0 = some r) {w : World} {v0 : Value} (hA : AvOK A w) (hG : GTab w) (h0 : Rep eStr A w v0 p0) :
 Calls Tryz.prog 218 #[v0] w fun e w' => ∃ v, e = .returned v ∧ (Rep eStr A w' v r ∧ Fr w w') := by
 unfold M_impl_Normalize at hr
 obtain ⟨w0, hw0⟩ : ∃ w0, w0 = w := ⟨_, rfl⟩
 have hF : Fr w0 w := hw0 ▸ Fr.refl _
 rw [show Fr w = Fr w0 from hw0 ▸ rfl]
 have hG0 : GTab w0 := hw0 ▸ hG
 clear hw0
 refine calls_of_HT2 [.tmp 2] Tryz.func218 Tryz.ntmps218 (by decide) rfl rfl (Nat.le_of_ble_eq_true rfl) ?_
 intro R hR
 have f_v0 := h0
 replace h0 : R 0 = v0 := hR 0 _ rfl
 clear hR
 refine HT.seq ?_
 refine HT.u hA hF (eF (.rep eStr A ([] : List UInt8)) :: []) ?_ ?_
 exact Obls.p (fun R' w' hw hs hd => of_assign ⟨_, rfl, ⟨_, rfl, rfl, by decide⟩⟩) <| Obls.nil
 intro R w hw hs hF' hA hF
 replace h0 := k1 hs h0
 replace f_v0 := f_v0.fr hw
 refine HT.seq ?_
 obtain ⟨x1, q2, hr⟩ := cl_some hr
 obtain ⟨x3, q4, hr⟩ := cl_some hr
 obtain ⟨x5, q6, hr⟩ := cl_some hr
 refine HT.u hA hF (eR v0 :: eF (.rep eStr A x1) :: eF (.rep eStr A x3) :: eF (.rep eStr A x5) :: eF (.rep eStr A x5) :: []) ?_ ?_
 exact Obls.m h0 <| Obls.p (fun R' w' hw hs hd => of_call Tryz.call247 (M_impl_FoldCase_ok (q2 rfl) (hA.fr hw.size) ((f_v0.fr hw).eq (hd.g 0 rfl)))) <| Obls.p (fun R' w' hw hs hd => of_call Tryz.call253 (M_impl_StripMarks_ok (q4 rfl) (hA.fr hw.size) (hG0.fr (hF.trans hw)) (hd.g 0 rfl))) <| Obls.p (fun R' w' hw hs hd => of_call Tryz.call252 (M_impl_CollapseSpaces_ok (q6 rfl) (hA.fr hw.size) (hd.g 0 rfl))) <| Obls.p (fun R' w' hw hs hd => of_assign (hd.g 0 rfl)) <| Obls.nil
 intro R w hw hs hF' hA hF
 obtain ⟨u7, h2, f_u7⟩ : ∃ u, R 2 = u ∧ Rep eStr A w u x5 := ⟨_, rfl, hF' 4 _ _ rfl rfl rfl⟩
 refine HT.ret ?_
 obtain rfl := Option.some.inj hr
 exact ⟨.inr rfl, [R 2], ⟨rfl, trivial⟩, (f_u7.eq h2), hF⟩
def M_impl_words_1 (fu : Nat) (p0 : Int) : Option Bool :=
 some (p0 == 32)
theorem M_impl_words_1_ok {fu : Nat} {A : Av} {p0 : Int} {r : Bool} (hr : M_impl_words_1 fu p0 = some r) {w : World} {v0 : Value} (hA : AvOK A w) (h0 : v0 = .int .i32 p0) :
 Calls Tryz.prog 251 #[v0] w fun e w' => ∃ v, e = .returned v ∧ (v = .bool r ∧ Fr w w') := by
 unfold M_impl_words_1 at hr
 obtain ⟨w0, hw0⟩ : ∃ w0, w0 = w := ⟨_, rfl⟩
 have hF : Fr w0 w := hw0 ▸ Fr.refl _
 rw [show Fr w = Fr w0 from hw0 ▸ rfl]
 clear hw0
 refine calls_of_HT2 [.tmp 2] Tryz.func251 Tryz.ntmps251 (by decide) rfl rfl (Nat.le_of_ble_eq_true rfl) ?_
 intro R hR
 replace h0 : R 0 = .int .i32 p0 := (hR 0 _ rfl).trans h0
 clear hR
 refine HT.seq ?_
 refine HT.u hA hF (eB false :: []) ?_ ?_
 exact Obls.p (fun R' w' hw hs hd => of_assign rfl) <| Obls.nil
 intro R w hw hs hF' hA hF
 replace h0 := k1 hs h0
 refine HT.seq ?_
 refine HT.u hA hF (eR (.int .i32 p0) :: eB (p0 == (32 : Int)) :: eB (p0 == (32 : Int)) :: []) ?_ ?_
 exact Obls.m h0 <| Obls.p (fun R' w' hw hs hd => of_eql (hd.g 0 rfl) rfl) <| Obls.a <| Obls.nil
 intro R w hw hs hF' hA hF
 have h2 := hF'.r 2 rfl
 refine HT.ret ?_
 obtain rfl := Option.some.inj hr
 exact ⟨.inr rfl, [R 2], ⟨rfl, trivial⟩, h2, hF⟩
def M_impl_words (fu : Nat) (p0 : List UInt8) : Option (List (List UInt8)) :=
 cl true (M_fields fu p0 (fun x => M_impl_words_1 fu x)) fun x1 =>
 some x1
theorem M_impl_words_ok {fu : Nat} {A : Av} {p0 : List UInt8} {r : List (List UInt8)} (hr : M_impl_words fu p0 = some r) {w : World} {v0 : Value} (hA : AvOK A w) (h0 : Rep eStr A w v0 p0) :
 Calls Tryz.prog 217 #[v0] w fun e w' => ∃ v, e = .returned v ∧ (Rep (eSl eStr) A w' v r ∧ Fr w w') := by
 unfold M_impl_words at hr
 obtain ⟨w0, hw0⟩ : ∃ w0, w0 = w := ⟨_, rfl⟩
 have hF : Fr w0 w := hw0 ▸ Fr.refl _
 rw [show Fr w = Fr w0 from hw0 ▸ rfl]
 clear hw0
 refine calls_of_HT2 [.tmp 2] Tryz.func217 Tryz.ntmps217 (by decide) rfl rfl (Nat.le_of_ble_eq_true rfl) ?_
 intro R hR
 have f_v0 := h0
 replace h0 : R 0 = v0 := hR 0 _ rfl
 clear hR
 refine HT.seq ?_
 refine HT.u hA hF (eF (.rep (eSl eStr) A ([] : List (List UInt8))) :: []) ?_ ?_
 exact Obls.p (fun R' w' hw hs hd => of_assign rep_nil) <| Obls.nil
 intro R w hw hs hF' hA hF
 replace h0 := k1 hs h0
 replace f_v0 := f_v0.fr hw
 refine HT.seq ?_
 obtain ⟨x1, q2, hr⟩ := cl_some hr
 refine HT.u hA hF (eR v0 :: eF (.rep (eSl eStr) A x1) :: eF (.rep (eSl eStr) A x1) :: []) ?_ ?_
 exact Obls.m h0 <| Obls.p (fun R' w' hw hs hd => of_call Tryz.call250 (M_fields_ok (q2 rfl) (hA.fr hw.size) ((f_v0.fr hw).eq (hd.g 0 rfl)) (fnb1_of [] rfl Tryz.call251 (fun x r hr' w'' a hF' hA' ha => M_impl_words_1_ok hr' hA' (rep_int_eq ha))))) <| Obls.p (fun R' w' hw hs hd => of_assign (hd.g 0 rfl)) <| Obls.nil
 intro R w hw hs hF' hA hF
 obtain ⟨u3, h2, f_u3⟩ : ∃ u, R 2 = u ∧ Rep (eSl eStr) A w u x1 := ⟨_, rfl, hF' 2 _ _ rfl rfl rfl⟩
 refine HT.ret ?_
 obtain rfl := Option.some.inj hr
 exact ⟨.inr rfl, [R 2], ⟨rfl, trivial⟩, (f_u3.eq h2), hF⟩
end Go.Proofs.YtcodfkieaoomnaaGreatDoor
