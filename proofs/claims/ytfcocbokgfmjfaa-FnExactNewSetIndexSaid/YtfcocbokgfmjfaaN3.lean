/- Printed by dec.py: plain functions and the proofs that the code computes them. No statement of the seat is proved here. -/
import Derived.Test.YtfcocbokgfmjfaaN2
namespace Go.Proofs.Ytfcocbokgfmjfaa
open Go.RowKit
set_option linter.unusedVariables false
set_option maxRecDepth 100000
set_option maxHeartbeats 4000000
def M_laws_FnExactNewSetIndex (fu : Nat) (p0 : List T_impl_TokenCount) (p1 : Int) : Option Bool :=
 cl true (M_laws_szTokenCountS fu p0 (1048576 : Int)) fun x1 =>
 bif (decide (x1 < (0 : Int))) then (
  some true
 ) else (
  cl true (M_laws_toTokenCountS fu p0) fun x4 =>
  cl true (M_spec_NewSetIndex fu x4 p1) fun x6 =>
  cl true (M_laws_toTokenCountS fu p0) fun x10 =>
  cl true (M_impl_NewSetIndex fu x10 p1) fun x16 =>
  cl true (M_laws_eqSetIndex fu x16.1 x6.1) fun x27 =>
  bd ((!x27) || (x16.2 != x6.2)) fun x29 =>
  bif x29 then (
   some false
  ) else (
   cl true (M_laws_toTokenCountS fu p0) fun x32 =>
   cl true (M_laws_eqTokenCountS fu x10 x32) fun x34 =>
   bif (!x34) then (
    some false
   ) else (
    cl true (M_laws_markTokenCountS fu x10 (1 : Int)) fun x37 =>
    cl (true && ((decide (x37.1 < (0 : Int))) == false)) (M_laws_eqSetIndex fu x16.1 x6.1) fun x45 =>
    bd ((decide (x37.1 < (0 : Int))) || (!x45)) fun x47 =>
    bd (x47 || (x16.2 != x6.2)) fun x49 =>
    bif x49 then (
     some false
    ) else (
     cl true (M_laws_markSetIndex fu x16.1 (1 : Int)) fun x54 =>
     cl true (M_laws_heldSetIndex fu x54.2 (1 : Int)) fun x62 =>
     bif (decide (x62 < (0 : Int))) then (
      some false
     ) else (
      bif (x62 != x54.1) then (
       some false
      ) else (
       cl true (M_laws_toTokenCountS fu p0) fun x66 =>
       cl true (M_impl_NewSetIndex fu x66 p1) fun x68 =>
       cl true (M_laws_eqSetIndex fu x68.1 x6.1) fun x74 =>
       bd ((!x74) || (x68.2 != x6.2)) fun x76 =>
       bif x76 then (
        some false
       ) else (
        cl true (M_laws_heldSetIndex fu x54.2 (1 : Int)) fun x81 =>
        bif (decide (x81 < (0 : Int))) then (
         some false
        ) else (
         bif (x81 != x54.1) then (
          some false
         ) else (
          some true
         )
        )
       )
      )
     )
    )
   )
  )
 )
theorem M_laws_FnExactNewSetIndex_ok {fu : Nat} {A0 : Av} {p0 : List T_impl_TokenCount} {p1 : Int} {r : Bool} (hr : M_laws_FnExactNewSetIndex fu p0 p1 = some r) {w : World} {v0 : Value} {v1 : Value} (hA : AvOK A0 w) (h0 : Rep (eSl E_impl_TokenCount) A0 w v0 p0) (h1 : v1 = .int .i64 p1) :
  Calls Try.prog 7 #[v0, v1] w fun e w' => ∃ v, e = .returned v ∧ (v = .bool r ∧ Fr w w') := by
 unfold M_laws_FnExactNewSetIndex at hr
 obtain ⟨w0, hw0⟩ : ∃ w0, w0 = w := ⟨_, rfl⟩
 have hF : Fr w0 w := hw0 ▸ Fr.refl _
 have hA0 : ∀ b o, A0 b o → b < w0.heap.size := fun b o h => hw0 ▸ hA b o h
 have hA00 : AvOK A0 w0 := hA0
 rw [show Fr w = Fr w0 from hw0 ▸ rfl]
 clear hw0
 obtain ⟨A, hAe⟩ : ∃ A, A = A0 := ⟨_, rfl⟩
 have hAA : ∀ b o, A0 b o → A b o := fun b o h => hAe ▸ h
 replace hA : AvOK A w := hAe ▸ hA
 have hO : IniOK [] A w := IniOK.nil
 refine calls_of_HT2 [.tmp 4] Try.func7 Try.ntmps7 (by decide) rfl rfl (Nat.le_of_ble_eq_true rfl) ?_
 intro R hR
 have f_v0 : Rep (eSl E_impl_TokenCount) A w v0 p0 := hAe ▸ h0
 replace h0 : R 0 = v0 := hR 0 _ rfl
 replace h1 : R 1 = .int .i64 p1 := (hR 1 _ rfl).trans h1
 clear hR hAe
 refine HT.seq ?_
 refine HT.text (l := ⟨_, true, .raw (.bool false)⟩ :: []) (tl := []) (by kernel_rfl) (by kernel_rfl) (by kernel_rfl) ?_ ?_
 ·exact
   Obls.p (fun R' w' hw hs hd => of_assign rfl) <|
   Obls.nil
 intro R w hw hs hF'
 replace h0 := (hs 0 rfl).trans h0
 replace h1 := (hs 1 rfl).trans h1
 replace f_v0 := f_v0.fr hw
 replace hO := hO.fr hw
 replace hA := hA.fr hw.size
 replace hF := hF.trans hw
 clear hs hF' hw
 refine seqR_nil ?_
 refine HT.seq ?_
 refine HT.text (l := ⟨_, true, .raw (.int .i64 (1048576 : Int))⟩ :: []) (tl := []) (by kernel_rfl) (by kernel_rfl) (by kernel_rfl) ?_ ?_
 ·exact
   Obls.p (fun R' w' hw hs hd => of_assign rfl) <|
   Obls.nil
 intro R w hw hs hF'
 replace h0 := (hs 0 rfl).trans h0
 replace h1 := (hs 1 rfl).trans h1
 have h5 : R 5 = .int .i64 (1048576 : Int) := hF' 0 _ _ rfl rfl rfl
 replace f_v0 := f_v0.fr hw
 replace hO := hO.fr hw
 replace hA := hA.fr hw.size
 replace hF := hF.trans hw
 clear hs hF' hw
 refine seqR_nil ?_
 refine HT.seq ?_
 obtain ⟨x1, q2, hr⟩ := cl_some hr
 refine HT.text (l := ⟨_, true, .raw v0⟩ :: ⟨_, true, .raw (.int .i64 (1048576 : Int))⟩ :: ⟨_, true, .raw (.int .i64 x1)⟩ :: ⟨_, true, .raw (.int .i64 x1)⟩ :: []) (tl := []) (by kernel_rfl) (by kernel_rfl) (by kernel_rfl) ?_ ?_
 ·exact
   Obls.p (fun R' w' hw hs hd => of_move ((hs 0 rfl).trans h0)) <|
   Obls.p (fun R' w' hw hs hd => of_move ((hs 5 rfl).trans h5)) <|
   Obls.p (fun R' w' hw hs hd => by have a0 : R' 16 = v0 := hd.g 0 rfl; have ra0 := (f_v0.fr hw).eq a0; have a1 : R' 17 = .int .i64 (1048576 : Int) := hd.g 1 rfl; exact of_call Try.call13 (M_laws_szTokenCountS_ok (q2 rfl) (hA.fr hw.size) ra0 a1)) <|
   Obls.p (fun R' w' hw hs hd => by have a0 : R' 18 = .int .i64 x1 := hd.g 0 rfl; exact of_assign a0) <|
   Obls.nil
 intro R w hw hs hF'
 replace h0 := (hs 0 rfl).trans h0
 replace h1 := (hs 1 rfl).trans h1
 have h5 : R 5 = .int .i64 x1 := hF' 3 _ _ rfl rfl rfl
 replace f_v0 := f_v0.fr hw
 replace hO := hO.fr hw
 replace hA := hA.fr hw.size
 replace hF := hF.trans hw
 clear hs hF' hw
 refine seqR_nil ?_
 refine HT.seq ?_
 refine HT.seq ?_
 refine HT.text (l := ⟨_, true, .raw (.int .i64 x1)⟩ :: ⟨_, true, .raw (.bool (decide (x1 < (0 : Int))))⟩ :: []) (tl := []) (by kernel_rfl) (by kernel_rfl) (by kernel_rfl) ?_ ?_
 ·exact
   Obls.p (fun R' w' hw hs hd => of_move ((hs 5 rfl).trans h5)) <|
   Obls.p (fun R' w' hw hs hd => by have a0 : R' 19 = .int .i64 x1 := hd.g 0 rfl; exact of_lss a0 rfl) <|
   Obls.nil
 intro R w hw hs hF'
 replace h0 := (hs 0 rfl).trans h0
 replace h1 := (hs 1 rfl).trans h1
 have h20 : R 20 = .bool (decide (x1 < (0 : Int))) := hF' 1 _ _ rfl rfl rfl
 replace f_v0 := f_v0.fr hw
 replace hO := hO.fr hw
 replace hA := hA.fr hw.size
 replace hF := hF.trans hw
 clear hs hF' hw
 refine seqR_nil ?_
 refine HT.cond (decide (x1 < (0 : Int))) h20 (fun c3 => ?_) (fun c3 => ?_)
 ·have hr := cnd_t c3 hr
  refine HT.seq ?_
  refine HT.text (l := ⟨_, true, .raw (.bool true)⟩ :: []) (tl := []) (by kernel_rfl) (by kernel_rfl) (by kernel_rfl) ?_ ?_
  ·exact
    Obls.p (fun R' w' hw hs hd => of_assign rfl) <|
    Obls.nil
  intro R w hw hs hF'
  have h4 : R 4 = .bool true := hF' 0 _ _ rfl rfl rfl
  replace hO := hO.fr hw
  replace hA := hA.fr hw.size
  replace hF := hF.trans hw
  clear hs hF' hw
  refine seqR_nil ?_
  refine HT.ret ?_
  obtain rfl := Option.some.inj hr
  exact ⟨.inr rfl, [R 4], ⟨rfl, trivial⟩, h4, hF⟩
 ·have hr := cnd_f c3 hr
  refine HT.skip ?_
  refine HT.seq ?_
  obtain ⟨x4, q5, hr⟩ := cl_some hr
  obtain ⟨x6, q7, hr⟩ := cl_some hr
  refine HT.textR [] (⟨_, true, [], none, true, fun A => .raw v0⟩ :: ⟨_, true, [], none, true, fun A => .rep (eSl E_impl_TokenCount) A x4⟩ :: ⟨_, true, [], none, true, fun A => .raw (.int .i64 p1)⟩ :: ⟨_, true, [], none, true, fun A => .tup2 (.rep E_impl_SetIndex A x6.1) (.raw (.bool x6.2))⟩ :: ⟨_, true, [], none, true, fun A => .tup2 (.rep E_impl_SetIndex A x6.1) (.raw (.bool x6.2))⟩ :: ⟨_, true, [], none, true, fun A => .rep E_impl_SetIndex A x6.1⟩ :: ⟨_, true, [], none, true, fun A => .raw (.bool x6.2)⟩ :: ⟨_, true, [], some (.box w0.heap.size 49 E_impl_SetIndex ((0 : Int), (([] : List T_impl_TokenCount), ([] : List T_impl_IndexedSet)))), true, fun A => .any⟩ :: ⟨_, true, [7], some (.box w0.heap.size 49 E_impl_SetIndex x6.1), false, fun A => .any⟩ :: ⟨_, true, [], none, true, fun A => .raw (.bool x6.2)⟩ :: []) (by kernel_rfl) (by kernel_rfl) (Wf.mk' (by kernel_rfl) (UAll.cons ust_raw (UAll.cons ust_rep (UAll.cons ust_raw (UAll.cons (ust_tup2 ust_rep ust_raw) (UAll.cons (ust_tup2 ust_rep ust_raw) (UAll.cons ust_rep (UAll.cons ust_raw (UAll.cons ust_any (UAll.cons ust_any (UAll.cons ust_raw (UAll.nil))))))))))) (by kernel_rfl) (by kernel_rfl)) hO hA ?_ ?_
  ·exact
    OblsR.p (fun A' R' w' ho hd => of_move ((ho.old 0 rfl).trans h0)) <|
    OblsR.p (fun A' R' w' ho hd => by have a0 : R' 22 = v0 := hd.g 0 rfl; have ra0 := (f_v0.stp ho.stp).eq a0; exact of_call Try.call16 (M_laws_toTokenCountS_okR (q5 rfl) ho.av ra0)) <|
    OblsR.p (fun A' R' w' ho hd => of_move ((ho.old 1 rfl).trans h1)) <|
    OblsR.p (fun A' R' w' ho hd => by have a0 : Rep (eSl E_impl_TokenCount) A' w' (R' 23) x4 := hd.g 0 rfl; have a1 : R' 24 = .int .i64 p1 := hd.g 1 rfl; exact of_call Try.call38 (M_spec_NewSetIndex_ok (q7 rfl) ho.av a0 a1)) <|
    OblsR.p (fun A' R' w' ho hd => by have a0 : Fact.ok (.tup2 (.rep E_impl_SetIndex A' x6.1) (.raw (.bool x6.2))) (R' 25) w' := hd.g 0 rfl; exact of_move a0) <|
    OblsR.p (fun A' R' w' ho hd => by have a0 : Fact.ok (.tup2 (.rep E_impl_SetIndex A' x6.1) (.raw (.bool x6.2))) (R' 21) w' := hd.g 0 rfl; exact of_extract2_0 a0) <|
    OblsR.p (fun A' R' w' ho hd => by have a0 : Fact.ok (.tup2 (.rep E_impl_SetIndex A' x6.1) (.raw (.bool x6.2))) (R' 21) w' := hd.g 0 rfl; exact of_extract2_1 a0) <|
    OblsR.cons (OblR.made _ rfl rfl rfl rfl fun A' R' w' ho hd => by exact made_alloc Try.zeroValue49 (fun A w => rep_pr rep1_int (rep_pr rep1_nil rep1_nil)) (Nat.le_trans hF.size ho.ch.size)) <|
    OblsR.cons (OblR.took 7 _ _ rfl rfl rfl rfl rfl fun A' R' w' ho hd u hok hav hin hop hds => by have a1 : Rep E_impl_SetIndex A' w' (R' 26) x6.1 := hd.g 1 rfl; obtain ⟨b, hb, hB', hbx⟩ := hok; have hop' := hop _ _ rfl rfl rfl rfl; exact took_store a1 (hop'.symm.trans hb) hb ⟨b, hb, hB', hbx⟩ hav (FldS.id _) Try.sizeOf49 rfl) <|
    OblsR.p (fun A' R' w' ho hd => by have a0 : R' 27 = .bool x6.2 := hd.g 0 rfl; exact of_assign a0) <|
    OblsR.nil
  intro done ρ σ A R w hdn hI
  replace h0 : R 0 = v0 := (hI.reg rfl).trans h0
  replace h1 : R 1 = .int .i64 p1 := (hI.reg rfl).trans h1
  obtain ⟨b6_7, e_b6_7⟩ := hI.boxv hdn 8 rfl rfl
  have z9 := (hI.opnR hdn 8 8 rfl rfl rfl rfl rfl).symm.trans e_b6_7
  have h6 : R 6 = (.pointer (some ⟨b6_7, 0, none⟩)) := (hI.opvR hdn 7 7 rfl rfl rfl rfl rfl).symm.trans z9
  have h7 : R 7 = .bool x6.2 := hI.fact hdn (i := 9) rfl rfl rfl
  replace f_v0 := f_v0.stp hI.stp
  replace hAA := hI.low' hAA hA0 (hO.ge (trivial))
  replace hF : Fr w0 w := hF.tr hI.ch (hO.ge (trivial))
  replace hO : IniOK [ob (.pointer (some ⟨b6_7, 0, none⟩)) (.box w0.heap.size 49 E_impl_SetIndex x6.1)] A w := hI.left hdn [(8, ob (.pointer (some ⟨b6_7, 0, none⟩)) (.box w0.heap.size 49 E_impl_SetIndex x6.1))] ⟨rfl, rfl, e_b6_7, rfl, rfl, trivial⟩
  replace hA := hI.avok
  clear hI
  refine HT.seq ?_
  obtain ⟨x10, q11, hr⟩ := cl_some hr
  refine HT.textR [ob (.pointer (some ⟨b6_7, 0, none⟩)) (.box w0.heap.size 49 E_impl_SetIndex x6.1)] (⟨_, true, [], none, true, fun A => .raw v0⟩ :: ⟨_, true, [], some (.vec w0.heap.size 76 E_impl_TokenCount x10), true, fun A => .any⟩ :: ⟨_, true, [2], some (.vec w0.heap.size 76 E_impl_TokenCount x10), true, fun A => .any⟩ :: []) (by kernel_rfl) (by kernel_rfl) (Wf.mk' (by kernel_rfl) (UAll.cons ust_raw (UAll.cons ust_any (UAll.cons ust_any (UAll.nil)))) (by kernel_rfl) (by kernel_rfl)) hO hA ?_ ?_
  ·exact
    OblsR.p (fun A' R' w' ho hd => of_move ((ho.old 0 rfl).trans h0)) <|
    OblsR.cons (OblR.made _ rfl rfl rfl rfl fun A' R' w' ho hd => by have a0 : R' 28 = v0 := hd.g 0 rfl; have ra0 := (f_v0.stp ho.stp).eq a0; exact made_call Try.call16 (M_laws_toTokenCountS_ok (q11 rfl) ho.av ra0) (Nat.le_trans hF.size ho.ch.size)) <|
    OblsR.cons (OblR.took 2 _ _ rfl rfl rfl rfl rfl fun A' R' w' ho hd u hok hav hin hop hds => by exact took_assign (hop _ _ rfl rfl rfl rfl).symm hok hav) <|
    OblsR.nil
  intro done ρ σ A R w hdn hI
  replace h0 : R 0 = v0 := (hI.reg rfl).trans h0
  replace h1 : R 1 = .int .i64 p1 := (hI.reg rfl).trans h1
  replace h6 : R 6 = (.pointer (some ⟨b6_7, 0, none⟩)) := (hI.reg rfl).trans h6
  replace h7 : R 7 = .bool x6.2 := (hI.reg rfl).trans h7
  have z12 := hI.inivR 0 rfl
  obtain ⟨u13, e_u13⟩ : ∃ u, ρ 3 = u := ⟨_, rfl⟩
  have h8 : R 8 = u13 := (hI.opvR hdn 3 2 rfl rfl rfl rfl rfl).symm.trans e_u13
  replace f_v0 := f_v0.stp hI.stp
  replace hAA := hI.low' hAA hA0 (hO.ge (⟨rfl, trivial⟩))
  replace hF : Fr w0 w := hF.tr hI.ch (hO.ge (⟨rfl, trivial⟩))
  replace hO : IniOK [ob (.pointer (some ⟨b6_7, 0, none⟩)) (.box w0.heap.size 49 E_impl_SetIndex x6.1), ob u13 (.vec w0.heap.size 76 E_impl_TokenCount x10)] A w := hI.left hdn [(0, ob (.pointer (some ⟨b6_7, 0, none⟩)) (.box w0.heap.size 49 E_impl_SetIndex x6.1)), (3, ob u13 (.vec w0.heap.size 76 E_impl_TokenCount x10))] ⟨rfl, rfl, z12, rfl, rfl, ⟨rfl, rfl, e_u13, rfl, rfl, trivial⟩⟩
  replace hA := hI.avok
  clear hI
  refine HT.seq ?_
  refine SG.of ?_
  refine SG.textR [ob (.pointer (some ⟨b6_7, 0, none⟩)) (.box w0.heap.size 49 E_impl_SetIndex x6.1), ob u13 (.vec w0.heap.size 76 E_impl_TokenCount x10)] (⟨_, true, [], none, true, fun A => .raw u13⟩ :: ⟨_, true, [], none, true, fun A => .raw (.int .i64 p1)⟩ :: []) 2 rfl rfl rfl (by kernel_rfl) (by kernel_rfl) (Wf.mk' (by kernel_rfl) (UAll.cons ust_raw (UAll.cons ust_raw (UAll.nil))) (by kernel_rfl) (by kernel_rfl)) hO hA (trivial) ?_ ?_
  ·exact
    OblsR.p (fun A' R' w' ho hd => of_move ((ho.old 8 rfl).trans h8)) <|
    OblsR.p (fun A' R' w' ho hd => of_move ((ho.old 1 rfl).trans h1)) <|
    OblsR.nil
  intro done ρ σ A R w hdn hI
  replace h0 : R 0 = v0 := (hI.reg rfl).trans h0
  replace h1 : R 1 = .int .i64 p1 := (hI.reg rfl).trans h1
  replace h6 : R 6 = (.pointer (some ⟨b6_7, 0, none⟩)) := (hI.reg rfl).trans h6
  replace h7 : R 7 = .bool x6.2 := (hI.reg rfl).trans h7
  replace h8 : R 8 = u13 := (hI.reg rfl).trans h8
  have z14 := hI.inivR 0 rfl
  have z15 := hI.inivR 1 rfl
  have h31 : R 31 = u13 := hI.fact hdn (i := 0) rfl rfl rfl
  have h32 : R 32 = .int .i64 p1 := hI.fact hdn (i := 1) rfl rfl rfl
  replace f_v0 := f_v0.stp hI.stp
  replace hAA := hI.low' hAA hA0 (hO.ge (⟨rfl, ⟨rfl, trivial⟩⟩))
  replace hF : Fr w0 w := hF.tr hI.ch (hO.ge (⟨rfl, ⟨rfl, trivial⟩⟩))
  replace hO : IniOK [ob (.pointer (some ⟨b6_7, 0, none⟩)) (.box w0.heap.size 49 E_impl_SetIndex x6.1), ob u13 (.vec w0.heap.size 76 E_impl_TokenCount x10)] A w := hI.left hdn [(0, ob (.pointer (some ⟨b6_7, 0, none⟩)) (.box w0.heap.size 49 E_impl_SetIndex x6.1)), (1, ob u13 (.vec w0.heap.size 76 E_impl_TokenCount x10))] ⟨rfl, rfl, z14, rfl, rfl, ⟨rfl, rfl, z15, rfl, rfl, trivial⟩⟩
  replace hA := hI.avok
  clear hI
  obtain ⟨x16, q17, hr⟩ := cl_some hr
  have hFz : w0.heap.size ≤ w.heap.size := hF.size
  refine SG.op 33 rfl rfl rfl rfl (call_run Try.call39 (M_impl_NewSetIndex_ok (q17 rfl) (hA00.fr hF.size) ((vec_rep (hO.ok 1 _ rfl).1 hAA hA0).eq h31) h32)) ?_
  rintro v_ w ⟨u18, S19, A1, hG1, hv⟩ R hs hd
  obtain ⟨A, hA2, hO2, hst, hA3⟩ := GPost.next0P hO hA hG1 ⟨obpure_tr (pure_pr (pure_rd (fun _ _ _ _ _ h => h)) (pure_pr (pure_sl (pure_rd (fun _ _ _ _ _ h => h))) (pure_sl (pure_pr (pure_rd (fun _ _ _ _ _ h => h)) (pure_sl (pure_rd (fun _ _ _ _ _ h => h))))))), trivial⟩
  replace hO := hO2
  replace hA := hA3
  replace hAA : ∀ b o, A0 b o → A b o := fun b o h => hA2 b o (hAA b o h)
  replace hF : Fr w0 w := hF.trans hG1.ch.no
  replace hO := hO.reK (K' := geB w0.heap.size) 0 rfl (fun k hk => Nat.le_trans hFz hk)
  replace hO : IniOK [⟨u18, S19, trR (geB w0.heap.size) (oPr (oRd (eInt .i64)) (oPr (oSl 76 (oRd E_impl_TokenCount)) (oSl 91 (oPr (oRd (eInt .i64)) (oSl 9 (oRd eStr)))))) x16.1 []⟩, ob (.pointer (some ⟨b6_7, 0, none⟩)) (.box w0.heap.size 49 E_impl_SetIndex x6.1), ob u13 (.vec w0.heap.size 76 E_impl_TokenCount x10)] A w := hO
  replace h0 := (hs 0 rfl).trans h0
  replace h1 := (hs 1 rfl).trans h1
  replace h6 := (hs 6 rfl).trans h6
  replace h7 := (hs 7 rfl).trans h7
  replace h8 := (hs 8 rfl).trans h8
  replace h31 := (hs 31 rfl).trans h31
  replace h32 := (hs 32 rfl).trans h32
  replace f_v0 := f_v0.stp hst
  have h33 : Fact.ok (.tup2 (.raw u18) (.raw (.bool x16.2))) (R 33) w := hd ▸ hv
  clear hFz hG1 hv hs hd
  refine SG.textR [⟨u18, S19, trR (geB w0.heap.size) (oPr (oRd (eInt .i64)) (oPr (oSl 76 (oRd E_impl_TokenCount)) (oSl 91 (oPr (oRd (eInt .i64)) (oSl 9 (oRd eStr)))))) x16.1 []⟩, ob (.pointer (some ⟨b6_7, 0, none⟩)) (.box w0.heap.size 49 E_impl_SetIndex x6.1), ob u13 (.vec w0.heap.size 76 E_impl_TokenCount x10)] (⟨_, true, [], none, true, fun A => .raw u13⟩ :: ⟨_, true, [], none, true, fun A => .raw (.int .i64 p1)⟩ :: ⟨_, true, [], none, true, fun A => .tup2 (.raw u18) (.raw (.bool x16.2))⟩ :: ⟨_, true, [], none, true, fun A => .tup2 (.raw u18) (.raw (.bool x16.2))⟩ :: ⟨_, true, [], none, true, fun A => .raw u18⟩ :: ⟨_, true, [], none, true, fun A => .raw (.bool x16.2)⟩ :: ⟨_, true, [], some (trR (geB w0.heap.size) (oPt 49 (oPr (oRd (eInt .i64)) (oPr (oSl 76 (oRd E_impl_TokenCount)) (oSl 91 (oPr (oRd (eInt .i64)) (oSl 9 (oRd eStr))))))) ((0 : Int), (([] : List T_impl_TokenCount), ([] : List T_impl_IndexedSet))) []), true, fun A => .any⟩ :: ⟨_, true, [9, 0], some (trR (geB w0.heap.size) (oPt 49 (oPr (oRd (eInt .i64)) (oPr (oSl 76 (oRd E_impl_TokenCount)) (oSl 91 (oPr (oRd (eInt .i64)) (oSl 9 (oRd eStr))))))) x16.1 []), false, fun A => .any⟩ :: ⟨_, true, [], none, true, fun A => .raw (.bool x16.2)⟩ :: []) 9 rfl rfl rfl (by kernel_rfl) (by kernel_rfl) (Wf.mk' (by kernel_rfl) (UAll.cons ust_raw (UAll.cons ust_raw (UAll.cons (ust_tup2 ust_raw ust_raw) (UAll.cons (ust_tup2 ust_raw ust_raw) (UAll.cons ust_raw (UAll.cons ust_raw (UAll.cons ust_any (UAll.cons ust_any (UAll.cons ust_raw (UAll.nil)))))))))) (by kernel_rfl) (by kernel_rfl)) hO hA (⟨⟨rfl, rfl, rfl, h31⟩, ⟨⟨rfl, rfl, rfl, h32⟩, ⟨⟨rfl, rfl, rfl, h33⟩, trivial⟩⟩⟩) ?_ ?_
  ·exact
    OblsR.p (fun A' R' w' ho hd => by have a0 : Fact.ok (.tup2 (.raw u18) (.raw (.bool x16.2))) (R' 33) w' := hd.g 0 rfl; exact of_move a0) <|
    OblsR.p (fun A' R' w' ho hd => by have a0 : Fact.ok (.tup2 (.raw u18) (.raw (.bool x16.2))) (R' 30) w' := hd.g 0 rfl; exact of_extract2_0 a0) <|
    OblsR.p (fun A' R' w' ho hd => by have a0 : Fact.ok (.tup2 (.raw u18) (.raw (.bool x16.2))) (R' 30) w' := hd.g 0 rfl; exact of_extract2_1 a0) <|
    OblsR.cons (OblR.madeS _ rfl rfl rfl rfl fun A' R' w' ho hd => by exact made_allocT Try.zeroValue49 (fun A w => own_pr (own_rd rep1_int) (own_pr own_nil own_nil)) (fun k hk => Nat.le_trans (Nat.le_trans hF.size ho.ch.size) hk)) <|
    OblsR.cons (OblR.tookM 9 [0] _ rfl rfl rfl rfl fun A' R' w' ho hd ρ σ hok hav hin hop hds hdd => by have a1 : R' 34 = u18 := hd.g 1 rfl; have k1 := hok 9 (.head _) _ rfl; exact took_put2 rfl (tr_root k1.2.2).ptr (hok 0 (.tail _ (.head _)) _ rfl).2.2.1 (a1.trans (hin 0 (.tail _ (.head _)) _ rfl).1.symm) (hop 9 (.head _) _ _ rfl rfl rfl rfl).symm hav hdd k1.2.1 (hok 0 (.tail _ (.head _)) _ rfl).2.1 Try.sizeOf49 (fun _ _ _ h => h)) <|
    OblsR.p (fun A' R' w' ho hd => by have a0 : R' 35 = .bool x16.2 := hd.g 0 rfl; exact of_assign a0) <|
    OblsR.nil
  intro done ρ σ A R w hdn hI
  replace h0 : R 0 = v0 := (hI.reg rfl).trans h0
  replace h1 : R 1 = .int .i64 p1 := (hI.reg rfl).trans h1
  replace h6 : R 6 = (.pointer (some ⟨b6_7, 0, none⟩)) := (hI.reg rfl).trans h6
  replace h7 : R 7 = .bool x6.2 := (hI.reg rfl).trans h7
  replace h8 : R 8 = u13 := (hI.reg rfl).trans h8
  have z20 := hI.inivR 1 rfl
  have z21 := hI.inivR 2 rfl
  obtain ⟨u22, e_u22⟩ : ∃ u, ρ 10 = u := ⟨_, rfl⟩
  have z23 := (hI.opnR hdn 10 7 rfl rfl rfl rfl rfl).symm.trans e_u22
  have h9 : R 9 = u22 := (hI.opvR hdn 9 6 rfl rfl rfl rfl rfl).symm.trans z23
  obtain ⟨S24, eS_u22⟩ : ∃ S, σ 10 = S := ⟨_, rfl⟩
  have h10 : R 10 = .bool x16.2 := hI.fact hdn (i := 8) rfl rfl rfl
  replace f_v0 := f_v0.stp hI.stp
  replace hAA := hI.low' hAA hA0 (hO.ge (⟨fun _ h => h, ⟨rfl, ⟨rfl, trivial⟩⟩⟩))
  replace hF : Fr w0 w := hF.tr hI.ch (hO.ge (⟨fun _ h => h, ⟨rfl, ⟨rfl, trivial⟩⟩⟩))
  replace hO : IniOK [ob (.pointer (some ⟨b6_7, 0, none⟩)) (.box w0.heap.size 49 E_impl_SetIndex x6.1), ob u13 (.vec w0.heap.size 76 E_impl_TokenCount x10), ⟨u22, S24, trR (geB w0.heap.size) (oPt 49 (oPr (oRd (eInt .i64)) (oPr (oSl 76 (oRd E_impl_TokenCount)) (oSl 91 (oPr (oRd (eInt .i64)) (oSl 9 (oRd eStr))))))) x16.1 []⟩] A w := hI.left hdn [(1, ob (.pointer (some ⟨b6_7, 0, none⟩)) (.box w0.heap.size 49 E_impl_SetIndex x6.1)), (2, ob u13 (.vec w0.heap.size 76 E_impl_TokenCount x10)), (10, ⟨u22, S24, trR (geB w0.heap.size) (oPt 49 (oPr (oRd (eInt .i64)) (oPr (oSl 76 (oRd E_impl_TokenCount)) (oSl 91 (oPr (oRd (eInt .i64)) (oSl 9 (oRd eStr))))))) x16.1 []⟩)] ⟨rfl, rfl, z20, rfl, rfl, ⟨rfl, rfl, z21, rfl, rfl, ⟨rfl, rfl, e_u22, eS_u22, rfl, trivial⟩⟩⟩
  replace hA := hI.avok
  clear hI
  refine SG.fin rfl ?_
  refine HT.seq ?_
  refine HT.seq ?_
  obtain ⟨h25, l_h25, p_h25⟩ := ((tr_root (hO.own 2 _ rfl).2).ptr).open
  replace hO : IniOK [ob (.pointer (some ⟨b6_7, 0, none⟩)) (.box w0.heap.size 49 E_impl_SetIndex x6.1), ob u13 (.vec w0.heap.size 76 E_impl_TokenCount x10), ⟨u22, S24, trR (geB w0.heap.size) (oPt 49 (oPr (oRd (eInt .i64)) (oPr (oSl 76 (oRd E_impl_TokenCount)) (oSl 91 (oPr (oRd (eInt .i64)) (oSl 9 (oRd eStr))))))) x16.1 [(u22, h25)]⟩] A w := hO.repin 2 rfl (trP.pin p_h25)
  obtain ⟨x27, q28, hr⟩ := cl_some hr
  obtain ⟨x29, q30, hr⟩ := bd_some hr
  refine HT.text (l := ⟨_, true, .raw (Enc.val E_impl_SetIndex h25)⟩ :: ⟨_, true, .rep E_impl_SetIndex A x6.1⟩ :: ⟨_, true, .raw (.bool x27)⟩ :: ⟨_, true, .raw (.bool (!x27))⟩ :: ⟨_, true, .raw (.bool (!x27))⟩ :: ⟨_, (true && ((!x27) == false)), .raw (.bool x16.2)⟩ :: ⟨_, (true && ((!x27) == false)), .raw (.bool x6.2)⟩ :: ⟨_, (true && ((!x27) == false)), .raw (.bool (x16.2 != x6.2))⟩ :: ⟨_, true, .raw (.bool x29)⟩ :: []) (tl := []) (by kernel_rfl) (by kernel_rfl) (by kernel_rfl) ?_ ?_
  ·exact
    Obls.p (fun R' w' hw hs hd => of_load_pinS (F := oPr (oRd (eInt .i64)) (oPr (oSl 76 (oRd E_impl_TokenCount)) (oSl 91 (oPr (oRd (eInt .i64)) (oSl 9 (oRd eStr)))))) (((hO.fr hw).own 2 _ rfl).2.2 _ (.head _)) l_h25 ((hs 9 rfl).trans h9) Try.isAgg49 Try.sizeOf49) <|
    Obls.p (fun R' w' hw hs hd => (of_load_box ((hO.fr hw).ok 0 _ rfl).1 ((hs 6 rfl).trans h6) (Fld.id _) rfl Try.isAgg49 Try.sizeOf49)) <|
    Obls.p (fun R' w' hw hs hd => by have a0 : R' 36 = (Enc.val E_impl_SetIndex h25) := hd.g 0 rfl; have ra0 : Rep E_impl_SetIndex A0 w' (R' 36) _ := (vh_rep (((tr_root ((hO.fr hw).own 2 _ rfl).2).ptr).pinS (((hO.fr hw).own 2 _ rfl).2.2 _ (.head _)) l_h25) hAA (fun k o hk ha => Nat.not_lt.2 (((hO.fr hw).own 2 _ rfl).1 k hk) (hA0 k o ha))).eq a0; have a1 : Rep E_impl_SetIndex A w' (R' 37) x6.1 := hd.g 1 rfl; exact of_call Try.call37 (M_laws_eqSetIndex_ok (q28 rfl) (hA00.fr ((Nat.le_trans hF.size hw.size))) ra0 (a1.down hAA))) <|
    Obls.p (fun R' w' hw hs hd => by have a0 : R' 38 = .bool x27 := hd.g 0 rfl; exact of_not a0) <|
    Obls.p (fun R' w' hw hs hd => by have a0 : R' 39 = .bool (!x27) := hd.g 0 rfl; exact of_move a0) <|
    Obls.cons (Obl.grd 4 false _ _ _ rfl rfl rfl rfl rfl (by kernel_rfl) fun hg R' w' hw hs hd => by have a0 : R' 10 = .bool x16.2 := (hs 10 rfl).trans h10; exact of_move a0) <|
    Obls.cons (Obl.grd 4 false _ _ _ rfl rfl rfl rfl rfl (by kernel_rfl) fun hg R' w' hw hs hd => by have a0 : R' 7 = .bool x6.2 := (hs 7 rfl).trans h7; exact of_move a0) <|
    Obls.cons (Obl.grd 4 false _ _ _ rfl rfl rfl rfl rfl (by kernel_rfl) fun hg R' w' hw hs hd => by have a0 : R' 41 = .bool x16.2 := hd 0 _ _ _ rfl rfl rfl rfl hg; have a1 : R' 42 = .bool x6.2 := hd 1 _ _ _ rfl rfl rfl rfl hg; exact of_bneq Try.underlying4 a0 a1) <|
    Obls.p (fun R' w' hw hs hd => by have a0 : R' 40 = .bool (!x27) := hd.g 0 rfl; exact of_pick (!x27) a0 (fun hc => by show _ = Value.bool x29; rw [q30, hc]; exact rfl) (fun hc => by have a2 : R' 43 = .bool (x16.2 != x6.2) := hd 1 _ _ _ rfl rfl rfl rfl (g_and rfl (beq_of hc)); show _ = Value.bool x29; rw [q30, hc]; exact a2)) <|
    Obls.nil
  intro R w hw hs hF'
  replace h0 := (hs 0 rfl).trans h0
  replace h1 := (hs 1 rfl).trans h1
  replace h6 := (hs 6 rfl).trans h6
  replace h7 := (hs 7 rfl).trans h7
  replace h8 := (hs 8 rfl).trans h8
  replace h9 := (hs 9 rfl).trans h9
  replace h10 := (hs 10 rfl).trans h10
  have h44 : R 44 = .bool x29 := hF' 8 _ _ rfl rfl rfl
  replace f_v0 := f_v0.fr hw
  replace hO := hO.fr hw
  replace hA := hA.fr hw.size
  replace hF := hF.trans hw
  clear hs hF' hw
  refine seqR_nil ?_
  replace hO : IniOK [ob (.pointer (some ⟨b6_7, 0, none⟩)) (.box w0.heap.size 49 E_impl_SetIndex x6.1), ob u13 (.vec w0.heap.size 76 E_impl_TokenCount x10), ⟨u22, S24, trR (geB w0.heap.size) (oPt 49 (oPr (oRd (eInt .i64)) (oPr (oSl 76 (oRd E_impl_TokenCount)) (oSl 91 (oPr (oRd (eInt .i64)) (oSl 9 (oRd eStr))))))) x16.1 []⟩] A w := hO.repin 2 rfl trP.nopin
  refine HT.cond x29 h44 (fun c31 => ?_) (fun c31 => ?_)
  ·have hr := cnd_t c31 hr
   refine HT.seq ?_
   refine HT.text (l := ⟨_, true, .raw (.bool false)⟩ :: []) (tl := []) (by kernel_rfl) (by kernel_rfl) (by kernel_rfl) ?_ ?_
   ·exact
     Obls.p (fun R' w' hw hs hd => of_assign rfl) <|
     Obls.nil
   intro R w hw hs hF'
   have h4 : R 4 = .bool false := hF' 0 _ _ rfl rfl rfl
   replace hO := hO.fr hw
   replace hO : IniOK [] A w := hO.sub [] trivial
   replace hA := hA.fr hw.size
   replace hF := hF.trans hw
   clear hs hF' hw
   refine seqR_nil ?_
   refine HT.ret ?_
   obtain rfl := Option.some.inj hr
   exact ⟨.inr rfl, [R 4], ⟨rfl, trivial⟩, h4, hF⟩
  ·have hr := cnd_f c31 hr
   refine HT.skip ?_
   refine HT.seq ?_
   refine HT.seq ?_
   obtain ⟨x32, q33, hr⟩ := cl_some hr
   obtain ⟨x34, q35, hr⟩ := cl_some hr
   refine HT.text (l := ⟨_, true, .raw u13⟩ :: ⟨_, true, .raw v0⟩ :: ⟨_, true, .rep (eSl E_impl_TokenCount) A x32⟩ :: ⟨_, true, .raw (.bool x34)⟩ :: ⟨_, true, .raw (.bool (!x34))⟩ :: []) (tl := []) (by kernel_rfl) (by kernel_rfl) (by kernel_rfl) ?_ ?_
   ·exact
     Obls.p (fun R' w' hw hs hd => of_move ((hs 8 rfl).trans h8)) <|
     Obls.p (fun R' w' hw hs hd => of_move ((hs 0 rfl).trans h0)) <|
     Obls.p (fun R' w' hw hs hd => by have a0 : R' 46 = v0 := hd.g 0 rfl; have ra0 := (f_v0.fr hw).eq a0; exact of_call Try.call16 (M_laws_toTokenCountS_okR (q33 rfl) (hA.fr hw.size) ra0)) <|
     Obls.p (fun R' w' hw hs hd => by have a0 : R' 45 = u13 := hd.g 0 rfl; have ra0 := (vec_rep ((hO.fr hw).ok 1 _ rfl).1 hAA hA0).eq a0; have a1 : Rep (eSl E_impl_TokenCount) A w' (R' 47) x32 := hd.g 1 rfl; exact of_call Try.call20 (M_laws_eqTokenCountS_ok (q35 rfl) (hA00.fr ((Nat.le_trans hF.size hw.size))) ra0 (a1.down hAA))) <|
     Obls.p (fun R' w' hw hs hd => by have a0 : R' 48 = .bool x34 := hd.g 0 rfl; exact of_not a0) <|
     Obls.nil
   intro R w hw hs hF'
   replace h0 := (hs 0 rfl).trans h0
   replace h1 := (hs 1 rfl).trans h1
   replace h6 := (hs 6 rfl).trans h6
   replace h7 := (hs 7 rfl).trans h7
   replace h8 := (hs 8 rfl).trans h8
   replace h9 := (hs 9 rfl).trans h9
   replace h10 := (hs 10 rfl).trans h10
   have h49 : R 49 = .bool (!x34) := hF' 4 _ _ rfl rfl rfl
   replace f_v0 := f_v0.fr hw
   replace hO := hO.fr hw
   replace hA := hA.fr hw.size
   replace hF := hF.trans hw
   clear hs hF' hw
   refine seqR_nil ?_
   refine HT.cond (!x34) h49 (fun c36 => ?_) (fun c36 => ?_)
   ·have hr := cnd_t c36 hr
    refine HT.seq ?_
    refine HT.text (l := ⟨_, true, .raw (.bool false)⟩ :: []) (tl := []) (by kernel_rfl) (by kernel_rfl) (by kernel_rfl) ?_ ?_
    ·exact
      Obls.p (fun R' w' hw hs hd => of_assign rfl) <|
      Obls.nil
    intro R w hw hs hF'
    have h4 : R 4 = .bool false := hF' 0 _ _ rfl rfl rfl
    replace hO := hO.fr hw
    replace hO : IniOK [] A w := hO.sub [] trivial
    replace hA := hA.fr hw.size
    replace hF := hF.trans hw
    clear hs hF' hw
    refine seqR_nil ?_
    refine HT.ret ?_
    obtain rfl := Option.some.inj hr
    exact ⟨.inr rfl, [R 4], ⟨rfl, trivial⟩, h4, hF⟩
   ·have hr := cnd_f c36 hr
    refine HT.skip ?_
    refine HT.seq ?_
    refine HT.text (l := ⟨_, true, .raw (.int .i64 (1 : Int))⟩ :: []) (tl := []) (by kernel_rfl) (by kernel_rfl) (by kernel_rfl) ?_ ?_
    ·exact
      Obls.p (fun R' w' hw hs hd => of_assign rfl) <|
      Obls.nil
    intro R w hw hs hF'
    replace h0 := (hs 0 rfl).trans h0
    replace h1 := (hs 1 rfl).trans h1
    replace h6 := (hs 6 rfl).trans h6
    replace h7 := (hs 7 rfl).trans h7
    replace h8 := (hs 8 rfl).trans h8
    replace h9 := (hs 9 rfl).trans h9
    replace h10 := (hs 10 rfl).trans h10
    have h11 : R 11 = .int .i64 (1 : Int) := hF' 0 _ _ rfl rfl rfl
    replace f_v0 := f_v0.fr hw
    replace hO := hO.fr hw
    replace hA := hA.fr hw.size
    replace hF := hF.trans hw
    clear hs hF' hw
    refine seqR_nil ?_
    refine HT.seq ?_
    obtain ⟨x37, q38, hr⟩ := cl_some hr
    refine HT.textR [ob (.pointer (some ⟨b6_7, 0, none⟩)) (.box w0.heap.size 49 E_impl_SetIndex x6.1), ob u13 (.vec w0.heap.size 76 E_impl_TokenCount x10), ⟨u22, S24, trR (geB w0.heap.size) (oPt 49 (oPr (oRd (eInt .i64)) (oPr (oSl 76 (oRd E_impl_TokenCount)) (oSl 91 (oPr (oRd (eInt .i64)) (oSl 9 (oRd eStr))))))) x16.1 []⟩] (⟨_, true, [], none, true, fun A => .raw u13⟩ :: ⟨_, true, [], none, true, fun A => .raw (.int .i64 (1 : Int))⟩ :: ⟨_, true, [1], some (.vec w0.heap.size 76 E_impl_TokenCount x37.2), false, fun A => .raw (.int .i64 x37.1)⟩ :: ⟨_, true, [], none, true, fun A => .raw (.int .i64 x37.1)⟩ :: []) (by kernel_rfl) (by kernel_rfl) (Wf.mk' (by kernel_rfl) (UAll.cons ust_raw (UAll.cons ust_raw (UAll.cons ust_raw (UAll.cons ust_raw (UAll.nil))))) (by kernel_rfl) (by kernel_rfl)) hO hA ?_ ?_
    ·exact
      OblsR.p (fun A' R' w' ho hd => of_move ((ho.old 8 rfl).trans h8)) <|
      OblsR.p (fun A' R' w' ho hd => of_move ((ho.old 11 rfl).trans h11)) <|
      OblsR.cons (OblR.took 1 _ _ rfl rfl rfl rfl rfl fun A' R' w' ho hd u hok hav hin hop hds => by have a0 : R' 50 = u13 := hd.g 0 rfl; have a1 : R' 51 = .int .i64 (1 : Int) := hd.g 1 rfl; have hu0 : evalR R' (.tmp 50) = u := a0.trans (hin _ rfl).symm; exact took_call Try.call21 hav (fun _ _ _ _ _ h => h) (by simp only [List.map, hu0]; exact Calls.mono (M_laws_markTokenCountS_ok (q38 rfl) (ho.av.sub _) (fun b o h => h.2) (Vec.flat hok (fun _ _ _ _ _ h => h)) a1) (fun _ _ ⟨v, h1, h2, h3, h4⟩ => ⟨v, h1, h2, h3, h4⟩))) <|
      OblsR.p (fun A' R' w' ho hd => by have a0 : R' 52 = .int .i64 x37.1 := hd.g 0 rfl; exact of_assign a0) <|
      OblsR.nil
    intro done ρ σ A R w hdn hI
    replace h0 : R 0 = v0 := (hI.reg rfl).trans h0
    replace h1 : R 1 = .int .i64 p1 := (hI.reg rfl).trans h1
    replace h6 : R 6 = (.pointer (some ⟨b6_7, 0, none⟩)) := (hI.reg rfl).trans h6
    replace h7 : R 7 = .bool x6.2 := (hI.reg rfl).trans h7
    replace h9 : R 9 = u22 := (hI.reg rfl).trans h9
    replace h10 : R 10 = .bool x16.2 := (hI.reg rfl).trans h10
    have z39 := hI.inivR 0 rfl
    have z40 := hI.inivR 1 rfl
    have z41 := (hI.opnR hdn 5 2 rfl rfl rfl rfl rfl).trans z40
    have z42 := hI.inivR 2 rfl
    have eS_u22 := hI.inisR 2 rfl
    have h11 : R 11 = .int .i64 x37.1 := hI.fact hdn (i := 3) rfl rfl rfl
    replace f_v0 := f_v0.stp hI.stp
    replace hAA := hI.low' hAA hA0 (hO.ge (⟨rfl, ⟨rfl, ⟨fun _ h => h, trivial⟩⟩⟩))
    replace hF : Fr w0 w := hF.tr hI.ch (hO.ge (⟨rfl, ⟨rfl, ⟨fun _ h => h, trivial⟩⟩⟩))
    replace hO : IniOK [ob (.pointer (some ⟨b6_7, 0, none⟩)) (.box w0.heap.size 49 E_impl_SetIndex x6.1), ⟨u22, S24, trR (geB w0.heap.size) (oPt 49 (oPr (oRd (eInt .i64)) (oPr (oSl 76 (oRd E_impl_TokenCount)) (oSl 91 (oPr (oRd (eInt .i64)) (oSl 9 (oRd eStr))))))) x16.1 []⟩] A w := hI.left hdn [(0, ob (.pointer (some ⟨b6_7, 0, none⟩)) (.box w0.heap.size 49 E_impl_SetIndex x6.1)), (2, ⟨u22, S24, trR (geB w0.heap.size) (oPt 49 (oPr (oRd (eInt .i64)) (oPr (oSl 76 (oRd E_impl_TokenCount)) (oSl 91 (oPr (oRd (eInt .i64)) (oSl 9 (oRd eStr))))))) x16.1 []⟩)] ⟨rfl, rfl, z39, rfl, rfl, ⟨rfl, rfl, z42, eS_u22, rfl, trivial⟩⟩
    replace hA := hI.avok
    clear hI
    refine HT.seq ?_
    refine HT.seq ?_
    obtain ⟨h43, l_h43, p_h43⟩ := ((tr_root (hO.own 1 _ rfl).2).ptr).open
    replace hO : IniOK [ob (.pointer (some ⟨b6_7, 0, none⟩)) (.box w0.heap.size 49 E_impl_SetIndex x6.1), ⟨u22, S24, trR (geB w0.heap.size) (oPt 49 (oPr (oRd (eInt .i64)) (oPr (oSl 76 (oRd E_impl_TokenCount)) (oSl 91 (oPr (oRd (eInt .i64)) (oSl 9 (oRd eStr))))))) x16.1 [(u22, h43)]⟩] A w := hO.repin 1 rfl (trP.pin p_h43)
    obtain ⟨x45, q46, hr⟩ := cl_some hr
    obtain ⟨x47, q48, hr⟩ := bd_some hr
    obtain ⟨x49, q50, hr⟩ := bd_some hr
    refine HT.text (l := ⟨_, true, .raw (.int .i64 x37.1)⟩ :: ⟨_, true, .raw (.bool (decide (x37.1 < (0 : Int))))⟩ :: ⟨_, true, .raw (.bool (decide (x37.1 < (0 : Int))))⟩ :: ⟨_, (true && ((decide (x37.1 < (0 : Int))) == false)), .raw (Enc.val E_impl_SetIndex h43)⟩ :: ⟨_, (true && ((decide (x37.1 < (0 : Int))) == false)), .rep E_impl_SetIndex A x6.1⟩ :: ⟨_, (true && ((decide (x37.1 < (0 : Int))) == false)), .raw (.bool x45)⟩ :: ⟨_, (true && ((decide (x37.1 < (0 : Int))) == false)), .raw (.bool (!x45))⟩ :: ⟨_, true, .raw (.bool x47)⟩ :: ⟨_, true, .raw (.bool x47)⟩ :: ⟨_, (true && (x47 == false)), .raw (.bool x16.2)⟩ :: ⟨_, (true && (x47 == false)), .raw (.bool x6.2)⟩ :: ⟨_, (true && (x47 == false)), .raw (.bool (x16.2 != x6.2))⟩ :: ⟨_, true, .raw (.bool x49)⟩ :: []) (tl := []) (by kernel_rfl) (by kernel_rfl) (by kernel_rfl) ?_ ?_
    ·exact
      Obls.p (fun R' w' hw hs hd => of_move ((hs 11 rfl).trans h11)) <|
      Obls.p (fun R' w' hw hs hd => by have a0 : R' 53 = .int .i64 x37.1 := hd.g 0 rfl; exact of_lss a0 rfl) <|
      Obls.p (fun R' w' hw hs hd => by have a0 : R' 54 = .bool (decide (x37.1 < (0 : Int))) := hd.g 0 rfl; exact of_move a0) <|
      Obls.cons (Obl.grd 2 false _ _ _ rfl rfl rfl rfl rfl (by kernel_rfl) fun hg R' w' hw hs hd => by have a0 : R' 9 = u22 := (hs 9 rfl).trans h9; exact of_load_pinS (F := oPr (oRd (eInt .i64)) (oPr (oSl 76 (oRd E_impl_TokenCount)) (oSl 91 (oPr (oRd (eInt .i64)) (oSl 9 (oRd eStr)))))) (((hO.fr hw).own 1 _ rfl).2.2 _ (.head _)) l_h43 a0 Try.isAgg49 Try.sizeOf49) <|
      Obls.cons (Obl.grd 2 false _ _ _ rfl rfl rfl rfl rfl (by kernel_rfl) fun hg R' w' hw hs hd => by have a0 : R' 6 = (.pointer (some ⟨b6_7, 0, none⟩)) := (hs 6 rfl).trans h6; exact (of_load_box ((hO.fr hw).ok 0 _ rfl).1 a0 (Fld.id _) rfl Try.isAgg49 Try.sizeOf49)) <|
      Obls.cons (Obl.grd 2 false _ _ _ rfl rfl rfl rfl rfl (by kernel_rfl) fun hg R' w' hw hs hd => by have a0 : R' 56 = (Enc.val E_impl_SetIndex h43) := hd 0 _ _ _ rfl rfl rfl rfl hg; have ra0 : Rep E_impl_SetIndex A0 w' (R' 56) _ := (vh_rep (((tr_root ((hO.fr hw).own 1 _ rfl).2).ptr).pinS (((hO.fr hw).own 1 _ rfl).2.2 _ (.head _)) l_h43) hAA (fun k o hk ha => Nat.not_lt.2 (((hO.fr hw).own 1 _ rfl).1 k hk) (hA0 k o ha))).eq a0; have a1 : Rep E_impl_SetIndex A w' (R' 57) x6.1 := hd 1 _ _ _ rfl rfl rfl rfl hg; exact of_call Try.call37 (M_laws_eqSetIndex_ok (q46 hg) (hA00.fr ((Nat.le_trans hF.size hw.size))) ra0 (a1.down hAA))) <|
      Obls.cons (Obl.grd 2 false _ _ _ rfl rfl rfl rfl rfl (by kernel_rfl) fun hg R' w' hw hs hd => by have a0 : R' 58 = .bool x45 := hd 0 _ _ _ rfl rfl rfl rfl hg; exact of_not a0) <|
      Obls.p (fun R' w' hw hs hd => by have a0 : R' 55 = .bool (decide (x37.1 < (0 : Int))) := hd.g 0 rfl; exact of_pick (decide (x37.1 < (0 : Int))) a0 (fun hc => by show _ = Value.bool x47; rw [q48, hc]; exact rfl) (fun hc => by have a2 : R' 59 = .bool (!x45) := hd 1 _ _ _ rfl rfl rfl rfl (g_and rfl (beq_of hc)); show _ = Value.bool x47; rw [q48, hc]; exact a2)) <|
      Obls.p (fun R' w' hw hs hd => by have a0 : R' 60 = .bool x47 := hd.g 0 rfl; exact of_move a0) <|
      Obls.cons (Obl.grd 8 false _ _ _ rfl rfl rfl rfl rfl (by kernel_rfl) fun hg R' w' hw hs hd => by have a0 : R' 10 = .bool x16.2 := (hs 10 rfl).trans h10; exact of_move a0) <|
      Obls.cons (Obl.grd 8 false _ _ _ rfl rfl rfl rfl rfl (by kernel_rfl) fun hg R' w' hw hs hd => by have a0 : R' 7 = .bool x6.2 := (hs 7 rfl).trans h7; exact of_move a0) <|
      Obls.cons (Obl.grd 8 false _ _ _ rfl rfl rfl rfl rfl (by kernel_rfl) fun hg R' w' hw hs hd => by have a0 : R' 62 = .bool x16.2 := hd 0 _ _ _ rfl rfl rfl rfl hg; have a1 : R' 63 = .bool x6.2 := hd 1 _ _ _ rfl rfl rfl rfl hg; exact of_bneq Try.underlying4 a0 a1) <|
      Obls.p (fun R' w' hw hs hd => by have a0 : R' 61 = .bool x47 := hd.g 0 rfl; exact of_pick x47 a0 (fun hc => by show _ = Value.bool x49; rw [q50, hc]; exact rfl) (fun hc => by have a2 : R' 64 = .bool (x16.2 != x6.2) := hd 1 _ _ _ rfl rfl rfl rfl (g_and rfl (beq_of hc)); show _ = Value.bool x49; rw [q50, hc]; exact a2)) <|
      Obls.nil
    intro R w hw hs hF'
    replace h0 := (hs 0 rfl).trans h0
    replace h1 := (hs 1 rfl).trans h1
    replace h6 := (hs 6 rfl).trans h6
    replace h7 := (hs 7 rfl).trans h7
    replace h9 := (hs 9 rfl).trans h9
    have h65 : R 65 = .bool x49 := hF' 12 _ _ rfl rfl rfl
    replace f_v0 := f_v0.fr hw
    replace hO := hO.fr hw
    replace hA := hA.fr hw.size
    replace hF := hF.trans hw
    clear hs hF' hw
    refine seqR_nil ?_
    replace hO : IniOK [ob (.pointer (some ⟨b6_7, 0, none⟩)) (.box w0.heap.size 49 E_impl_SetIndex x6.1), ⟨u22, S24, trR (geB w0.heap.size) (oPt 49 (oPr (oRd (eInt .i64)) (oPr (oSl 76 (oRd E_impl_TokenCount)) (oSl 91 (oPr (oRd (eInt .i64)) (oSl 9 (oRd eStr))))))) x16.1 []⟩] A w := hO.repin 1 rfl trP.nopin
    refine HT.cond x49 h65 (fun c51 => ?_) (fun c51 => ?_)
    ·have hr := cnd_t c51 hr
     refine HT.seq ?_
     refine HT.text (l := ⟨_, true, .raw (.bool false)⟩ :: []) (tl := []) (by kernel_rfl) (by kernel_rfl) (by kernel_rfl) ?_ ?_
     ·exact
       Obls.p (fun R' w' hw hs hd => of_assign rfl) <|
       Obls.nil
     intro R w hw hs hF'
     have h4 : R 4 = .bool false := hF' 0 _ _ rfl rfl rfl
     replace hO := hO.fr hw
     replace hO : IniOK [] A w := hO.sub [] trivial
     replace hA := hA.fr hw.size
     replace hF := hF.trans hw
     clear hs hF' hw
     refine seqR_nil ?_
     refine HT.ret ?_
     obtain rfl := Option.some.inj hr
     exact ⟨.inr rfl, [R 4], ⟨rfl, trivial⟩, h4, hF⟩
    ·have hr := cnd_f c51 hr
     refine HT.skip ?_
     refine HT.seq ?_
     refine HT.text (l := ⟨_, true, .raw (.int .i64 (1 : Int))⟩ :: []) (tl := []) (by kernel_rfl) (by kernel_rfl) (by kernel_rfl) ?_ ?_
     ·exact
       Obls.p (fun R' w' hw hs hd => of_assign rfl) <|
       Obls.nil
     intro R w hw hs hF'
     replace h0 := (hs 0 rfl).trans h0
     replace h1 := (hs 1 rfl).trans h1
     replace h6 := (hs 6 rfl).trans h6
     replace h7 := (hs 7 rfl).trans h7
     replace h9 := (hs 9 rfl).trans h9
     have h12 : R 12 = .int .i64 (1 : Int) := hF' 0 _ _ rfl rfl rfl
     replace f_v0 := f_v0.fr hw
     replace hO := hO.fr hw
     replace hA := hA.fr hw.size
     replace hF := hF.trans hw
     clear hs hF' hw
     refine seqR_nil ?_
     refine HT.seq ?_
     obtain ⟨h52, l_h52, p_h52⟩ := ((tr_root (hO.own 1 _ rfl).2).ptr).open
     replace hO : IniOK [ob (.pointer (some ⟨b6_7, 0, none⟩)) (.box w0.heap.size 49 E_impl_SetIndex x6.1), ⟨u22, S24, trR (geB w0.heap.size) (oPt 49 (oPr (oRd (eInt .i64)) (oPr (oSl 76 (oRd E_impl_TokenCount)) (oSl 91 (oPr (oRd (eInt .i64)) (oSl 9 (oRd eStr))))))) x16.1 [(u22, h52)]⟩] A w := hO.repin 1 rfl (trP.pin p_h52)
     obtain ⟨x54, q55, hr⟩ := cl_some hr
     refine HT.textR [ob (.pointer (some ⟨b6_7, 0, none⟩)) (.box w0.heap.size 49 E_impl_SetIndex x6.1), ⟨u22, S24, trR (geB w0.heap.size) (oPt 49 (oPr (oRd (eInt .i64)) (oPr (oSl 76 (oRd E_impl_TokenCount)) (oSl 91 (oPr (oRd (eInt .i64)) (oSl 9 (oRd eStr))))))) x16.1 [(u22, h52)]⟩] (⟨_, true, [], none, true, fun A => .raw (Enc.val E_impl_SetIndex h52)⟩ :: ⟨_, true, [], none, true, fun A => .raw (.int .i64 (1 : Int))⟩ :: ⟨_, true, [1], some (trR (geB w0.heap.size) (oPt 49 (oPr (oRd (eInt .i64)) (oPr (oSl 76 (oRd E_impl_TokenCount)) (oSl 91 (oPr (oRd (eInt .i64)) (oSl 9 (oRd eStr))))))) x54.2 []), false, fun A => .raw (.int .i64 x54.1)⟩ :: ⟨_, true, [], none, true, fun A => .raw (.int .i64 x54.1)⟩ :: []) (by kernel_rfl) (by kernel_rfl) (Wf.mk' (by kernel_rfl) (UAll.cons ust_raw (UAll.cons ust_raw (UAll.cons ust_raw (UAll.cons ust_raw (UAll.nil))))) (by kernel_rfl) (by kernel_rfl)) hO hA ?_ ?_
     ·exact
       OblsR.p (fun A' R' w' ho hd => of_load_pinS (F := oPr (oRd (eInt .i64)) (oPr (oSl 76 (oRd E_impl_TokenCount)) (oSl 91 (oPr (oRd (eInt .i64)) (oSl 9 (oRd eStr)))))) ((ho.rdo 1 _ rfl rfl).2.2 _ (.head _)) l_h52 ((ho.old 9 rfl).trans h9) Try.isAgg49 Try.sizeOf49) <|
       OblsR.p (fun A' R' w' ho hd => of_move ((ho.old 12 rfl).trans h12)) <|
       OblsR.cons (OblR.tookS 1 _ _ rfl rfl rfl rfl rfl fun A' R' w' ho hd u S hok hown hav hin hop hds => by have a0 : R' 66 = (Enc.val E_impl_SetIndex h52) := hd.g 0 rfl; have a1 : R' 67 = .int .i64 (1 : Int) := hd.g 1 rfl; have e0 := (hin _ rfl).1; rw [e0] at hown ⊢; have hu0 : evalR R' (.tmp 66) = (Enc.val E_impl_SetIndex h52) := a0; exact took_callT Try.call40 (((tr_root hown.2).ptr).pinS (hown.2.2 _ (.head _)) l_h52) hav hown.1 (fun k hk => Nat.le_trans (Nat.le_trans hF.size ho.ch.size) hk) (fun k hk => SP.lt _ hown.2 hk) (fun S1 hS1 hP => by simp only [List.map, hu0]; exact M_laws_markSetIndex_ok (q55 rfl) (ho.av.subS _) (fun b o h => h.2) hP a1) (fun _ _ _ h => h)) <|
       OblsR.p (fun A' R' w' ho hd => by have a0 : R' 68 = .int .i64 x54.1 := hd.g 0 rfl; exact of_assign a0) <|
       OblsR.nil
     intro done ρ σ A R w hdn hI
     replace h0 : R 0 = v0 := (hI.reg rfl).trans h0
     replace h1 : R 1 = .int .i64 p1 := (hI.reg rfl).trans h1
     replace h6 : R 6 = (.pointer (some ⟨b6_7, 0, none⟩)) := (hI.reg rfl).trans h6
     replace h7 : R 7 = .bool x6.2 := (hI.reg rfl).trans h7
     replace h9 : R 9 = u22 := (hI.reg rfl).trans h9
     have z56 := hI.inivR 0 rfl
     have z57 := hI.inivR 1 rfl
     have z58 := (hI.opnR hdn 4 2 rfl rfl rfl rfl rfl).trans z57
     obtain ⟨S59, eS_u22⟩ : ∃ S, σ 4 = S := ⟨_, rfl⟩
     have h12 : R 12 = .int .i64 x54.1 := hI.fact hdn (i := 3) rfl rfl rfl
     replace f_v0 := f_v0.stp hI.stp
     replace hAA := hI.low' hAA hA0 (hO.ge (⟨rfl, ⟨fun _ h => h, trivial⟩⟩))
     replace hF : Fr w0 w := hF.tr hI.ch (hO.ge (⟨rfl, ⟨fun _ h => h, trivial⟩⟩))
     replace hO : IniOK [ob (.pointer (some ⟨b6_7, 0, none⟩)) (.box w0.heap.size 49 E_impl_SetIndex x6.1), ⟨u22, S59, trR (geB w0.heap.size) (oPt 49 (oPr (oRd (eInt .i64)) (oPr (oSl 76 (oRd E_impl_TokenCount)) (oSl 91 (oPr (oRd (eInt .i64)) (oSl 9 (oRd eStr))))))) x54.2 []⟩] A w := hI.left hdn [(0, ob (.pointer (some ⟨b6_7, 0, none⟩)) (.box w0.heap.size 49 E_impl_SetIndex x6.1)), (4, ⟨u22, S59, trR (geB w0.heap.size) (oPt 49 (oPr (oRd (eInt .i64)) (oPr (oSl 76 (oRd E_impl_TokenCount)) (oSl 91 (oPr (oRd (eInt .i64)) (oSl 9 (oRd eStr))))))) x54.2 []⟩)] ⟨rfl, rfl, z56, rfl, rfl, ⟨rfl, rfl, z58, eS_u22, rfl, trivial⟩⟩
     replace hA := hI.avok
     clear hI
     refine HT.seq ?_
     refine HT.text (l := ⟨_, true, .raw (.int .i64 (1 : Int))⟩ :: []) (tl := []) (by kernel_rfl) (by kernel_rfl) (by kernel_rfl) ?_ ?_
     ·exact
       Obls.p (fun R' w' hw hs hd => of_assign rfl) <|
       Obls.nil
     intro R w hw hs hF'
     replace h0 := (hs 0 rfl).trans h0
     replace h1 := (hs 1 rfl).trans h1
     replace h6 := (hs 6 rfl).trans h6
     replace h7 := (hs 7 rfl).trans h7
     replace h9 := (hs 9 rfl).trans h9
     replace h12 := (hs 12 rfl).trans h12
     have h13 : R 13 = .int .i64 (1 : Int) := hF' 0 _ _ rfl rfl rfl
     replace f_v0 := f_v0.fr hw
     replace hO := hO.fr hw
     replace hA := hA.fr hw.size
     replace hF := hF.trans hw
     clear hs hF' hw
     refine seqR_nil ?_
     refine HT.seq ?_
     obtain ⟨h60, l_h60, p_h60⟩ := ((tr_root (hO.own 1 _ rfl).2).ptr).open
     replace hO : IniOK [ob (.pointer (some ⟨b6_7, 0, none⟩)) (.box w0.heap.size 49 E_impl_SetIndex x6.1), ⟨u22, S59, trR (geB w0.heap.size) (oPt 49 (oPr (oRd (eInt .i64)) (oPr (oSl 76 (oRd E_impl_TokenCount)) (oSl 91 (oPr (oRd (eInt .i64)) (oSl 9 (oRd eStr))))))) x54.2 [(u22, h60)]⟩] A w := hO.repin 1 rfl (trP.pin p_h60)
     obtain ⟨x62, q63, hr⟩ := cl_some hr
     refine HT.text (l := ⟨_, true, .raw (Enc.val E_impl_SetIndex h60)⟩ :: ⟨_, true, .raw (.int .i64 (1 : Int))⟩ :: ⟨_, true, .raw (.int .i64 x62)⟩ :: ⟨_, true, .raw (.int .i64 x62)⟩ :: []) (tl := []) (by kernel_rfl) (by kernel_rfl) (by kernel_rfl) ?_ ?_
     ·exact
       Obls.p (fun R' w' hw hs hd => of_load_pinS (F := oPr (oRd (eInt .i64)) (oPr (oSl 76 (oRd E_impl_TokenCount)) (oSl 91 (oPr (oRd (eInt .i64)) (oSl 9 (oRd eStr)))))) (((hO.fr hw).own 1 _ rfl).2.2 _ (.head _)) l_h60 ((hs 9 rfl).trans h9) Try.isAgg49 Try.sizeOf49) <|
       Obls.p (fun R' w' hw hs hd => of_move ((hs 13 rfl).trans h13)) <|
       Obls.p (fun R' w' hw hs hd => by have a0 : R' 69 = (Enc.val E_impl_SetIndex h60) := hd.g 0 rfl; have ra0 : Rep E_impl_SetIndex A0 w' (R' 69) _ := (vh_rep (((tr_root ((hO.fr hw).own 1 _ rfl).2).ptr).pinS (((hO.fr hw).own 1 _ rfl).2.2 _ (.head _)) l_h60) hAA (fun k o hk ha => Nat.not_lt.2 (((hO.fr hw).own 1 _ rfl).1 k hk) (hA0 k o ha))).eq a0; have a1 : R' 70 = .int .i64 (1 : Int) := hd.g 1 rfl; exact of_call Try.call41 (M_laws_heldSetIndex_ok (q63 rfl) (hA00.fr ((Nat.le_trans hF.size hw.size))) ra0 a1)) <|
       Obls.p (fun R' w' hw hs hd => by have a0 : R' 71 = .int .i64 x62 := hd.g 0 rfl; exact of_assign a0) <|
       Obls.nil
     intro R w hw hs hF'
     replace h0 := (hs 0 rfl).trans h0
     replace h1 := (hs 1 rfl).trans h1
     replace h6 := (hs 6 rfl).trans h6
     replace h7 := (hs 7 rfl).trans h7
     replace h9 := (hs 9 rfl).trans h9
     replace h12 := (hs 12 rfl).trans h12
     have h13 : R 13 = .int .i64 x62 := hF' 3 _ _ rfl rfl rfl
     replace f_v0 := f_v0.fr hw
     replace hO := hO.fr hw
     replace hA := hA.fr hw.size
     replace hF := hF.trans hw
     clear hs hF' hw
     refine seqR_nil ?_
     replace hO : IniOK [ob (.pointer (some ⟨b6_7, 0, none⟩)) (.box w0.heap.size 49 E_impl_SetIndex x6.1), ⟨u22, S59, trR (geB w0.heap.size) (oPt 49 (oPr (oRd (eInt .i64)) (oPr (oSl 76 (oRd E_impl_TokenCount)) (oSl 91 (oPr (oRd (eInt .i64)) (oSl 9 (oRd eStr))))))) x54.2 []⟩] A w := hO.repin 1 rfl trP.nopin
     refine HT.seq ?_
     refine HT.seq ?_
     refine HT.text (l := ⟨_, true, .raw (.int .i64 x62)⟩ :: ⟨_, true, .raw (.bool (decide (x62 < (0 : Int))))⟩ :: []) (tl := []) (by kernel_rfl) (by kernel_rfl) (by kernel_rfl) ?_ ?_
     ·exact
       Obls.p (fun R' w' hw hs hd => of_move ((hs 13 rfl).trans h13)) <|
       Obls.p (fun R' w' hw hs hd => by have a0 : R' 72 = .int .i64 x62 := hd.g 0 rfl; exact of_lss a0 rfl) <|
       Obls.nil
     intro R w hw hs hF'
     replace h0 := (hs 0 rfl).trans h0
     replace h1 := (hs 1 rfl).trans h1
     replace h6 := (hs 6 rfl).trans h6
     replace h7 := (hs 7 rfl).trans h7
     replace h9 := (hs 9 rfl).trans h9
     replace h12 := (hs 12 rfl).trans h12
     replace h13 := (hs 13 rfl).trans h13
     have h73 : R 73 = .bool (decide (x62 < (0 : Int))) := hF' 1 _ _ rfl rfl rfl
     replace f_v0 := f_v0.fr hw
     replace hO := hO.fr hw
     replace hA := hA.fr hw.size
     replace hF := hF.trans hw
     clear hs hF' hw
     refine seqR_nil ?_
     refine HT.cond (decide (x62 < (0 : Int))) h73 (fun c64 => ?_) (fun c64 => ?_)
     ·have hr := cnd_t c64 hr
      refine HT.seq ?_
      refine HT.text (l := ⟨_, true, .raw (.bool false)⟩ :: []) (tl := []) (by kernel_rfl) (by kernel_rfl) (by kernel_rfl) ?_ ?_
      ·exact
        Obls.p (fun R' w' hw hs hd => of_assign rfl) <|
        Obls.nil
      intro R w hw hs hF'
      have h4 : R 4 = .bool false := hF' 0 _ _ rfl rfl rfl
      replace hO := hO.fr hw
      replace hO : IniOK [] A w := hO.sub [] trivial
      replace hA := hA.fr hw.size
      replace hF := hF.trans hw
      clear hs hF' hw
      refine seqR_nil ?_
      refine HT.ret ?_
      obtain rfl := Option.some.inj hr
      exact ⟨.inr rfl, [R 4], ⟨rfl, trivial⟩, h4, hF⟩
     ·have hr := cnd_f c64 hr
      refine HT.skip ?_
      refine HT.seq ?_
      refine HT.seq ?_
      refine HT.text (l := ⟨_, true, .raw (.int .i64 x62)⟩ :: ⟨_, true, .raw (.int .i64 x54.1)⟩ :: ⟨_, true, .raw (.bool (x62 != x54.1))⟩ :: []) (tl := []) (by kernel_rfl) (by kernel_rfl) (by kernel_rfl) ?_ ?_
      ·exact
        Obls.p (fun R' w' hw hs hd => of_move ((hs 13 rfl).trans h13)) <|
        Obls.p (fun R' w' hw hs hd => of_move ((hs 12 rfl).trans h12)) <|
        Obls.p (fun R' w' hw hs hd => by have a0 : R' 74 = .int .i64 x62 := hd.g 0 rfl; have a1 : R' 75 = .int .i64 x54.1 := hd.g 1 rfl; exact of_neq a0 a1) <|
        Obls.nil
      intro R w hw hs hF'
      replace h0 := (hs 0 rfl).trans h0
      replace h1 := (hs 1 rfl).trans h1
      replace h6 := (hs 6 rfl).trans h6
      replace h7 := (hs 7 rfl).trans h7
      replace h9 := (hs 9 rfl).trans h9
      replace h12 := (hs 12 rfl).trans h12
      have h76 : R 76 = .bool (x62 != x54.1) := hF' 2 _ _ rfl rfl rfl
      replace f_v0 := f_v0.fr hw
      replace hO := hO.fr hw
      replace hA := hA.fr hw.size
      replace hF := hF.trans hw
      clear hs hF' hw
      refine seqR_nil ?_
      refine HT.cond (x62 != x54.1) h76 (fun c65 => ?_) (fun c65 => ?_)
      ·have hr := cnd_t c65 hr
       refine HT.seq ?_
       refine HT.text (l := ⟨_, true, .raw (.bool false)⟩ :: []) (tl := []) (by kernel_rfl) (by kernel_rfl) (by kernel_rfl) ?_ ?_
       ·exact
         Obls.p (fun R' w' hw hs hd => of_assign rfl) <|
         Obls.nil
       intro R w hw hs hF'
       have h4 : R 4 = .bool false := hF' 0 _ _ rfl rfl rfl
       replace hO := hO.fr hw
       replace hO : IniOK [] A w := hO.sub [] trivial
       replace hA := hA.fr hw.size
       replace hF := hF.trans hw
       clear hs hF' hw
       refine seqR_nil ?_
       refine HT.ret ?_
       obtain rfl := Option.some.inj hr
       exact ⟨.inr rfl, [R 4], ⟨rfl, trivial⟩, h4, hF⟩
      ·have hr := cnd_f c65 hr
       refine HT.skip ?_
       refine HT.seq ?_
       obtain ⟨x66, q67, hr⟩ := cl_some hr
       obtain ⟨x68, q69, hr⟩ := cl_some hr
       refine HT.textR [ob (.pointer (some ⟨b6_7, 0, none⟩)) (.box w0.heap.size 49 E_impl_SetIndex x6.1), ⟨u22, S59, trR (geB w0.heap.size) (oPt 49 (oPr (oRd (eInt .i64)) (oPr (oSl 76 (oRd E_impl_TokenCount)) (oSl 91 (oPr (oRd (eInt .i64)) (oSl 9 (oRd eStr))))))) x54.2 []⟩] (⟨_, true, [], none, true, fun A => .raw v0⟩ :: ⟨_, true, [], none, true, fun A => .rep (eSl E_impl_TokenCount) A x66⟩ :: ⟨_, true, [], none, true, fun A => .raw (.int .i64 p1)⟩ :: ⟨_, true, [], none, true, fun A => .tup2 (.rep E_impl_SetIndex A x68.1) (.raw (.bool x68.2))⟩ :: ⟨_, true, [], none, true, fun A => .tup2 (.rep E_impl_SetIndex A x68.1) (.raw (.bool x68.2))⟩ :: ⟨_, true, [], none, true, fun A => .rep E_impl_SetIndex A x68.1⟩ :: ⟨_, true, [], none, true, fun A => .raw (.bool x68.2)⟩ :: ⟨_, true, [], some (.box w0.heap.size 49 E_impl_SetIndex ((0 : Int), (([] : List T_impl_TokenCount), ([] : List T_impl_IndexedSet)))), true, fun A => .any⟩ :: ⟨_, true, [9], some (.box w0.heap.size 49 E_impl_SetIndex x68.1), false, fun A => .any⟩ :: ⟨_, true, [], none, true, fun A => .raw (.bool x68.2)⟩ :: []) (by kernel_rfl) (by kernel_rfl) (Wf.mk' (by kernel_rfl) (UAll.cons ust_raw (UAll.cons ust_rep (UAll.cons ust_raw (UAll.cons (ust_tup2 ust_rep ust_raw) (UAll.cons (ust_tup2 ust_rep ust_raw) (UAll.cons ust_rep (UAll.cons ust_raw (UAll.cons ust_any (UAll.cons ust_any (UAll.cons ust_raw (UAll.nil))))))))))) (by kernel_rfl) (by kernel_rfl)) hO hA ?_ ?_
       ·exact
         OblsR.p (fun A' R' w' ho hd => of_move ((ho.old 0 rfl).trans h0)) <|
         OblsR.p (fun A' R' w' ho hd => by have a0 : R' 78 = v0 := hd.g 0 rfl; have ra0 := (f_v0.stp ho.stp).eq a0; exact of_call Try.call16 (M_laws_toTokenCountS_okR (q67 rfl) ho.av ra0)) <|
         OblsR.p (fun A' R' w' ho hd => of_move ((ho.old 1 rfl).trans h1)) <|
         OblsR.p (fun A' R' w' ho hd => by have a0 : Rep (eSl E_impl_TokenCount) A' w' (R' 79) x66 := hd.g 0 rfl; have a1 : R' 80 = .int .i64 p1 := hd.g 1 rfl; exact of_call Try.call39 (M_impl_NewSetIndex_okR (q69 rfl) ho.av a0 a1)) <|
         OblsR.p (fun A' R' w' ho hd => by have a0 : Fact.ok (.tup2 (.rep E_impl_SetIndex A' x68.1) (.raw (.bool x68.2))) (R' 81) w' := hd.g 0 rfl; exact of_move a0) <|
         OblsR.p (fun A' R' w' ho hd => by have a0 : Fact.ok (.tup2 (.rep E_impl_SetIndex A' x68.1) (.raw (.bool x68.2))) (R' 77) w' := hd.g 0 rfl; exact of_extract2_0 a0) <|
         OblsR.p (fun A' R' w' ho hd => by have a0 : Fact.ok (.tup2 (.rep E_impl_SetIndex A' x68.1) (.raw (.bool x68.2))) (R' 77) w' := hd.g 0 rfl; exact of_extract2_1 a0) <|
         OblsR.cons (OblR.made _ rfl rfl rfl rfl fun A' R' w' ho hd => by exact made_alloc Try.zeroValue49 (fun A w => rep_pr rep1_int (rep_pr rep1_nil rep1_nil)) (Nat.le_trans hF.size ho.ch.size)) <|
         OblsR.cons (OblR.took 9 _ _ rfl rfl rfl rfl rfl fun A' R' w' ho hd u hok hav hin hop hds => by have a1 : Rep E_impl_SetIndex A' w' (R' 82) x68.1 := hd.g 1 rfl; obtain ⟨b, hb, hB', hbx⟩ := hok; have hop' := hop _ _ rfl rfl rfl rfl; exact took_store a1 (hop'.symm.trans hb) hb ⟨b, hb, hB', hbx⟩ hav (FldS.id _) Try.sizeOf49 rfl) <|
         OblsR.p (fun A' R' w' ho hd => by have a0 : R' 83 = .bool x68.2 := hd.g 0 rfl; exact of_assign a0) <|
         OblsR.nil
       intro done ρ σ A R w hdn hI
       replace h6 : R 6 = (.pointer (some ⟨b6_7, 0, none⟩)) := (hI.reg rfl).trans h6
       replace h7 : R 7 = .bool x6.2 := (hI.reg rfl).trans h7
       replace h9 : R 9 = u22 := (hI.reg rfl).trans h9
       replace h12 : R 12 = .int .i64 x54.1 := (hI.reg rfl).trans h12
       have z70 := hI.inivR 0 rfl
       have z71 := hI.inivR 1 rfl
       obtain ⟨b14_71, e_b14_71⟩ := hI.boxv hdn 10 rfl rfl
       have z73 := (hI.opnR hdn 10 8 rfl rfl rfl rfl rfl).symm.trans e_b14_71
       have h14 : R 14 = (.pointer (some ⟨b14_71, 0, none⟩)) := (hI.opvR hdn 9 7 rfl rfl rfl rfl rfl).symm.trans z73
       have eS_u22 := hI.inisR 1 rfl
       have h15 : R 15 = .bool x68.2 := hI.fact hdn (i := 9) rfl rfl rfl
       replace hAA := hI.low' hAA hA0 (hO.ge (⟨rfl, ⟨fun _ h => h, trivial⟩⟩))
       replace hF : Fr w0 w := hF.tr hI.ch (hO.ge (⟨rfl, ⟨fun _ h => h, trivial⟩⟩))
       replace hO : IniOK [ob (.pointer (some ⟨b6_7, 0, none⟩)) (.box w0.heap.size 49 E_impl_SetIndex x6.1), ⟨u22, S59, trR (geB w0.heap.size) (oPt 49 (oPr (oRd (eInt .i64)) (oPr (oSl 76 (oRd E_impl_TokenCount)) (oSl 91 (oPr (oRd (eInt .i64)) (oSl 9 (oRd eStr))))))) x54.2 []⟩, ob (.pointer (some ⟨b14_71, 0, none⟩)) (.box w0.heap.size 49 E_impl_SetIndex x68.1)] A w := hI.left hdn [(0, ob (.pointer (some ⟨b6_7, 0, none⟩)) (.box w0.heap.size 49 E_impl_SetIndex x6.1)), (1, ⟨u22, S59, trR (geB w0.heap.size) (oPt 49 (oPr (oRd (eInt .i64)) (oPr (oSl 76 (oRd E_impl_TokenCount)) (oSl 91 (oPr (oRd (eInt .i64)) (oSl 9 (oRd eStr))))))) x54.2 []⟩), (10, ob (.pointer (some ⟨b14_71, 0, none⟩)) (.box w0.heap.size 49 E_impl_SetIndex x68.1))] ⟨rfl, rfl, z70, rfl, rfl, ⟨rfl, rfl, z71, eS_u22, rfl, ⟨rfl, rfl, e_b14_71, rfl, rfl, trivial⟩⟩⟩
       replace hA := hI.avok
       clear hI
       refine HT.seq ?_
       refine HT.seq ?_
       obtain ⟨x74, q75, hr⟩ := cl_some hr
       obtain ⟨x76, q77, hr⟩ := bd_some hr
       refine HT.text (l := ⟨_, true, .rep E_impl_SetIndex A x68.1⟩ :: ⟨_, true, .rep E_impl_SetIndex A x6.1⟩ :: ⟨_, true, .raw (.bool x74)⟩ :: ⟨_, true, .raw (.bool (!x74))⟩ :: ⟨_, true, .raw (.bool (!x74))⟩ :: ⟨_, (true && ((!x74) == false)), .raw (.bool x68.2)⟩ :: ⟨_, (true && ((!x74) == false)), .raw (.bool x6.2)⟩ :: ⟨_, (true && ((!x74) == false)), .raw (.bool (x68.2 != x6.2))⟩ :: ⟨_, true, .raw (.bool x76)⟩ :: []) (tl := []) (by kernel_rfl) (by kernel_rfl) (by kernel_rfl) ?_ ?_
       ·exact
         Obls.p (fun R' w' hw hs hd => (of_load_box ((hO.fr hw).ok 2 _ rfl).1 ((hs 14 rfl).trans h14) (Fld.id _) rfl Try.isAgg49 Try.sizeOf49)) <|
         Obls.p (fun R' w' hw hs hd => (of_load_box ((hO.fr hw).ok 0 _ rfl).1 ((hs 6 rfl).trans h6) (Fld.id _) rfl Try.isAgg49 Try.sizeOf49)) <|
         Obls.p (fun R' w' hw hs hd => by have a0 : Rep E_impl_SetIndex A w' (R' 84) x68.1 := hd.g 0 rfl; have a1 : Rep E_impl_SetIndex A w' (R' 85) x6.1 := hd.g 1 rfl; exact of_call Try.call37 (M_laws_eqSetIndex_ok (q75 rfl) (hA.fr hw.size) a0 a1)) <|
         Obls.p (fun R' w' hw hs hd => by have a0 : R' 86 = .bool x74 := hd.g 0 rfl; exact of_not a0) <|
         Obls.p (fun R' w' hw hs hd => by have a0 : R' 87 = .bool (!x74) := hd.g 0 rfl; exact of_move a0) <|
         Obls.cons (Obl.grd 4 false _ _ _ rfl rfl rfl rfl rfl (by kernel_rfl) fun hg R' w' hw hs hd => by have a0 : R' 15 = .bool x68.2 := (hs 15 rfl).trans h15; exact of_move a0) <|
         Obls.cons (Obl.grd 4 false _ _ _ rfl rfl rfl rfl rfl (by kernel_rfl) fun hg R' w' hw hs hd => by have a0 : R' 7 = .bool x6.2 := (hs 7 rfl).trans h7; exact of_move a0) <|
         Obls.cons (Obl.grd 4 false _ _ _ rfl rfl rfl rfl rfl (by kernel_rfl) fun hg R' w' hw hs hd => by have a0 : R' 89 = .bool x68.2 := hd 0 _ _ _ rfl rfl rfl rfl hg; have a1 : R' 90 = .bool x6.2 := hd 1 _ _ _ rfl rfl rfl rfl hg; exact of_bneq Try.underlying4 a0 a1) <|
         Obls.p (fun R' w' hw hs hd => by have a0 : R' 88 = .bool (!x74) := hd.g 0 rfl; exact of_pick (!x74) a0 (fun hc => by show _ = Value.bool x76; rw [q77, hc]; exact rfl) (fun hc => by have a2 : R' 91 = .bool (x68.2 != x6.2) := hd 1 _ _ _ rfl rfl rfl rfl (g_and rfl (beq_of hc)); show _ = Value.bool x76; rw [q77, hc]; exact a2)) <|
         Obls.nil
       intro R w hw hs hF'
       replace h9 := (hs 9 rfl).trans h9
       replace h12 := (hs 12 rfl).trans h12
       have h92 : R 92 = .bool x76 := hF' 8 _ _ rfl rfl rfl
       replace hO := hO.fr hw
       replace hO : IniOK [⟨u22, S59, trR (geB w0.heap.size) (oPt 49 (oPr (oRd (eInt .i64)) (oPr (oSl 76 (oRd E_impl_TokenCount)) (oSl 91 (oPr (oRd (eInt .i64)) (oSl 9 (oRd eStr))))))) x54.2 []⟩] A w := hO.sub [(1, ⟨u22, S59, trR (geB w0.heap.size) (oPt 49 (oPr (oRd (eInt .i64)) (oPr (oSl 76 (oRd E_impl_TokenCount)) (oSl 91 (oPr (oRd (eInt .i64)) (oSl 9 (oRd eStr))))))) x54.2 []⟩)] ⟨rfl, rfl, trivial⟩
       replace hA := hA.fr hw.size
       replace hF := hF.trans hw
       clear hs hF' hw
       refine seqR_nil ?_
       refine HT.cond x76 h92 (fun c78 => ?_) (fun c78 => ?_)
       ·have hr := cnd_t c78 hr
        refine HT.seq ?_
        refine HT.text (l := ⟨_, true, .raw (.bool false)⟩ :: []) (tl := []) (by kernel_rfl) (by kernel_rfl) (by kernel_rfl) ?_ ?_
        ·exact
          Obls.p (fun R' w' hw hs hd => of_assign rfl) <|
          Obls.nil
        intro R w hw hs hF'
        have h4 : R 4 = .bool false := hF' 0 _ _ rfl rfl rfl
        replace hO := hO.fr hw
        replace hO : IniOK [] A w := hO.sub [] trivial
        replace hA := hA.fr hw.size
        replace hF := hF.trans hw
        clear hs hF' hw
        refine seqR_nil ?_
        refine HT.ret ?_
        obtain rfl := Option.some.inj hr
        exact ⟨.inr rfl, [R 4], ⟨rfl, trivial⟩, h4, hF⟩
       ·have hr := cnd_f c78 hr
        refine HT.skip ?_
        refine HT.seq ?_
        refine HT.text (l := ⟨_, true, .raw (.int .i64 (1 : Int))⟩ :: []) (tl := []) (by kernel_rfl) (by kernel_rfl) (by kernel_rfl) ?_ ?_
        ·exact
          Obls.p (fun R' w' hw hs hd => of_assign rfl) <|
          Obls.nil
        intro R w hw hs hF'
        replace h9 := (hs 9 rfl).trans h9
        replace h12 := (hs 12 rfl).trans h12
        have h13 : R 13 = .int .i64 (1 : Int) := hF' 0 _ _ rfl rfl rfl
        replace hO := hO.fr hw
        replace hA := hA.fr hw.size
        replace hF := hF.trans hw
        clear hs hF' hw
        refine seqR_nil ?_
        refine HT.seq ?_
        obtain ⟨h79, l_h79, p_h79⟩ := ((tr_root (hO.own 0 _ rfl).2).ptr).open
        replace hO : IniOK [⟨u22, S59, trR (geB w0.heap.size) (oPt 49 (oPr (oRd (eInt .i64)) (oPr (oSl 76 (oRd E_impl_TokenCount)) (oSl 91 (oPr (oRd (eInt .i64)) (oSl 9 (oRd eStr))))))) x54.2 [(u22, h79)]⟩] A w := hO.repin 0 rfl (trP.pin p_h79)
        obtain ⟨x81, q82, hr⟩ := cl_some hr
        refine HT.text (l := ⟨_, true, .raw (Enc.val E_impl_SetIndex h79)⟩ :: ⟨_, true, .raw (.int .i64 (1 : Int))⟩ :: ⟨_, true, .raw (.int .i64 x81)⟩ :: ⟨_, true, .raw (.int .i64 x81)⟩ :: []) (tl := []) (by kernel_rfl) (by kernel_rfl) (by kernel_rfl) ?_ ?_
        ·exact
          Obls.p (fun R' w' hw hs hd => of_load_pinS (F := oPr (oRd (eInt .i64)) (oPr (oSl 76 (oRd E_impl_TokenCount)) (oSl 91 (oPr (oRd (eInt .i64)) (oSl 9 (oRd eStr)))))) (((hO.fr hw).own 0 _ rfl).2.2 _ (.head _)) l_h79 ((hs 9 rfl).trans h9) Try.isAgg49 Try.sizeOf49) <|
          Obls.p (fun R' w' hw hs hd => of_move ((hs 13 rfl).trans h13)) <|
          Obls.p (fun R' w' hw hs hd => by have a0 : R' 93 = (Enc.val E_impl_SetIndex h79) := hd.g 0 rfl; have ra0 : Rep E_impl_SetIndex A0 w' (R' 93) _ := (vh_rep (((tr_root ((hO.fr hw).own 0 _ rfl).2).ptr).pinS (((hO.fr hw).own 0 _ rfl).2.2 _ (.head _)) l_h79) hAA (fun k o hk ha => Nat.not_lt.2 (((hO.fr hw).own 0 _ rfl).1 k hk) (hA0 k o ha))).eq a0; have a1 : R' 94 = .int .i64 (1 : Int) := hd.g 1 rfl; exact of_call Try.call41 (M_laws_heldSetIndex_ok (q82 rfl) (hA00.fr ((Nat.le_trans hF.size hw.size))) ra0 a1)) <|
          Obls.p (fun R' w' hw hs hd => by have a0 : R' 95 = .int .i64 x81 := hd.g 0 rfl; exact of_assign a0) <|
          Obls.nil
        intro R w hw hs hF'
        replace h12 := (hs 12 rfl).trans h12
        have h13 : R 13 = .int .i64 x81 := hF' 3 _ _ rfl rfl rfl
        replace hO := hO.fr hw
        replace hO : IniOK [] A w := hO.sub [] trivial
        replace hA := hA.fr hw.size
        replace hF := hF.trans hw
        clear hs hF' hw
        refine seqR_nil ?_
        refine HT.seq ?_
        refine HT.seq ?_
        refine HT.text (l := ⟨_, true, .raw (.int .i64 x81)⟩ :: ⟨_, true, .raw (.bool (decide (x81 < (0 : Int))))⟩ :: []) (tl := []) (by kernel_rfl) (by kernel_rfl) (by kernel_rfl) ?_ ?_
        ·exact
          Obls.p (fun R' w' hw hs hd => of_move ((hs 13 rfl).trans h13)) <|
          Obls.p (fun R' w' hw hs hd => by have a0 : R' 96 = .int .i64 x81 := hd.g 0 rfl; exact of_lss a0 rfl) <|
          Obls.nil
        intro R w hw hs hF'
        replace h12 := (hs 12 rfl).trans h12
        replace h13 := (hs 13 rfl).trans h13
        have h97 : R 97 = .bool (decide (x81 < (0 : Int))) := hF' 1 _ _ rfl rfl rfl
        replace hO := hO.fr hw
        replace hA := hA.fr hw.size
        replace hF := hF.trans hw
        clear hs hF' hw
        refine seqR_nil ?_
        refine HT.cond (decide (x81 < (0 : Int))) h97 (fun c83 => ?_) (fun c83 => ?_)
        ·have hr := cnd_t c83 hr
         refine HT.seq ?_
         refine HT.text (l := ⟨_, true, .raw (.bool false)⟩ :: []) (tl := []) (by kernel_rfl) (by kernel_rfl) (by kernel_rfl) ?_ ?_
         ·exact
           Obls.p (fun R' w' hw hs hd => of_assign rfl) <|
           Obls.nil
         intro R w hw hs hF'
         have h4 : R 4 = .bool false := hF' 0 _ _ rfl rfl rfl
         replace hO := hO.fr hw
         replace hA := hA.fr hw.size
         replace hF := hF.trans hw
         clear hs hF' hw
         refine seqR_nil ?_
         refine HT.ret ?_
         obtain rfl := Option.some.inj hr
         exact ⟨.inr rfl, [R 4], ⟨rfl, trivial⟩, h4, hF⟩
        ·have hr := cnd_f c83 hr
         refine HT.skip ?_
         refine HT.seq ?_
         refine HT.seq ?_
         refine HT.text (l := ⟨_, true, .raw (.int .i64 x81)⟩ :: ⟨_, true, .raw (.int .i64 x54.1)⟩ :: ⟨_, true, .raw (.bool (x81 != x54.1))⟩ :: []) (tl := []) (by kernel_rfl) (by kernel_rfl) (by kernel_rfl) ?_ ?_
         ·exact
           Obls.p (fun R' w' hw hs hd => of_move ((hs 13 rfl).trans h13)) <|
           Obls.p (fun R' w' hw hs hd => of_move ((hs 12 rfl).trans h12)) <|
           Obls.p (fun R' w' hw hs hd => by have a0 : R' 98 = .int .i64 x81 := hd.g 0 rfl; have a1 : R' 99 = .int .i64 x54.1 := hd.g 1 rfl; exact of_neq a0 a1) <|
           Obls.nil
         intro R w hw hs hF'
         have h100 : R 100 = .bool (x81 != x54.1) := hF' 2 _ _ rfl rfl rfl
         replace hO := hO.fr hw
         replace hA := hA.fr hw.size
         replace hF := hF.trans hw
         clear hs hF' hw
         refine seqR_nil ?_
         refine HT.cond (x81 != x54.1) h100 (fun c84 => ?_) (fun c84 => ?_)
         ·have hr := cnd_t c84 hr
          refine HT.seq ?_
          refine HT.text (l := ⟨_, true, .raw (.bool false)⟩ :: []) (tl := []) (by kernel_rfl) (by kernel_rfl) (by kernel_rfl) ?_ ?_
          ·exact
            Obls.p (fun R' w' hw hs hd => of_assign rfl) <|
            Obls.nil
          intro R w hw hs hF'
          have h4 : R 4 = .bool false := hF' 0 _ _ rfl rfl rfl
          replace hO := hO.fr hw
          replace hA := hA.fr hw.size
          replace hF := hF.trans hw
          clear hs hF' hw
          refine seqR_nil ?_
          refine HT.ret ?_
          obtain rfl := Option.some.inj hr
          exact ⟨.inr rfl, [R 4], ⟨rfl, trivial⟩, h4, hF⟩
         ·have hr := cnd_f c84 hr
          refine HT.skip ?_
          refine HT.seq ?_
          refine HT.text (l := ⟨_, true, .raw (.bool true)⟩ :: []) (tl := []) (by kernel_rfl) (by kernel_rfl) (by kernel_rfl) ?_ ?_
          ·exact
            Obls.p (fun R' w' hw hs hd => of_assign rfl) <|
            Obls.nil
          intro R w hw hs hF'
          have h4 : R 4 = .bool true := hF' 0 _ _ rfl rfl rfl
          replace hO := hO.fr hw
          replace hA := hA.fr hw.size
          replace hF := hF.trans hw
          clear hs hF' hw
          refine seqR_nil ?_
          refine HT.ret ?_
          obtain rfl := Option.some.inj hr
          exact ⟨.inr rfl, [R 4], ⟨rfl, trivial⟩, h4, hF⟩
end Go.Proofs.Ytfcocbokgfmjfaa
