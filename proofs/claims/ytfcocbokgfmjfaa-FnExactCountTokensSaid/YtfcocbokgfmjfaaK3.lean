/- Printed by dec.py: plain functions and the proofs that the code computes them. No statement of the seat is proved here. -/
import Derived.Test.YtfcocbokgfmjfaaK2
namespace Go.Proofs.Ytfcocbokgfmjfaa
open Go.RowKit
set_option linter.unusedVariables false
def M_laws_FnExactCountTokens (fu : Nat) (p0 : List (List (List UInt8))) : Option Bool :=
  cl true (M_laws_szStringSS fu p0 (1048576 : Int)) fun x1 =>
  bif (decide (x1 < (0 : Int))) then (
    some true
  ) else (
    cl true (M_laws_toStringSS fu p0) fun x4 =>
    cl true (M_spec_CountTokens fu x4) fun x6 =>
    cl true (M_laws_toStringSS fu p0) fun x9 =>
    cl true (M_impl_CountTokens fu x9) fun x13 =>
    cl true (M_laws_eqTokenCountS fu x13 x6) fun x17 =>
    bif (!x17) then (
      some false
    ) else (
      cl true (M_laws_toStringSS fu p0) fun x20 =>
      cl true (M_laws_eqStringSS fu x9 x20) fun x22 =>
      bif (!x22) then (
        some false
      ) else (
        cl true (M_laws_markStringSS fu x9 (1 : Int)) fun x25 =>
        cl (true && ((decide (x25.1 < (0 : Int))) == false)) (M_laws_eqTokenCountS fu x13 x6) fun x31 =>
        bd ((decide (x25.1 < (0 : Int))) || (!x31)) fun x33 =>
        bif x33 then (
          some false
        ) else (
          cl true (M_laws_markTokenCountS fu x13 (1 : Int)) fun x36 =>
          cl true (M_laws_heldTokenCountS fu x36.2 (1 : Int)) fun x40 =>
          bif (decide (x40 < (0 : Int))) then (
            some false
          ) else (
            bif (x40 != x36.1) then (
              some false
            ) else (
              cl true (M_laws_toStringSS fu p0) fun x44 =>
              cl true (M_impl_CountTokens fu x44) fun x46 =>
              cl true (M_laws_eqTokenCountS fu x46 x6) fun x49 =>
              bif (!x49) then (
                some false
              ) else (
                cl true (M_laws_heldTokenCountS fu x36.2 (1 : Int)) fun x52 =>
                bif (decide (x52 < (0 : Int))) then (
                  some false
                ) else (
                  bif (x52 != x36.1) then (
                    some false
                  ) else (
                    some true
                  )
                )
              )
            )
          )
        )
      )
    )
  )
set_option maxRecDepth 100000 in
set_option maxHeartbeats 4000000 in
theorem M_laws_FnExactCountTokens_ok {fu : Nat} {A0 : Av} {p0 : List (List (List UInt8))} {r : Bool} (hr : M_laws_FnExactCountTokens fu p0 = some r) {w : World} {v0 : Value} (hA : AvOK A0 w) (h0 : Rep (eSl (eSl eStr)) A0 w v0 p0) :
    Calls Try.prog 4 #[v0] w fun e w' => ∃ v, e = .returned v ∧ (v = .bool r ∧ Fr w w') := by
  unfold M_laws_FnExactCountTokens at hr
  obtain ⟨w0, hw0⟩ : ∃ w0, w0 = w := ⟨_, rfl⟩
  have hF : Fr w0 w := hw0 ▸ Fr.refl _
  have hA0 : ∀ b o, A0 b o → b < w0.heap.size := fun b o h => hw0 ▸ hA b o h
  have hA00 : AvOK A0 w0 := hA0
  rw [show Fr w = Fr w0 from hw0 ▸ rfl]
  clear hw0
  obtain ⟨A, hAe⟩ : ∃ A, A = A0 := ⟨_, rfl⟩
  have hAA : ∀ b o, A0 b o → A b o := fun b o h => hAe ▸ h
  replace hA : AvOK A w := hAe ▸ hA
  have hO : IniOK [] A w := IniOK.nil
  refine calls_of_HT2 [.tmp 2] Try.func4 Try.ntmps4 (by decide) rfl rfl (Nat.le_of_ble_eq_true rfl) ?_
  intro R hR
  have f_v0 : Rep (eSl (eSl eStr)) A w v0 p0 := hAe ▸ h0
  replace h0 : R 0 = v0 := hR 0 _ rfl
  clear hR hAe
  refine HT.seq ?_
  refine HT.text (l := ⟨_, true, .raw (.bool false)⟩ :: []) (tl := []) (by kernel_rfl) (by kernel_rfl) (by kernel_rfl) ?_ ?_
  · exact
      Obls.cons (Obl.plain rfl rfl fun R' w' hw hs hd => by exact of_assign rfl) <|
      Obls.nil
  intro R w hw hs hF'
  replace h0 : R 0 = v0 := (hs 0 rfl).trans h0
  replace f_v0 := f_v0.fr hw
  replace hO := hO.fr hw
  replace hA := hA.fr hw.size
  replace hF := hF.trans hw
  clear hs hF' hw
  refine seqR_nil ?_
  refine HT.seq ?_
  refine HT.text (l := ⟨_, true, .raw (.int .i64 (1048576 : Int))⟩ :: []) (tl := []) (by kernel_rfl) (by kernel_rfl) (by kernel_rfl) ?_ ?_
  · exact
      Obls.cons (Obl.plain rfl rfl fun R' w' hw hs hd => by exact of_assign rfl) <|
      Obls.nil
  intro R w hw hs hF'
  replace h0 : R 0 = v0 := (hs 0 rfl).trans h0
  have h3 : R 3 = .int .i64 (1048576 : Int) := hF' 0 _ _ rfl rfl rfl
  replace f_v0 := f_v0.fr hw
  replace hO := hO.fr hw
  replace hA := hA.fr hw.size
  replace hF := hF.trans hw
  clear hs hF' hw
  refine seqR_nil ?_
  refine HT.seq ?_
  obtain ⟨x1, q2, hr⟩ := cl_some hr
  refine HT.text (l := ⟨_, true, .raw v0⟩ :: ⟨_, true, .raw (.int .i64 (1048576 : Int))⟩ :: ⟨_, true, .raw (.int .i64 x1)⟩ :: ⟨_, true, .raw (.int .i64 x1)⟩ :: []) (tl := []) (by kernel_rfl) (by kernel_rfl) (by kernel_rfl) ?_ ?_
  · exact
      Obls.cons (Obl.plain rfl rfl fun R' w' hw hs hd => by have a0 : R' 0 = v0 := (hs 0 rfl).trans h0; exact of_move a0) <|
      Obls.cons (Obl.plain rfl rfl fun R' w' hw hs hd => by have a0 : R' 3 = .int .i64 (1048576 : Int) := (hs 3 rfl).trans h3; exact of_move a0) <|
      Obls.cons (Obl.plain rfl rfl fun R' w' hw hs hd => by have a0 : R' 11 = v0 := hd 0 _ _ _ rfl rfl rfl rfl rfl; have ra0 := (f_v0.fr hw).eq a0; have a1 : R' 12 = .int .i64 (1048576 : Int) := hd 1 _ _ _ rfl rfl rfl rfl rfl; exact of_call Try.call24 (M_laws_szStringSS_ok (q2 rfl) (hA.fr hw.size) ra0 a1)) <|
      Obls.cons (Obl.plain rfl rfl fun R' w' hw hs hd => by have a0 : R' 13 = .int .i64 x1 := hd 0 _ _ _ rfl rfl rfl rfl rfl; exact of_assign a0) <|
      Obls.nil
  intro R w hw hs hF'
  replace h0 : R 0 = v0 := (hs 0 rfl).trans h0
  have h3 : R 3 = .int .i64 x1 := hF' 3 _ _ rfl rfl rfl
  replace f_v0 := f_v0.fr hw
  replace hO := hO.fr hw
  replace hA := hA.fr hw.size
  replace hF := hF.trans hw
  clear hs hF' hw
  refine seqR_nil ?_
  refine HT.seq ?_
  refine HT.seq ?_
  refine HT.text (l := ⟨_, true, .raw (.int .i64 x1)⟩ :: ⟨_, true, .raw (.bool (decide (x1 < (0 : Int))))⟩ :: []) (tl := []) (by kernel_rfl) (by kernel_rfl) (by kernel_rfl) ?_ ?_
  · exact
      Obls.cons (Obl.plain rfl rfl fun R' w' hw hs hd => by have a0 : R' 3 = .int .i64 x1 := (hs 3 rfl).trans h3; exact of_move a0) <|
      Obls.cons (Obl.plain rfl rfl fun R' w' hw hs hd => by have a0 : R' 14 = .int .i64 x1 := hd 0 _ _ _ rfl rfl rfl rfl rfl; exact of_lss a0 rfl) <|
      Obls.nil
  intro R w hw hs hF'
  replace h0 : R 0 = v0 := (hs 0 rfl).trans h0
  have h15 : R 15 = .bool (decide (x1 < (0 : Int))) := hF' 1 _ _ rfl rfl rfl
  replace f_v0 := f_v0.fr hw
  replace hO := hO.fr hw
  replace hA := hA.fr hw.size
  replace hF := hF.trans hw
  clear hs hF' hw
  refine seqR_nil ?_
  refine HT.cond (decide (x1 < (0 : Int))) h15 (fun c3 => ?_) (fun c3 => ?_)
  · have hr := cnd_t c3 hr
    refine HT.seq ?_
    refine HT.text (l := ⟨_, true, .raw (.bool true)⟩ :: []) (tl := []) (by kernel_rfl) (by kernel_rfl) (by kernel_rfl) ?_ ?_
    · exact
        Obls.cons (Obl.plain rfl rfl fun R' w' hw hs hd => by exact of_assign rfl) <|
        Obls.nil
    intro R w hw hs hF'
    have h2 : R 2 = .bool true := hF' 0 _ _ rfl rfl rfl
    replace hO := hO.fr hw
    replace hA := hA.fr hw.size
    replace hF := hF.trans hw
    clear hs hF' hw
    refine seqR_nil ?_
    refine HT.ret ?_
    obtain rfl := Option.some.inj hr
    exact ⟨.inr rfl, [R 2], ⟨rfl, trivial⟩, h2, hF⟩
  · have hr := cnd_f c3 hr
    refine HT.skip ?_
    refine HT.seq ?_
    obtain ⟨x4, q5, hr⟩ := cl_some hr
    obtain ⟨x6, q7, hr⟩ := cl_some hr
    refine HT.text (l := ⟨_, true, .raw v0⟩ :: ⟨_, true, .rep (eSl (eSl eStr)) A x4⟩ :: ⟨_, true, .rep (eSl E_impl_TokenCount) A x6⟩ :: ⟨_, true, .rep (eSl E_impl_TokenCount) A x6⟩ :: []) (tl := []) (by kernel_rfl) (by kernel_rfl) (by kernel_rfl) ?_ ?_
    · exact
        Obls.cons (Obl.plain rfl rfl fun R' w' hw hs hd => by have a0 : R' 0 = v0 := (hs 0 rfl).trans h0; exact of_move a0) <|
        Obls.cons (Obl.plain rfl rfl fun R' w' hw hs hd => by have a0 : R' 16 = v0 := hd 0 _ _ _ rfl rfl rfl rfl rfl; have ra0 := (f_v0.fr hw).eq a0; exact of_call Try.call26 (M_laws_toStringSS_okR (q5 rfl) (hA.fr hw.size) ra0)) <|
        Obls.cons (Obl.plain rfl rfl fun R' w' hw hs hd => by have a0 : Rep (eSl (eSl eStr)) A w' (R' 17) x4 := hd 0 _ _ _ rfl rfl rfl rfl rfl; exact of_call Try.call25 (M_spec_CountTokens_okR (q7 rfl) (hA.fr hw.size) a0)) <|
        Obls.cons (Obl.plain rfl rfl fun R' w' hw hs hd => by have a0 : Rep (eSl E_impl_TokenCount) A w' (R' 18) x6 := hd 0 _ _ _ rfl rfl rfl rfl rfl; exact of_assign a0) <|
        Obls.nil
    intro R w hw hs hF'
    replace h0 : R 0 = v0 := (hs 0 rfl).trans h0
    obtain ⟨u8, h4, f_u8⟩ : ∃ u, R 4 = u ∧ Rep (eSl E_impl_TokenCount) A w u x6 := ⟨_, rfl, hF' 3 _ _ rfl rfl rfl⟩
    replace f_v0 := f_v0.fr hw
    replace hO := hO.fr hw
    replace hA := hA.fr hw.size
    replace hF := hF.trans hw
    clear hs hF' hw
    refine seqR_nil ?_
    refine HT.seq ?_
    obtain ⟨x9, q10, hr⟩ := cl_some hr
    refine HT.textR [] (⟨_, true, [], none, true, fun A => .raw v0⟩ :: ⟨_, true, [], some (trR (geB w0.heap.size) (oSl 23 (oSl 9 (oRd eStr))) x9 []), true, fun A => .any⟩ :: ⟨_, true, [1], some (trR (geB w0.heap.size) (oSl 23 (oSl 9 (oRd eStr))) x9 []), true, fun A => .any⟩ :: []) (by kernel_rfl) (by kernel_rfl) (Wf.mk' (by kernel_rfl) (UAll.cons ust_raw (UAll.cons ust_any (UAll.cons ust_any (UAll.nil)))) (by kernel_rfl) (by kernel_rfl)) hO hA ?_ ?_
    · exact
        OblsR.cons (OblR.plain rfl rfl rfl rfl fun A' R' w' ho hd => by have a0 : R' 0 = v0 := (ho.old 0 rfl).trans h0; exact of_move a0) <|
        OblsR.cons (OblR.madeS _ rfl rfl rfl rfl fun A' R' w' ho hd => by have a0 : R' 19 = v0 := hd 0 _ _ _ rfl rfl rfl rfl rfl; have ra0 := (f_v0.stp ho.stp).eq a0; exact made_callT Try.call26 (M_laws_toStringSS_ok (q10 rfl) ho.av ra0) (fun k hk => Nat.le_trans (Nat.le_trans hF.size ho.ch.size) hk)) <|
        OblsR.cons (OblR.tookS 1 _ _ rfl rfl rfl rfl rfl fun A' R' w' ho hd u S hok hown hav hin hop hds => by exact took_assignT (hop _ _ rfl rfl rfl rfl).symm (trP.nopin hown.2) hav hown.1) <|
        OblsR.nil
    intro done ρ σ A R w hdn hI
    replace h0 : R 0 = v0 := (hI.reg rfl).trans h0
    replace h4 : R 4 = u8 := (hI.reg rfl).trans h4
    obtain ⟨u11, e_u11⟩ : ∃ u, ρ 2 = u := ⟨_, rfl⟩
    have h5 : R 5 = u11 := (hI.opvR hdn 2 2 rfl rfl rfl rfl rfl).symm.trans e_u11
    obtain ⟨S12, eS_u11⟩ : ∃ S, σ 2 = S := ⟨_, rfl⟩
    replace f_u8 := f_u8.stp hI.stp
    replace f_v0 := f_v0.stp hI.stp
    replace hAA := hI.low' hAA hA0 (hO.ge (trivial))
    replace hF : Fr w0 w := hF.tr hI.ch (hO.ge (trivial))
    replace hO : IniOK [⟨u11, S12, trR (geB w0.heap.size) (oSl 23 (oSl 9 (oRd eStr))) x9 []⟩] A w := hI.left hdn [(2, ⟨u11, S12, trR (geB w0.heap.size) (oSl 23 (oSl 9 (oRd eStr))) x9 []⟩)] ⟨rfl, rfl, e_u11, eS_u11, rfl, trivial⟩
    replace hA := hI.avok
    clear hI
    refine HT.seq ?_
    obtain ⟨x13, q14, hr⟩ := cl_some hr
    refine HT.textR [⟨u11, S12, trR (geB w0.heap.size) (oSl 23 (oSl 9 (oRd eStr))) x9 []⟩] (⟨_, true, [], none, true, fun A => .raw u11⟩ :: ⟨_, true, [], some (.vec w0.heap.size 76 E_impl_TokenCount x13), true, fun A => .any⟩ :: ⟨_, true, [2], some (.vec w0.heap.size 76 E_impl_TokenCount x13), true, fun A => .any⟩ :: []) (by kernel_rfl) (by kernel_rfl) (Wf.mk' (by kernel_rfl) (UAll.cons ust_raw (UAll.cons ust_any (UAll.cons ust_any (UAll.nil)))) (by kernel_rfl) (by kernel_rfl)) hO hA ?_ ?_
    · exact
        OblsR.cons (OblR.plain rfl rfl rfl rfl fun A' R' w' ho hd => by have a0 : R' 5 = u11 := (ho.old 5 rfl).trans h5; exact of_move a0) <|
        OblsR.cons (OblR.made _ rfl rfl rfl rfl fun A' R' w' ho hd => by have a0 : R' 21 = u11 := hd 0 _ _ _ rfl rfl rfl rfl rfl; have ra0 : Rep (eSl (eSl eStr)) A0 w' (R' 21) _ := (tr_rep (ho.rdo 0 _ rfl rfl).2 (ho.low' hAA hA0 (hO.ge (⟨fun _ h => h, trivial⟩))) (fun k o hk ha => Nat.not_lt.2 ((ho.rdo 0 _ rfl rfl).1 k hk) (hA0 k o ha))).eq a0; exact made_call0 Try.call27 (M_impl_CountTokens_ok (q14 rfl) (hA00.fr ((Nat.le_trans hF.size ho.ch.size))) ra0) (Nat.le_trans hF.size ho.ch.size) (ho.low' hAA hA0 (hO.ge (⟨fun _ h => h, trivial⟩))) (fun _ _ _ _ _ h => h)) <|
        OblsR.cons (OblR.took 2 _ _ rfl rfl rfl rfl rfl fun A' R' w' ho hd u hok hav hin hop hds => by exact took_assign (hop _ _ rfl rfl rfl rfl).symm hok hav) <|
        OblsR.nil
    intro done ρ σ A R w hdn hI
    replace h0 : R 0 = v0 := (hI.reg rfl).trans h0
    replace h4 : R 4 = u8 := (hI.reg rfl).trans h4
    replace h5 : R 5 = u11 := (hI.reg rfl).trans h5
    have z15 := hI.inivR 0 rfl
    obtain ⟨u16, e_u16⟩ : ∃ u, ρ 3 = u := ⟨_, rfl⟩
    have h6 : R 6 = u16 := (hI.opvR hdn 3 2 rfl rfl rfl rfl rfl).symm.trans e_u16
    have eS_u11 := hI.inisR 0 rfl
    replace f_u8 := f_u8.stp hI.stp
    replace f_v0 := f_v0.stp hI.stp
    replace hAA := hI.low' hAA hA0 (hO.ge (⟨fun _ h => h, trivial⟩))
    replace hF : Fr w0 w := hF.tr hI.ch (hO.ge (⟨fun _ h => h, trivial⟩))
    replace hO : IniOK [⟨u11, S12, trR (geB w0.heap.size) (oSl 23 (oSl 9 (oRd eStr))) x9 []⟩, ob u16 (.vec w0.heap.size 76 E_impl_TokenCount x13)] A w := hI.left hdn [(0, ⟨u11, S12, trR (geB w0.heap.size) (oSl 23 (oSl 9 (oRd eStr))) x9 []⟩), (3, ob u16 (.vec w0.heap.size 76 E_impl_TokenCount x13))] ⟨rfl, rfl, z15, eS_u11, rfl, ⟨rfl, rfl, e_u16, rfl, rfl, trivial⟩⟩
    replace hA := hI.avok
    clear hI
    refine HT.seq ?_
    refine HT.seq ?_
    obtain ⟨x17, q18, hr⟩ := cl_some hr
    refine HT.text (l := ⟨_, true, .raw u16⟩ :: ⟨_, true, .raw u8⟩ :: ⟨_, true, .raw (.bool x17)⟩ :: ⟨_, true, .raw (.bool (!x17))⟩ :: []) (tl := []) (by kernel_rfl) (by kernel_rfl) (by kernel_rfl) ?_ ?_
    · exact
        Obls.cons (Obl.plain rfl rfl fun R' w' hw hs hd => by have a0 : R' 6 = u16 := (hs 6 rfl).trans h6; exact of_move a0) <|
        Obls.cons (Obl.plain rfl rfl fun R' w' hw hs hd => by have a0 : R' 4 = u8 := (hs 4 rfl).trans h4; exact of_move a0) <|
        Obls.cons (Obl.plain rfl rfl fun R' w' hw hs hd => by have a0 : R' 23 = u16 := hd 0 _ _ _ rfl rfl rfl rfl rfl; have ra0 := (vec_rep ((hO.fr hw).ok 1 _ rfl).1 hAA hA0).eq a0; have a1 : R' 24 = u8 := hd 1 _ _ _ rfl rfl rfl rfl rfl; have ra1 := (f_u8.fr hw).eq a1; exact of_call Try.call20 (M_laws_eqTokenCountS_ok (q18 rfl) (hA00.fr ((Nat.le_trans hF.size hw.size))) ra0 (ra1.down hAA))) <|
        Obls.cons (Obl.plain rfl rfl fun R' w' hw hs hd => by have a0 : R' 25 = .bool x17 := hd 0 _ _ _ rfl rfl rfl rfl rfl; exact of_not a0) <|
        Obls.nil
    intro R w hw hs hF'
    replace h0 : R 0 = v0 := (hs 0 rfl).trans h0
    replace h4 : R 4 = u8 := (hs 4 rfl).trans h4
    replace h5 : R 5 = u11 := (hs 5 rfl).trans h5
    replace h6 : R 6 = u16 := (hs 6 rfl).trans h6
    have h26 : R 26 = .bool (!x17) := hF' 3 _ _ rfl rfl rfl
    replace f_u8 := f_u8.fr hw
    replace f_v0 := f_v0.fr hw
    replace hO := hO.fr hw
    replace hA := hA.fr hw.size
    replace hF := hF.trans hw
    clear hs hF' hw
    refine seqR_nil ?_
    refine HT.cond (!x17) h26 (fun c19 => ?_) (fun c19 => ?_)
    · have hr := cnd_t c19 hr
      refine HT.seq ?_
      refine HT.text (l := ⟨_, true, .raw (.bool false)⟩ :: []) (tl := []) (by kernel_rfl) (by kernel_rfl) (by kernel_rfl) ?_ ?_
      · exact
          Obls.cons (Obl.plain rfl rfl fun R' w' hw hs hd => by exact of_assign rfl) <|
          Obls.nil
      intro R w hw hs hF'
      have h2 : R 2 = .bool false := hF' 0 _ _ rfl rfl rfl
      replace hO := hO.fr hw
      replace hO : IniOK [] A w := hO.sub [] trivial
      replace hA := hA.fr hw.size
      replace hF := hF.trans hw
      clear hs hF' hw
      refine seqR_nil ?_
      refine HT.ret ?_
      obtain rfl := Option.some.inj hr
      exact ⟨.inr rfl, [R 2], ⟨rfl, trivial⟩, h2, hF⟩
    · have hr := cnd_f c19 hr
      refine HT.skip ?_
      refine HT.seq ?_
      refine HT.seq ?_
      obtain ⟨x20, q21, hr⟩ := cl_some hr
      obtain ⟨x22, q23, hr⟩ := cl_some hr
      refine HT.text (l := ⟨_, true, .raw u11⟩ :: ⟨_, true, .raw v0⟩ :: ⟨_, true, .rep (eSl (eSl eStr)) A x20⟩ :: ⟨_, true, .raw (.bool x22)⟩ :: ⟨_, true, .raw (.bool (!x22))⟩ :: []) (tl := []) (by kernel_rfl) (by kernel_rfl) (by kernel_rfl) ?_ ?_
      · exact
          Obls.cons (Obl.plain rfl rfl fun R' w' hw hs hd => by have a0 : R' 5 = u11 := (hs 5 rfl).trans h5; exact of_move a0) <|
          Obls.cons (Obl.plain rfl rfl fun R' w' hw hs hd => by have a0 : R' 0 = v0 := (hs 0 rfl).trans h0; exact of_move a0) <|
          Obls.cons (Obl.plain rfl rfl fun R' w' hw hs hd => by have a0 : R' 28 = v0 := hd 0 _ _ _ rfl rfl rfl rfl rfl; have ra0 := (f_v0.fr hw).eq a0; exact of_call Try.call26 (M_laws_toStringSS_okR (q21 rfl) (hA.fr hw.size) ra0)) <|
          Obls.cons (Obl.plain rfl rfl fun R' w' hw hs hd => by have a0 : R' 27 = u11 := hd 0 _ _ _ rfl rfl rfl rfl rfl; have ra0 : Rep (eSl (eSl eStr)) A0 w' (R' 27) _ := (tr_rep ((hO.fr hw).own 0 _ rfl).2 hAA (fun k o hk ha => Nat.not_lt.2 (((hO.fr hw).own 0 _ rfl).1 k hk) (hA0 k o ha))).eq a0; have a1 : Rep (eSl (eSl eStr)) A w' (R' 29) x20 := hd 1 _ _ _ rfl rfl rfl rfl rfl; exact of_call Try.call28 (M_laws_eqStringSS_ok (q23 rfl) (hA00.fr ((Nat.le_trans hF.size hw.size))) ra0 (a1.down hAA))) <|
          Obls.cons (Obl.plain rfl rfl fun R' w' hw hs hd => by have a0 : R' 30 = .bool x22 := hd 0 _ _ _ rfl rfl rfl rfl rfl; exact of_not a0) <|
          Obls.nil
      intro R w hw hs hF'
      replace h0 : R 0 = v0 := (hs 0 rfl).trans h0
      replace h4 : R 4 = u8 := (hs 4 rfl).trans h4
      replace h5 : R 5 = u11 := (hs 5 rfl).trans h5
      replace h6 : R 6 = u16 := (hs 6 rfl).trans h6
      have h31 : R 31 = .bool (!x22) := hF' 4 _ _ rfl rfl rfl
      replace f_u8 := f_u8.fr hw
      replace f_v0 := f_v0.fr hw
      replace hO := hO.fr hw
      replace hA := hA.fr hw.size
      replace hF := hF.trans hw
      clear hs hF' hw
      refine seqR_nil ?_
      refine HT.cond (!x22) h31 (fun c24 => ?_) (fun c24 => ?_)
      · have hr := cnd_t c24 hr
        refine HT.seq ?_
        refine HT.text (l := ⟨_, true, .raw (.bool false)⟩ :: []) (tl := []) (by kernel_rfl) (by kernel_rfl) (by kernel_rfl) ?_ ?_
        · exact
            Obls.cons (Obl.plain rfl rfl fun R' w' hw hs hd => by exact of_assign rfl) <|
            Obls.nil
        intro R w hw hs hF'
        have h2 : R 2 = .bool false := hF' 0 _ _ rfl rfl rfl
        replace hO := hO.fr hw
        replace hO : IniOK [] A w := hO.sub [] trivial
        replace hA := hA.fr hw.size
        replace hF := hF.trans hw
        clear hs hF' hw
        refine seqR_nil ?_
        refine HT.ret ?_
        obtain rfl := Option.some.inj hr
        exact ⟨.inr rfl, [R 2], ⟨rfl, trivial⟩, h2, hF⟩
      · have hr := cnd_f c24 hr
        refine HT.skip ?_
        refine HT.seq ?_
        refine HT.text (l := ⟨_, true, .raw (.int .i64 (1 : Int))⟩ :: []) (tl := []) (by kernel_rfl) (by kernel_rfl) (by kernel_rfl) ?_ ?_
        · exact
            Obls.cons (Obl.plain rfl rfl fun R' w' hw hs hd => by exact of_assign rfl) <|
            Obls.nil
        intro R w hw hs hF'
        replace h0 : R 0 = v0 := (hs 0 rfl).trans h0
        replace h4 : R 4 = u8 := (hs 4 rfl).trans h4
        replace h5 : R 5 = u11 := (hs 5 rfl).trans h5
        replace h6 : R 6 = u16 := (hs 6 rfl).trans h6
        have h7 : R 7 = .int .i64 (1 : Int) := hF' 0 _ _ rfl rfl rfl
        replace f_u8 := f_u8.fr hw
        replace f_v0 := f_v0.fr hw
        replace hO := hO.fr hw
        replace hA := hA.fr hw.size
        replace hF := hF.trans hw
        clear hs hF' hw
        refine seqR_nil ?_
        refine HT.seq ?_
        obtain ⟨x25, q26, hr⟩ := cl_some hr
        refine HT.textR [⟨u11, S12, trR (geB w0.heap.size) (oSl 23 (oSl 9 (oRd eStr))) x9 []⟩, ob u16 (.vec w0.heap.size 76 E_impl_TokenCount x13)] (⟨_, true, [], none, true, fun A => .raw u11⟩ :: ⟨_, true, [], none, true, fun A => .raw (.int .i64 (1 : Int))⟩ :: ⟨_, true, [0], some (trR (geB w0.heap.size) (oSl 23 (oSl 9 (oRd eStr))) x25.2 []), false, fun A => .raw (.int .i64 x25.1)⟩ :: ⟨_, true, [], none, true, fun A => .raw (.int .i64 x25.1)⟩ :: []) (by kernel_rfl) (by kernel_rfl) (Wf.mk' (by kernel_rfl) (UAll.cons ust_raw (UAll.cons ust_raw (UAll.cons ust_raw (UAll.cons ust_raw (UAll.nil))))) (by kernel_rfl) (by kernel_rfl)) hO hA ?_ ?_
        · exact
            OblsR.cons (OblR.plain rfl rfl rfl rfl fun A' R' w' ho hd => by have a0 : R' 5 = u11 := (ho.old 5 rfl).trans h5; exact of_move a0) <|
            OblsR.cons (OblR.plain rfl rfl rfl rfl fun A' R' w' ho hd => by have a0 : R' 7 = .int .i64 (1 : Int) := (ho.old 7 rfl).trans h7; exact of_move a0) <|
            OblsR.cons (OblR.tookS 0 _ _ rfl rfl rfl rfl rfl fun A' R' w' ho hd u S hok hown hav hin hop hds => by have a0 : R' 32 = u11 := hd 0 _ _ _ rfl rfl rfl rfl rfl; have a1 : R' 33 = .int .i64 (1 : Int) := hd 1 _ _ _ rfl rfl rfl rfl rfl; have e0 := (hin _ rfl).1; rw [e0] at hown ⊢; have hu0 : evalR R' (.tmp 32) = u11 := a0; exact took_callT Try.call29 (tr_root hown.2) hav hown.1 (fun k hk => Nat.le_trans (Nat.le_trans hF.size ho.ch.size) hk) (fun k hk => SP.lt _ hown.2 hk) (fun S1 hS1 hP => by simp only [List.map, hu0]; exact M_laws_markStringSS_ok (q26 rfl) (ho.av.subS _) (fun b o h => h.2) hP a1) (fun _ _ _ h => h)) <|
            OblsR.cons (OblR.plain rfl rfl rfl rfl fun A' R' w' ho hd => by have a0 : R' 34 = .int .i64 x25.1 := hd 0 _ _ _ rfl rfl rfl rfl rfl; exact of_assign a0) <|
            OblsR.nil
        intro done ρ σ A R w hdn hI
        replace h0 : R 0 = v0 := (hI.reg rfl).trans h0
        replace h4 : R 4 = u8 := (hI.reg rfl).trans h4
        replace h6 : R 6 = u16 := (hI.reg rfl).trans h6
        have z27 := hI.inivR 0 rfl
        have z28 := (hI.opnR hdn 4 2 rfl rfl rfl rfl rfl).trans z27
        have z29 := hI.inivR 1 rfl
        obtain ⟨S30, eS_u11⟩ : ∃ S, σ 4 = S := ⟨_, rfl⟩
        have h7 : R 7 = .int .i64 x25.1 := hI.fact hdn (i := 3) rfl rfl rfl
        replace f_u8 := f_u8.stp hI.stp
        replace f_v0 := f_v0.stp hI.stp
        replace hAA := hI.low' hAA hA0 (hO.ge (⟨fun _ h => h, ⟨rfl, trivial⟩⟩))
        replace hF : Fr w0 w := hF.tr hI.ch (hO.ge (⟨fun _ h => h, ⟨rfl, trivial⟩⟩))
        replace hO : IniOK [ob u16 (.vec w0.heap.size 76 E_impl_TokenCount x13)] A w := hI.left hdn [(1, ob u16 (.vec w0.heap.size 76 E_impl_TokenCount x13))] ⟨rfl, rfl, z29, rfl, rfl, trivial⟩
        replace hA := hI.avok
        clear hI
        refine HT.seq ?_
        refine HT.seq ?_
        obtain ⟨x31, q32, hr⟩ := cl_some hr
        obtain ⟨x33, q34, hr⟩ := bd_some hr
        refine HT.text (l := ⟨_, true, .raw (.int .i64 x25.1)⟩ :: ⟨_, true, .raw (.bool (decide (x25.1 < (0 : Int))))⟩ :: ⟨_, true, .raw (.bool (decide (x25.1 < (0 : Int))))⟩ :: ⟨_, (true && ((decide (x25.1 < (0 : Int))) == false)), .raw u16⟩ :: ⟨_, (true && ((decide (x25.1 < (0 : Int))) == false)), .raw u8⟩ :: ⟨_, (true && ((decide (x25.1 < (0 : Int))) == false)), .raw (.bool x31)⟩ :: ⟨_, (true && ((decide (x25.1 < (0 : Int))) == false)), .raw (.bool (!x31))⟩ :: ⟨_, true, .raw (.bool x33)⟩ :: []) (tl := []) (by kernel_rfl) (by kernel_rfl) (by kernel_rfl) ?_ ?_
        · exact
            Obls.cons (Obl.plain rfl rfl fun R' w' hw hs hd => by have a0 : R' 7 = .int .i64 x25.1 := (hs 7 rfl).trans h7; exact of_move a0) <|
            Obls.cons (Obl.plain rfl rfl fun R' w' hw hs hd => by have a0 : R' 35 = .int .i64 x25.1 := hd 0 _ _ _ rfl rfl rfl rfl rfl; exact of_lss a0 rfl) <|
            Obls.cons (Obl.plain rfl rfl fun R' w' hw hs hd => by have a0 : R' 36 = .bool (decide (x25.1 < (0 : Int))) := hd 0 _ _ _ rfl rfl rfl rfl rfl; exact of_move a0) <|
            Obls.cons (Obl.grd 2 false _ _ _ rfl rfl rfl rfl rfl (by kernel_rfl) fun hg R' w' hw hs hd => by have a0 : R' 6 = u16 := (hs 6 rfl).trans h6; exact of_move a0) <|
            Obls.cons (Obl.grd 2 false _ _ _ rfl rfl rfl rfl rfl (by kernel_rfl) fun hg R' w' hw hs hd => by have a0 : R' 4 = u8 := (hs 4 rfl).trans h4; exact of_move a0) <|
            Obls.cons (Obl.grd 2 false _ _ _ rfl rfl rfl rfl rfl (by kernel_rfl) fun hg R' w' hw hs hd => by have a0 : R' 38 = u16 := hd 0 _ _ _ rfl rfl rfl rfl hg; have ra0 := (vec_rep ((hO.fr hw).ok 0 _ rfl).1 hAA hA0).eq a0; have a1 : R' 39 = u8 := hd 1 _ _ _ rfl rfl rfl rfl hg; have ra1 := (f_u8.fr hw).eq a1; exact of_call Try.call20 (M_laws_eqTokenCountS_ok (q32 hg) (hA00.fr ((Nat.le_trans hF.size hw.size))) ra0 (ra1.down hAA))) <|
            Obls.cons (Obl.grd 2 false _ _ _ rfl rfl rfl rfl rfl (by kernel_rfl) fun hg R' w' hw hs hd => by have a0 : R' 40 = .bool x31 := hd 0 _ _ _ rfl rfl rfl rfl hg; exact of_not a0) <|
            Obls.cons (Obl.plain rfl rfl fun R' w' hw hs hd => by have a0 : R' 37 = .bool (decide (x25.1 < (0 : Int))) := hd 0 _ _ _ rfl rfl rfl rfl rfl; exact of_pick (decide (x25.1 < (0 : Int))) a0 (fun hc => by show _ = Value.bool x33; rw [q34, hc]; exact rfl) (fun hc => by have a2 : R' 41 = .bool (!x31) := hd 1 _ _ _ rfl rfl rfl rfl (g_and rfl (beq_of hc)); show _ = Value.bool x33; rw [q34, hc]; exact a2)) <|
            Obls.nil
        intro R w hw hs hF'
        replace h0 : R 0 = v0 := (hs 0 rfl).trans h0
        replace h4 : R 4 = u8 := (hs 4 rfl).trans h4
        replace h6 : R 6 = u16 := (hs 6 rfl).trans h6
        have h42 : R 42 = .bool x33 := hF' 7 _ _ rfl rfl rfl
        replace f_u8 := f_u8.fr hw
        replace f_v0 := f_v0.fr hw
        replace hO := hO.fr hw
        replace hA := hA.fr hw.size
        replace hF := hF.trans hw
        clear hs hF' hw
        refine seqR_nil ?_
        refine HT.cond x33 h42 (fun c35 => ?_) (fun c35 => ?_)
        · have hr := cnd_t c35 hr
          refine HT.seq ?_
          refine HT.text (l := ⟨_, true, .raw (.bool false)⟩ :: []) (tl := []) (by kernel_rfl) (by kernel_rfl) (by kernel_rfl) ?_ ?_
          · exact
              Obls.cons (Obl.plain rfl rfl fun R' w' hw hs hd => by exact of_assign rfl) <|
              Obls.nil
          intro R w hw hs hF'
          have h2 : R 2 = .bool false := hF' 0 _ _ rfl rfl rfl
          replace hO := hO.fr hw
          replace hO : IniOK [] A w := hO.sub [] trivial
          replace hA := hA.fr hw.size
          replace hF := hF.trans hw
          clear hs hF' hw
          refine seqR_nil ?_
          refine HT.ret ?_
          obtain rfl := Option.some.inj hr
          exact ⟨.inr rfl, [R 2], ⟨rfl, trivial⟩, h2, hF⟩
        · have hr := cnd_f c35 hr
          refine HT.skip ?_
          refine HT.seq ?_
          refine HT.text (l := ⟨_, true, .raw (.int .i64 (1 : Int))⟩ :: []) (tl := []) (by kernel_rfl) (by kernel_rfl) (by kernel_rfl) ?_ ?_
          · exact
              Obls.cons (Obl.plain rfl rfl fun R' w' hw hs hd => by exact of_assign rfl) <|
              Obls.nil
          intro R w hw hs hF'
          replace h0 : R 0 = v0 := (hs 0 rfl).trans h0
          replace h4 : R 4 = u8 := (hs 4 rfl).trans h4
          replace h6 : R 6 = u16 := (hs 6 rfl).trans h6
          have h8 : R 8 = .int .i64 (1 : Int) := hF' 0 _ _ rfl rfl rfl
          replace f_u8 := f_u8.fr hw
          replace f_v0 := f_v0.fr hw
          replace hO := hO.fr hw
          replace hA := hA.fr hw.size
          replace hF := hF.trans hw
          clear hs hF' hw
          refine seqR_nil ?_
          refine HT.seq ?_
          obtain ⟨x36, q37, hr⟩ := cl_some hr
          refine HT.textR [ob u16 (.vec w0.heap.size 76 E_impl_TokenCount x13)] (⟨_, true, [], none, true, fun A => .raw u16⟩ :: ⟨_, true, [], none, true, fun A => .raw (.int .i64 (1 : Int))⟩ :: ⟨_, true, [0], some (.vec w0.heap.size 76 E_impl_TokenCount x36.2), false, fun A => .raw (.int .i64 x36.1)⟩ :: ⟨_, true, [], none, true, fun A => .raw (.int .i64 x36.1)⟩ :: []) (by kernel_rfl) (by kernel_rfl) (Wf.mk' (by kernel_rfl) (UAll.cons ust_raw (UAll.cons ust_raw (UAll.cons ust_raw (UAll.cons ust_raw (UAll.nil))))) (by kernel_rfl) (by kernel_rfl)) hO hA ?_ ?_
          · exact
              OblsR.cons (OblR.plain rfl rfl rfl rfl fun A' R' w' ho hd => by have a0 : R' 6 = u16 := (ho.old 6 rfl).trans h6; exact of_move a0) <|
              OblsR.cons (OblR.plain rfl rfl rfl rfl fun A' R' w' ho hd => by have a0 : R' 8 = .int .i64 (1 : Int) := (ho.old 8 rfl).trans h8; exact of_move a0) <|
              OblsR.cons (OblR.took 0 _ _ rfl rfl rfl rfl rfl fun A' R' w' ho hd u hok hav hin hop hds => by have a0 : R' 43 = u16 := hd 0 _ _ _ rfl rfl rfl rfl rfl; have a1 : R' 44 = .int .i64 (1 : Int) := hd 1 _ _ _ rfl rfl rfl rfl rfl; have hu0 : evalR R' (.tmp 43) = u := a0.trans (hin _ rfl).symm; exact took_call Try.call21 hav (fun _ _ _ _ _ h => h) (by simp only [List.map, hu0]; exact Calls.mono (M_laws_markTokenCountS_ok (q37 rfl) (ho.av.sub _) (fun b o h => h.2) (Vec.flat hok (fun _ _ _ _ _ h => h)) a1) (fun _ _ ⟨v, h1, h2, h3, h4⟩ => ⟨v, h1, h2, h3, h4⟩))) <|
              OblsR.cons (OblR.plain rfl rfl rfl rfl fun A' R' w' ho hd => by have a0 : R' 45 = .int .i64 x36.1 := hd 0 _ _ _ rfl rfl rfl rfl rfl; exact of_assign a0) <|
              OblsR.nil
          intro done ρ σ A R w hdn hI
          replace h0 : R 0 = v0 := (hI.reg rfl).trans h0
          replace h4 : R 4 = u8 := (hI.reg rfl).trans h4
          replace h6 : R 6 = u16 := (hI.reg rfl).trans h6
          have z38 := hI.inivR 0 rfl
          have z39 := (hI.opnR hdn 3 2 rfl rfl rfl rfl rfl).trans z38
          have h8 : R 8 = .int .i64 x36.1 := hI.fact hdn (i := 3) rfl rfl rfl
          replace f_u8 := f_u8.stp hI.stp
          replace f_v0 := f_v0.stp hI.stp
          replace hAA := hI.low' hAA hA0 (hO.ge (⟨rfl, trivial⟩))
          replace hF : Fr w0 w := hF.tr hI.ch (hO.ge (⟨rfl, trivial⟩))
          replace hO : IniOK [ob u16 (.vec w0.heap.size 76 E_impl_TokenCount x36.2)] A w := hI.left hdn [(3, ob u16 (.vec w0.heap.size 76 E_impl_TokenCount x36.2))] ⟨rfl, rfl, z39, rfl, rfl, trivial⟩
          replace hA := hI.avok
          clear hI
          refine HT.seq ?_
          refine HT.text (l := ⟨_, true, .raw (.int .i64 (1 : Int))⟩ :: []) (tl := []) (by kernel_rfl) (by kernel_rfl) (by kernel_rfl) ?_ ?_
          · exact
              Obls.cons (Obl.plain rfl rfl fun R' w' hw hs hd => by exact of_assign rfl) <|
              Obls.nil
          intro R w hw hs hF'
          replace h0 : R 0 = v0 := (hs 0 rfl).trans h0
          replace h4 : R 4 = u8 := (hs 4 rfl).trans h4
          replace h6 : R 6 = u16 := (hs 6 rfl).trans h6
          replace h8 : R 8 = .int .i64 x36.1 := (hs 8 rfl).trans h8
          have h9 : R 9 = .int .i64 (1 : Int) := hF' 0 _ _ rfl rfl rfl
          replace f_u8 := f_u8.fr hw
          replace f_v0 := f_v0.fr hw
          replace hO := hO.fr hw
          replace hA := hA.fr hw.size
          replace hF := hF.trans hw
          clear hs hF' hw
          refine seqR_nil ?_
          refine HT.seq ?_
          obtain ⟨x40, q41, hr⟩ := cl_some hr
          refine HT.text (l := ⟨_, true, .raw u16⟩ :: ⟨_, true, .raw (.int .i64 (1 : Int))⟩ :: ⟨_, true, .raw (.int .i64 x40)⟩ :: ⟨_, true, .raw (.int .i64 x40)⟩ :: []) (tl := []) (by kernel_rfl) (by kernel_rfl) (by kernel_rfl) ?_ ?_
          · exact
              Obls.cons (Obl.plain rfl rfl fun R' w' hw hs hd => by have a0 : R' 6 = u16 := (hs 6 rfl).trans h6; exact of_move a0) <|
              Obls.cons (Obl.plain rfl rfl fun R' w' hw hs hd => by have a0 : R' 9 = .int .i64 (1 : Int) := (hs 9 rfl).trans h9; exact of_move a0) <|
              Obls.cons (Obl.plain rfl rfl fun R' w' hw hs hd => by have a0 : R' 46 = u16 := hd 0 _ _ _ rfl rfl rfl rfl rfl; have ra0 := (vec_rep ((hO.fr hw).ok 0 _ rfl).1 hAA hA0).eq a0; have a1 : R' 47 = .int .i64 (1 : Int) := hd 1 _ _ _ rfl rfl rfl rfl rfl; exact of_call Try.call30 (M_laws_heldTokenCountS_ok (q41 rfl) (hA00.fr ((Nat.le_trans hF.size hw.size))) ra0 a1)) <|
              Obls.cons (Obl.plain rfl rfl fun R' w' hw hs hd => by have a0 : R' 48 = .int .i64 x40 := hd 0 _ _ _ rfl rfl rfl rfl rfl; exact of_assign a0) <|
              Obls.nil
          intro R w hw hs hF'
          replace h0 : R 0 = v0 := (hs 0 rfl).trans h0
          replace h4 : R 4 = u8 := (hs 4 rfl).trans h4
          replace h6 : R 6 = u16 := (hs 6 rfl).trans h6
          replace h8 : R 8 = .int .i64 x36.1 := (hs 8 rfl).trans h8
          have h9 : R 9 = .int .i64 x40 := hF' 3 _ _ rfl rfl rfl
          replace f_u8 := f_u8.fr hw
          replace f_v0 := f_v0.fr hw
          replace hO := hO.fr hw
          replace hA := hA.fr hw.size
          replace hF := hF.trans hw
          clear hs hF' hw
          refine seqR_nil ?_
          refine HT.seq ?_
          refine HT.seq ?_
          refine HT.text (l := ⟨_, true, .raw (.int .i64 x40)⟩ :: ⟨_, true, .raw (.bool (decide (x40 < (0 : Int))))⟩ :: []) (tl := []) (by kernel_rfl) (by kernel_rfl) (by kernel_rfl) ?_ ?_
          · exact
              Obls.cons (Obl.plain rfl rfl fun R' w' hw hs hd => by have a0 : R' 9 = .int .i64 x40 := (hs 9 rfl).trans h9; exact of_move a0) <|
              Obls.cons (Obl.plain rfl rfl fun R' w' hw hs hd => by have a0 : R' 49 = .int .i64 x40 := hd 0 _ _ _ rfl rfl rfl rfl rfl; exact of_lss a0 rfl) <|
              Obls.nil
          intro R w hw hs hF'
          replace h0 : R 0 = v0 := (hs 0 rfl).trans h0
          replace h4 : R 4 = u8 := (hs 4 rfl).trans h4
          replace h6 : R 6 = u16 := (hs 6 rfl).trans h6
          replace h8 : R 8 = .int .i64 x36.1 := (hs 8 rfl).trans h8
          replace h9 : R 9 = .int .i64 x40 := (hs 9 rfl).trans h9
          have h50 : R 50 = .bool (decide (x40 < (0 : Int))) := hF' 1 _ _ rfl rfl rfl
          replace f_u8 := f_u8.fr hw
          replace f_v0 := f_v0.fr hw
          replace hO := hO.fr hw
          replace hA := hA.fr hw.size
          replace hF := hF.trans hw
          clear hs hF' hw
          refine seqR_nil ?_
          refine HT.cond (decide (x40 < (0 : Int))) h50 (fun c42 => ?_) (fun c42 => ?_)
          · have hr := cnd_t c42 hr
            refine HT.seq ?_
            refine HT.text (l := ⟨_, true, .raw (.bool false)⟩ :: []) (tl := []) (by kernel_rfl) (by kernel_rfl) (by kernel_rfl) ?_ ?_
            · exact
                Obls.cons (Obl.plain rfl rfl fun R' w' hw hs hd => by exact of_assign rfl) <|
                Obls.nil
            intro R w hw hs hF'
            have h2 : R 2 = .bool false := hF' 0 _ _ rfl rfl rfl
            replace hO := hO.fr hw
            replace hO : IniOK [] A w := hO.sub [] trivial
            replace hA := hA.fr hw.size
            replace hF := hF.trans hw
            clear hs hF' hw
            refine seqR_nil ?_
            refine HT.ret ?_
            obtain rfl := Option.some.inj hr
            exact ⟨.inr rfl, [R 2], ⟨rfl, trivial⟩, h2, hF⟩
          · have hr := cnd_f c42 hr
            refine HT.skip ?_
            refine HT.seq ?_
            refine HT.seq ?_
            refine HT.text (l := ⟨_, true, .raw (.int .i64 x40)⟩ :: ⟨_, true, .raw (.int .i64 x36.1)⟩ :: ⟨_, true, .raw (.bool (x40 != x36.1))⟩ :: []) (tl := []) (by kernel_rfl) (by kernel_rfl) (by kernel_rfl) ?_ ?_
            · exact
                Obls.cons (Obl.plain rfl rfl fun R' w' hw hs hd => by have a0 : R' 9 = .int .i64 x40 := (hs 9 rfl).trans h9; exact of_move a0) <|
                Obls.cons (Obl.plain rfl rfl fun R' w' hw hs hd => by have a0 : R' 8 = .int .i64 x36.1 := (hs 8 rfl).trans h8; exact of_move a0) <|
                Obls.cons (Obl.plain rfl rfl fun R' w' hw hs hd => by have a0 : R' 51 = .int .i64 x40 := hd 0 _ _ _ rfl rfl rfl rfl rfl; have a1 : R' 52 = .int .i64 x36.1 := hd 1 _ _ _ rfl rfl rfl rfl rfl; exact of_neq a0 a1) <|
                Obls.nil
            intro R w hw hs hF'
            replace h0 : R 0 = v0 := (hs 0 rfl).trans h0
            replace h4 : R 4 = u8 := (hs 4 rfl).trans h4
            replace h6 : R 6 = u16 := (hs 6 rfl).trans h6
            replace h8 : R 8 = .int .i64 x36.1 := (hs 8 rfl).trans h8
            have h53 : R 53 = .bool (x40 != x36.1) := hF' 2 _ _ rfl rfl rfl
            replace f_u8 := f_u8.fr hw
            replace f_v0 := f_v0.fr hw
            replace hO := hO.fr hw
            replace hA := hA.fr hw.size
            replace hF := hF.trans hw
            clear hs hF' hw
            refine seqR_nil ?_
            refine HT.cond (x40 != x36.1) h53 (fun c43 => ?_) (fun c43 => ?_)
            · have hr := cnd_t c43 hr
              refine HT.seq ?_
              refine HT.text (l := ⟨_, true, .raw (.bool false)⟩ :: []) (tl := []) (by kernel_rfl) (by kernel_rfl) (by kernel_rfl) ?_ ?_
              · exact
                  Obls.cons (Obl.plain rfl rfl fun R' w' hw hs hd => by exact of_assign rfl) <|
                  Obls.nil
              intro R w hw hs hF'
              have h2 : R 2 = .bool false := hF' 0 _ _ rfl rfl rfl
              replace hO := hO.fr hw
              replace hO : IniOK [] A w := hO.sub [] trivial
              replace hA := hA.fr hw.size
              replace hF := hF.trans hw
              clear hs hF' hw
              refine seqR_nil ?_
              refine HT.ret ?_
              obtain rfl := Option.some.inj hr
              exact ⟨.inr rfl, [R 2], ⟨rfl, trivial⟩, h2, hF⟩
            · have hr := cnd_f c43 hr
              refine HT.skip ?_
              refine HT.seq ?_
              obtain ⟨x44, q45, hr⟩ := cl_some hr
              obtain ⟨x46, q47, hr⟩ := cl_some hr
              refine HT.text (l := ⟨_, true, .raw v0⟩ :: ⟨_, true, .rep (eSl (eSl eStr)) A x44⟩ :: ⟨_, true, .rep (eSl E_impl_TokenCount) A x46⟩ :: ⟨_, true, .rep (eSl E_impl_TokenCount) A x46⟩ :: []) (tl := []) (by kernel_rfl) (by kernel_rfl) (by kernel_rfl) ?_ ?_
              · exact
                  Obls.cons (Obl.plain rfl rfl fun R' w' hw hs hd => by have a0 : R' 0 = v0 := (hs 0 rfl).trans h0; exact of_move a0) <|
                  Obls.cons (Obl.plain rfl rfl fun R' w' hw hs hd => by have a0 : R' 54 = v0 := hd 0 _ _ _ rfl rfl rfl rfl rfl; have ra0 := (f_v0.fr hw).eq a0; exact of_call Try.call26 (M_laws_toStringSS_okR (q45 rfl) (hA.fr hw.size) ra0)) <|
                  Obls.cons (Obl.plain rfl rfl fun R' w' hw hs hd => by have a0 : Rep (eSl (eSl eStr)) A w' (R' 55) x44 := hd 0 _ _ _ rfl rfl rfl rfl rfl; exact of_call Try.call27 (M_impl_CountTokens_okR (q47 rfl) (hA.fr hw.size) a0)) <|
                  Obls.cons (Obl.plain rfl rfl fun R' w' hw hs hd => by have a0 : Rep (eSl E_impl_TokenCount) A w' (R' 56) x46 := hd 0 _ _ _ rfl rfl rfl rfl rfl; exact of_assign a0) <|
                  Obls.nil
              intro R w hw hs hF'
              replace h4 : R 4 = u8 := (hs 4 rfl).trans h4
              replace h6 : R 6 = u16 := (hs 6 rfl).trans h6
              replace h8 : R 8 = .int .i64 x36.1 := (hs 8 rfl).trans h8
              obtain ⟨u48, h10, f_u48⟩ : ∃ u, R 10 = u ∧ Rep (eSl E_impl_TokenCount) A w u x46 := ⟨_, rfl, hF' 3 _ _ rfl rfl rfl⟩
              replace f_u8 := f_u8.fr hw
              replace hO := hO.fr hw
              replace hA := hA.fr hw.size
              replace hF := hF.trans hw
              clear hs hF' hw
              refine seqR_nil ?_
              refine HT.seq ?_
              refine HT.seq ?_
              obtain ⟨x49, q50, hr⟩ := cl_some hr
              refine HT.text (l := ⟨_, true, .raw u48⟩ :: ⟨_, true, .raw u8⟩ :: ⟨_, true, .raw (.bool x49)⟩ :: ⟨_, true, .raw (.bool (!x49))⟩ :: []) (tl := []) (by kernel_rfl) (by kernel_rfl) (by kernel_rfl) ?_ ?_
              · exact
                  Obls.cons (Obl.plain rfl rfl fun R' w' hw hs hd => by have a0 : R' 10 = u48 := (hs 10 rfl).trans h10; exact of_move a0) <|
                  Obls.cons (Obl.plain rfl rfl fun R' w' hw hs hd => by have a0 : R' 4 = u8 := (hs 4 rfl).trans h4; exact of_move a0) <|
                  Obls.cons (Obl.plain rfl rfl fun R' w' hw hs hd => by have a0 : R' 57 = u48 := hd 0 _ _ _ rfl rfl rfl rfl rfl; have ra0 := (f_u48.fr hw).eq a0; have a1 : R' 58 = u8 := hd 1 _ _ _ rfl rfl rfl rfl rfl; have ra1 := (f_u8.fr hw).eq a1; exact of_call Try.call20 (M_laws_eqTokenCountS_ok (q50 rfl) (hA.fr hw.size) ra0 ra1)) <|
                  Obls.cons (Obl.plain rfl rfl fun R' w' hw hs hd => by have a0 : R' 59 = .bool x49 := hd 0 _ _ _ rfl rfl rfl rfl rfl; exact of_not a0) <|
                  Obls.nil
              intro R w hw hs hF'
              replace h6 : R 6 = u16 := (hs 6 rfl).trans h6
              replace h8 : R 8 = .int .i64 x36.1 := (hs 8 rfl).trans h8
              have h60 : R 60 = .bool (!x49) := hF' 3 _ _ rfl rfl rfl
              replace hO := hO.fr hw
              replace hA := hA.fr hw.size
              replace hF := hF.trans hw
              clear hs hF' hw
              refine seqR_nil ?_
              refine HT.cond (!x49) h60 (fun c51 => ?_) (fun c51 => ?_)
              · have hr := cnd_t c51 hr
                refine HT.seq ?_
                refine HT.text (l := ⟨_, true, .raw (.bool false)⟩ :: []) (tl := []) (by kernel_rfl) (by kernel_rfl) (by kernel_rfl) ?_ ?_
                · exact
                    Obls.cons (Obl.plain rfl rfl fun R' w' hw hs hd => by exact of_assign rfl) <|
                    Obls.nil
                intro R w hw hs hF'
                have h2 : R 2 = .bool false := hF' 0 _ _ rfl rfl rfl
                replace hO := hO.fr hw
                replace hO : IniOK [] A w := hO.sub [] trivial
                replace hA := hA.fr hw.size
                replace hF := hF.trans hw
                clear hs hF' hw
                refine seqR_nil ?_
                refine HT.ret ?_
                obtain rfl := Option.some.inj hr
                exact ⟨.inr rfl, [R 2], ⟨rfl, trivial⟩, h2, hF⟩
              · have hr := cnd_f c51 hr
                refine HT.skip ?_
                refine HT.seq ?_
                refine HT.text (l := ⟨_, true, .raw (.int .i64 (1 : Int))⟩ :: []) (tl := []) (by kernel_rfl) (by kernel_rfl) (by kernel_rfl) ?_ ?_
                · exact
                    Obls.cons (Obl.plain rfl rfl fun R' w' hw hs hd => by exact of_assign rfl) <|
                    Obls.nil
                intro R w hw hs hF'
                replace h6 : R 6 = u16 := (hs 6 rfl).trans h6
                replace h8 : R 8 = .int .i64 x36.1 := (hs 8 rfl).trans h8
                have h9 : R 9 = .int .i64 (1 : Int) := hF' 0 _ _ rfl rfl rfl
                replace hO := hO.fr hw
                replace hA := hA.fr hw.size
                replace hF := hF.trans hw
                clear hs hF' hw
                refine seqR_nil ?_
                refine HT.seq ?_
                obtain ⟨x52, q53, hr⟩ := cl_some hr
                refine HT.text (l := ⟨_, true, .raw u16⟩ :: ⟨_, true, .raw (.int .i64 (1 : Int))⟩ :: ⟨_, true, .raw (.int .i64 x52)⟩ :: ⟨_, true, .raw (.int .i64 x52)⟩ :: []) (tl := []) (by kernel_rfl) (by kernel_rfl) (by kernel_rfl) ?_ ?_
                · exact
                    Obls.cons (Obl.plain rfl rfl fun R' w' hw hs hd => by have a0 : R' 6 = u16 := (hs 6 rfl).trans h6; exact of_move a0) <|
                    Obls.cons (Obl.plain rfl rfl fun R' w' hw hs hd => by have a0 : R' 9 = .int .i64 (1 : Int) := (hs 9 rfl).trans h9; exact of_move a0) <|
                    Obls.cons (Obl.plain rfl rfl fun R' w' hw hs hd => by have a0 : R' 61 = u16 := hd 0 _ _ _ rfl rfl rfl rfl rfl; have ra0 := (vec_rep ((hO.fr hw).ok 0 _ rfl).1 hAA hA0).eq a0; have a1 : R' 62 = .int .i64 (1 : Int) := hd 1 _ _ _ rfl rfl rfl rfl rfl; exact of_call Try.call30 (M_laws_heldTokenCountS_ok (q53 rfl) (hA00.fr ((Nat.le_trans hF.size hw.size))) ra0 a1)) <|
                    Obls.cons (Obl.plain rfl rfl fun R' w' hw hs hd => by have a0 : R' 63 = .int .i64 x52 := hd 0 _ _ _ rfl rfl rfl rfl rfl; exact of_assign a0) <|
                    Obls.nil
                intro R w hw hs hF'
                replace h8 : R 8 = .int .i64 x36.1 := (hs 8 rfl).trans h8
                have h9 : R 9 = .int .i64 x52 := hF' 3 _ _ rfl rfl rfl
                replace hO := hO.fr hw
                replace hO : IniOK [] A w := hO.sub [] trivial
                replace hA := hA.fr hw.size
                replace hF := hF.trans hw
                clear hs hF' hw
                refine seqR_nil ?_
                refine HT.seq ?_
                refine HT.seq ?_
                refine HT.text (l := ⟨_, true, .raw (.int .i64 x52)⟩ :: ⟨_, true, .raw (.bool (decide (x52 < (0 : Int))))⟩ :: []) (tl := []) (by kernel_rfl) (by kernel_rfl) (by kernel_rfl) ?_ ?_
                · exact
                    Obls.cons (Obl.plain rfl rfl fun R' w' hw hs hd => by have a0 : R' 9 = .int .i64 x52 := (hs 9 rfl).trans h9; exact of_move a0) <|
                    Obls.cons (Obl.plain rfl rfl fun R' w' hw hs hd => by have a0 : R' 64 = .int .i64 x52 := hd 0 _ _ _ rfl rfl rfl rfl rfl; exact of_lss a0 rfl) <|
                    Obls.nil
                intro R w hw hs hF'
                replace h8 : R 8 = .int .i64 x36.1 := (hs 8 rfl).trans h8
                replace h9 : R 9 = .int .i64 x52 := (hs 9 rfl).trans h9
                have h65 : R 65 = .bool (decide (x52 < (0 : Int))) := hF' 1 _ _ rfl rfl rfl
                replace hO := hO.fr hw
                replace hA := hA.fr hw.size
                replace hF := hF.trans hw
                clear hs hF' hw
                refine seqR_nil ?_
                refine HT.cond (decide (x52 < (0 : Int))) h65 (fun c54 => ?_) (fun c54 => ?_)
                · have hr := cnd_t c54 hr
                  refine HT.seq ?_
                  refine HT.text (l := ⟨_, true, .raw (.bool false)⟩ :: []) (tl := []) (by kernel_rfl) (by kernel_rfl) (by kernel_rfl) ?_ ?_
                  · exact
                      Obls.cons (Obl.plain rfl rfl fun R' w' hw hs hd => by exact of_assign rfl) <|
                      Obls.nil
                  intro R w hw hs hF'
                  have h2 : R 2 = .bool false := hF' 0 _ _ rfl rfl rfl
                  replace hO := hO.fr hw
                  replace hA := hA.fr hw.size
                  replace hF := hF.trans hw
                  clear hs hF' hw
                  refine seqR_nil ?_
                  refine HT.ret ?_
                  obtain rfl := Option.some.inj hr
                  exact ⟨.inr rfl, [R 2], ⟨rfl, trivial⟩, h2, hF⟩
                · have hr := cnd_f c54 hr
                  refine HT.skip ?_
                  refine HT.seq ?_
                  refine HT.seq ?_
                  refine HT.text (l := ⟨_, true, .raw (.int .i64 x52)⟩ :: ⟨_, true, .raw (.int .i64 x36.1)⟩ :: ⟨_, true, .raw (.bool (x52 != x36.1))⟩ :: []) (tl := []) (by kernel_rfl) (by kernel_rfl) (by kernel_rfl) ?_ ?_
                  · exact
                      Obls.cons (Obl.plain rfl rfl fun R' w' hw hs hd => by have a0 : R' 9 = .int .i64 x52 := (hs 9 rfl).trans h9; exact of_move a0) <|
                      Obls.cons (Obl.plain rfl rfl fun R' w' hw hs hd => by have a0 : R' 8 = .int .i64 x36.1 := (hs 8 rfl).trans h8; exact of_move a0) <|
                      Obls.cons (Obl.plain rfl rfl fun R' w' hw hs hd => by have a0 : R' 66 = .int .i64 x52 := hd 0 _ _ _ rfl rfl rfl rfl rfl; have a1 : R' 67 = .int .i64 x36.1 := hd 1 _ _ _ rfl rfl rfl rfl rfl; exact of_neq a0 a1) <|
                      Obls.nil
                  intro R w hw hs hF'
                  have h68 : R 68 = .bool (x52 != x36.1) := hF' 2 _ _ rfl rfl rfl
                  replace hO := hO.fr hw
                  replace hA := hA.fr hw.size
                  replace hF := hF.trans hw
                  clear hs hF' hw
                  refine seqR_nil ?_
                  refine HT.cond (x52 != x36.1) h68 (fun c55 => ?_) (fun c55 => ?_)
                  · have hr := cnd_t c55 hr
                    refine HT.seq ?_
                    refine HT.text (l := ⟨_, true, .raw (.bool false)⟩ :: []) (tl := []) (by kernel_rfl) (by kernel_rfl) (by kernel_rfl) ?_ ?_
                    · exact
                        Obls.cons (Obl.plain rfl rfl fun R' w' hw hs hd => by exact of_assign rfl) <|
                        Obls.nil
                    intro R w hw hs hF'
                    have h2 : R 2 = .bool false := hF' 0 _ _ rfl rfl rfl
                    replace hO := hO.fr hw
                    replace hA := hA.fr hw.size
                    replace hF := hF.trans hw
                    clear hs hF' hw
                    refine seqR_nil ?_
                    refine HT.ret ?_
                    obtain rfl := Option.some.inj hr
                    exact ⟨.inr rfl, [R 2], ⟨rfl, trivial⟩, h2, hF⟩
                  · have hr := cnd_f c55 hr
                    refine HT.skip ?_
                    refine HT.seq ?_
                    refine HT.text (l := ⟨_, true, .raw (.bool true)⟩ :: []) (tl := []) (by kernel_rfl) (by kernel_rfl) (by kernel_rfl) ?_ ?_
                    · exact
                        Obls.cons (Obl.plain rfl rfl fun R' w' hw hs hd => by exact of_assign rfl) <|
                        Obls.nil
                    intro R w hw hs hF'
                    have h2 : R 2 = .bool true := hF' 0 _ _ rfl rfl rfl
                    replace hO := hO.fr hw
                    replace hA := hA.fr hw.size
                    replace hF := hF.trans hw
                    clear hs hF' hw
                    refine seqR_nil ?_
                    refine HT.ret ?_
                    obtain rfl := Option.some.inj hr
                    exact ⟨.inr rfl, [R 2], ⟨rfl, trivial⟩, h2, hF⟩
end Go.Proofs.Ytfcocbokgfmjfaa
