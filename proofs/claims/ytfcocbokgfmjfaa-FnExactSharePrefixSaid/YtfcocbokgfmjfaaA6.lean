/- Printed by dec.py: plain functions and the proofs that the code computes them. No statement of the seat is proved here. -/
import Derived.Test.YtfcocbokgfmjfaaA5
namespace Go.Proofs.Ytfcocbokgfmjfaa
open Go.RowKit
set_option linter.unusedVariables false
def M_laws_FnExactPrefixTokens (fu : Nat) (p0 : List T_impl_TokenCount) (p1 : List (List UInt8)) (p2 : Int) : Option Bool :=
  cl true (M_laws_szTokenCountS fu p0 (1048576 : Int)) fun x1 =>
  bif (decide (x1 < (0 : Int))) then (
    some true
  ) else (
    cl true (M_laws_szStringS fu p1 x1) fun x4 =>
    bif (decide (x4 < (0 : Int))) then (
      some true
    ) else (
      cl true (M_laws_toTokenCountS fu p0) fun x7 =>
      cl true (M_laws_toStringS fu p1) fun x9 =>
      cl true (M_spec_PrefixTokens fu x7 x9 p2) fun x11 =>
      cl true (M_laws_toTokenCountS fu p0) fun x14 =>
      cl true (M_laws_toStringS fu p1) fun x17 =>
      cl true (M_impl_PrefixTokens fu x14 x17 p2) fun x21 =>
      cl true (M_laws_eqStringS fu x21 x11) fun x26 =>
      bif (!x26) then (
        some false
      ) else (
        cl true (M_laws_toTokenCountS fu p0) fun x29 =>
        cl true (M_laws_eqTokenCountS fu x14 x29) fun x31 =>
        bif (!x31) then (
          some false
        ) else (
          cl true (M_laws_toStringS fu p1) fun x34 =>
          cl true (M_laws_eqStringS fu x17 x34) fun x36 =>
          bif (!x36) then (
            some false
          ) else (
            cl true (M_laws_markTokenCountS fu x14 (1 : Int)) fun x39 =>
            cl true (M_laws_markStringS fu x17 x39.1) fun x45 =>
            cl (true && ((decide (x45.1 < (0 : Int))) == false)) (M_laws_eqStringS fu x21 x11) fun x50 =>
            bd ((decide (x45.1 < (0 : Int))) || (!x50)) fun x52 =>
            bif x52 then (
              some false
            ) else (
              cl true (M_laws_markStringS fu x21 (1 : Int)) fun x55 =>
              cl true (M_laws_heldStringS fu x55.2 (1 : Int)) fun x59 =>
              bif (decide (x59 < (0 : Int))) then (
                some false
              ) else (
                bif (x59 != x55.1) then (
                  some false
                ) else (
                  cl true (M_laws_toTokenCountS fu p0) fun x63 =>
                  cl true (M_laws_toStringS fu p1) fun x65 =>
                  cl true (M_impl_PrefixTokens fu x63 x65 p2) fun x67 =>
                  cl true (M_laws_eqStringS fu x67 x11) fun x70 =>
                  bif (!x70) then (
                    some false
                  ) else (
                    cl true (M_laws_heldStringS fu x55.2 (1 : Int)) fun x73 =>
                    bif (decide (x73 < (0 : Int))) then (
                      some false
                    ) else (
                      bif (x73 != x55.1) then (
                        some false
                      ) else (
                        some true
                      )
                    )
                  )
                )
              )
            )
          )
        )
      )
    )
  )
set_option maxRecDepth 100000 in
set_option maxHeartbeats 4000000 in
theorem M_laws_FnExactPrefixTokens_ok {fu : Nat} {A0 : Av} {p0 : List T_impl_TokenCount} {p1 : List (List UInt8)} {p2 : Int} {r : Bool} (hr : M_laws_FnExactPrefixTokens fu p0 p1 p2 = some r) {w : World} {v0 : Value} {v1 : Value} {v2 : Value} (hA : AvOK A0 w) (h0 : Rep (eSl E_impl_TokenCount) A0 w v0 p0) (h1 : Rep (eSl eStr) A0 w v1 p1) (h2 : v2 = .int .i64 p2) :
    Calls Try.prog 5 #[v0, v1, v2] w fun e w' => ∃ v, e = .returned v ∧ (v = .bool r ∧ Fr w w') := by
  unfold M_laws_FnExactPrefixTokens at hr
  obtain ⟨w0, hw0⟩ : ∃ w0, w0 = w := ⟨_, rfl⟩
  have hF : Fr w0 w := hw0 ▸ Fr.refl _
  have hA0 : ∀ b o, A0 b o → b < w0.heap.size := fun b o h => hw0 ▸ hA b o h
  have hA00 : AvOK A0 w0 := hA0
  rw [show Fr w = Fr w0 from hw0 ▸ rfl]
  clear hw0
  obtain ⟨A, hAe⟩ : ∃ A, A = A0 := ⟨_, rfl⟩
  have hAA : ∀ b o, A0 b o → A b o := fun b o h => hAe ▸ h
  replace hA : AvOK A w := hAe ▸ hA
  have hO : IniOK [] A w := IniOK.nil
  refine calls_of_HT2 [.tmp 6] Try.func5 Try.ntmps5 (by decide) rfl rfl (Nat.le_of_ble_eq_true rfl) ?_
  intro R hR
  have f_v0 : Rep (eSl E_impl_TokenCount) A w v0 p0 := hAe ▸ h0
  replace h0 : R 0 = v0 := hR 0 _ rfl
  have f_v1 : Rep (eSl eStr) A w v1 p1 := hAe ▸ h1
  replace h1 : R 1 = v1 := hR 1 _ rfl
  replace h2 : R 2 = .int .i64 p2 := (hR 2 _ rfl).trans h2
  clear hR hAe
  refine HT.seq ?_
  refine HT.text (l := ⟨_, true, .raw (.bool false)⟩ :: []) (tl := []) (by kernel_rfl) (by kernel_rfl) (by kernel_rfl) ?_ ?_
  · exact
      Obls.cons (Obl.plain rfl rfl fun R' w' hw hs hd => by exact of_assign rfl) <|
      Obls.nil
  intro R w hw hs hF'
  replace h0 : R 0 = v0 := (hs 0 rfl).trans h0
  replace h1 : R 1 = v1 := (hs 1 rfl).trans h1
  replace h2 : R 2 = .int .i64 p2 := (hs 2 rfl).trans h2
  replace f_v0 := f_v0.fr hw
  replace f_v1 := f_v1.fr hw
  replace hO := hO.fr hw
  replace hA := hA.fr hw.size
  replace hF := hF.trans hw
  clear hs hF' hw
  refine seqR_nil ?_
  refine HT.seq ?_
  refine HT.text (l := ⟨_, true, .raw (.int .i64 (1048576 : Int))⟩ :: []) (tl := []) (by kernel_rfl) (by kernel_rfl) (by kernel_rfl) ?_ ?_
  · exact
      Obls.cons (Obl.plain rfl rfl fun R' w' hw hs hd => by exact of_assign rfl) <|
      Obls.nil
  intro R w hw hs hF'
  replace h0 : R 0 = v0 := (hs 0 rfl).trans h0
  replace h1 : R 1 = v1 := (hs 1 rfl).trans h1
  replace h2 : R 2 = .int .i64 p2 := (hs 2 rfl).trans h2
  have h7 : R 7 = .int .i64 (1048576 : Int) := hF' 0 _ _ rfl rfl rfl
  replace f_v0 := f_v0.fr hw
  replace f_v1 := f_v1.fr hw
  replace hO := hO.fr hw
  replace hA := hA.fr hw.size
  replace hF := hF.trans hw
  clear hs hF' hw
  refine seqR_nil ?_
  refine HT.seq ?_
  obtain ⟨x1, q2, hr⟩ := cl_some hr
  refine HT.text (l := ⟨_, true, .raw v0⟩ :: ⟨_, true, .raw (.int .i64 (1048576 : Int))⟩ :: ⟨_, true, .raw (.int .i64 x1)⟩ :: ⟨_, true, .raw (.int .i64 x1)⟩ :: []) (tl := []) (by kernel_rfl) (by kernel_rfl) (by kernel_rfl) ?_ ?_
  · exact
      Obls.cons (Obl.plain rfl rfl fun R' w' hw hs hd => by have a0 : R' 0 = v0 := (hs 0 rfl).trans h0; exact of_move a0) <|
      Obls.cons (Obl.plain rfl rfl fun R' w' hw hs hd => by have a0 : R' 7 = .int .i64 (1048576 : Int) := (hs 7 rfl).trans h7; exact of_move a0) <|
      Obls.cons (Obl.plain rfl rfl fun R' w' hw hs hd => by have a0 : R' 16 = v0 := hd 0 _ _ _ rfl rfl rfl rfl rfl; have ra0 := (f_v0.fr hw).eq a0; have a1 : R' 17 = .int .i64 (1048576 : Int) := hd 1 _ _ _ rfl rfl rfl rfl rfl; exact of_call Try.call13 (M_laws_szTokenCountS_ok (q2 rfl) (hA.fr hw.size) ra0 a1)) <|
      Obls.cons (Obl.plain rfl rfl fun R' w' hw hs hd => by have a0 : R' 18 = .int .i64 x1 := hd 0 _ _ _ rfl rfl rfl rfl rfl; exact of_assign a0) <|
      Obls.nil
  intro R w hw hs hF'
  replace h0 : R 0 = v0 := (hs 0 rfl).trans h0
  replace h1 : R 1 = v1 := (hs 1 rfl).trans h1
  replace h2 : R 2 = .int .i64 p2 := (hs 2 rfl).trans h2
  have h7 : R 7 = .int .i64 x1 := hF' 3 _ _ rfl rfl rfl
  replace f_v0 := f_v0.fr hw
  replace f_v1 := f_v1.fr hw
  replace hO := hO.fr hw
  replace hA := hA.fr hw.size
  replace hF := hF.trans hw
  clear hs hF' hw
  refine seqR_nil ?_
  refine HT.seq ?_
  refine HT.seq ?_
  refine HT.text (l := ⟨_, true, .raw (.int .i64 x1)⟩ :: ⟨_, true, .raw (.bool (decide (x1 < (0 : Int))))⟩ :: []) (tl := []) (by kernel_rfl) (by kernel_rfl) (by kernel_rfl) ?_ ?_
  · exact
      Obls.cons (Obl.plain rfl rfl fun R' w' hw hs hd => by have a0 : R' 7 = .int .i64 x1 := (hs 7 rfl).trans h7; exact of_move a0) <|
      Obls.cons (Obl.plain rfl rfl fun R' w' hw hs hd => by have a0 : R' 19 = .int .i64 x1 := hd 0 _ _ _ rfl rfl rfl rfl rfl; exact of_lss a0 rfl) <|
      Obls.nil
  intro R w hw hs hF'
  replace h0 : R 0 = v0 := (hs 0 rfl).trans h0
  replace h1 : R 1 = v1 := (hs 1 rfl).trans h1
  replace h2 : R 2 = .int .i64 p2 := (hs 2 rfl).trans h2
  replace h7 : R 7 = .int .i64 x1 := (hs 7 rfl).trans h7
  have h20 : R 20 = .bool (decide (x1 < (0 : Int))) := hF' 1 _ _ rfl rfl rfl
  replace f_v0 := f_v0.fr hw
  replace f_v1 := f_v1.fr hw
  replace hO := hO.fr hw
  replace hA := hA.fr hw.size
  replace hF := hF.trans hw
  clear hs hF' hw
  refine seqR_nil ?_
  refine HT.cond (decide (x1 < (0 : Int))) h20 (fun c3 => ?_) (fun c3 => ?_)
  · have hr := cnd_t c3 hr
    refine HT.seq ?_
    refine HT.text (l := ⟨_, true, .raw (.bool true)⟩ :: []) (tl := []) (by kernel_rfl) (by kernel_rfl) (by kernel_rfl) ?_ ?_
    · exact
        Obls.cons (Obl.plain rfl rfl fun R' w' hw hs hd => by exact of_assign rfl) <|
        Obls.nil
    intro R w hw hs hF'
    have h6 : R 6 = .bool true := hF' 0 _ _ rfl rfl rfl
    replace hO := hO.fr hw
    replace hA := hA.fr hw.size
    replace hF := hF.trans hw
    clear hs hF' hw
    refine seqR_nil ?_
    refine HT.ret ?_
    obtain rfl := Option.some.inj hr
    exact ⟨.inr rfl, [R 6], ⟨rfl, trivial⟩, h6, hF⟩
  · have hr := cnd_f c3 hr
    refine HT.skip ?_
    refine HT.seq ?_
    obtain ⟨x4, q5, hr⟩ := cl_some hr
    refine HT.text (l := ⟨_, true, .raw v1⟩ :: ⟨_, true, .raw (.int .i64 x1)⟩ :: ⟨_, true, .raw (.int .i64 x4)⟩ :: ⟨_, true, .raw (.int .i64 x4)⟩ :: []) (tl := []) (by kernel_rfl) (by kernel_rfl) (by kernel_rfl) ?_ ?_
    · exact
        Obls.cons (Obl.plain rfl rfl fun R' w' hw hs hd => by have a0 : R' 1 = v1 := (hs 1 rfl).trans h1; exact of_move a0) <|
        Obls.cons (Obl.plain rfl rfl fun R' w' hw hs hd => by have a0 : R' 7 = .int .i64 x1 := (hs 7 rfl).trans h7; exact of_move a0) <|
        Obls.cons (Obl.plain rfl rfl fun R' w' hw hs hd => by have a0 : R' 21 = v1 := hd 0 _ _ _ rfl rfl rfl rfl rfl; have ra0 := (f_v1.fr hw).eq a0; have a1 : R' 22 = .int .i64 x1 := hd 1 _ _ _ rfl rfl rfl rfl rfl; exact of_call Try.call14 (M_laws_szStringS_ok (q5 rfl) (hA.fr hw.size) ra0 a1)) <|
        Obls.cons (Obl.plain rfl rfl fun R' w' hw hs hd => by have a0 : R' 23 = .int .i64 x4 := hd 0 _ _ _ rfl rfl rfl rfl rfl; exact of_assign a0) <|
        Obls.nil
    intro R w hw hs hF'
    replace h0 : R 0 = v0 := (hs 0 rfl).trans h0
    replace h1 : R 1 = v1 := (hs 1 rfl).trans h1
    replace h2 : R 2 = .int .i64 p2 := (hs 2 rfl).trans h2
    have h7 : R 7 = .int .i64 x4 := hF' 3 _ _ rfl rfl rfl
    replace f_v0 := f_v0.fr hw
    replace f_v1 := f_v1.fr hw
    replace hO := hO.fr hw
    replace hA := hA.fr hw.size
    replace hF := hF.trans hw
    clear hs hF' hw
    refine seqR_nil ?_
    refine HT.seq ?_
    refine HT.seq ?_
    refine HT.text (l := ⟨_, true, .raw (.int .i64 x4)⟩ :: ⟨_, true, .raw (.bool (decide (x4 < (0 : Int))))⟩ :: []) (tl := []) (by kernel_rfl) (by kernel_rfl) (by kernel_rfl) ?_ ?_
    · exact
        Obls.cons (Obl.plain rfl rfl fun R' w' hw hs hd => by have a0 : R' 7 = .int .i64 x4 := (hs 7 rfl).trans h7; exact of_move a0) <|
        Obls.cons (Obl.plain rfl rfl fun R' w' hw hs hd => by have a0 : R' 24 = .int .i64 x4 := hd 0 _ _ _ rfl rfl rfl rfl rfl; exact of_lss a0 rfl) <|
        Obls.nil
    intro R w hw hs hF'
    replace h0 : R 0 = v0 := (hs 0 rfl).trans h0
    replace h1 : R 1 = v1 := (hs 1 rfl).trans h1
    replace h2 : R 2 = .int .i64 p2 := (hs 2 rfl).trans h2
    have h25 : R 25 = .bool (decide (x4 < (0 : Int))) := hF' 1 _ _ rfl rfl rfl
    replace f_v0 := f_v0.fr hw
    replace f_v1 := f_v1.fr hw
    replace hO := hO.fr hw
    replace hA := hA.fr hw.size
    replace hF := hF.trans hw
    clear hs hF' hw
    refine seqR_nil ?_
    refine HT.cond (decide (x4 < (0 : Int))) h25 (fun c6 => ?_) (fun c6 => ?_)
    · have hr := cnd_t c6 hr
      refine HT.seq ?_
      refine HT.text (l := ⟨_, true, .raw (.bool true)⟩ :: []) (tl := []) (by kernel_rfl) (by kernel_rfl) (by kernel_rfl) ?_ ?_
      · exact
          Obls.cons (Obl.plain rfl rfl fun R' w' hw hs hd => by exact of_assign rfl) <|
          Obls.nil
      intro R w hw hs hF'
      have h6 : R 6 = .bool true := hF' 0 _ _ rfl rfl rfl
      replace hO := hO.fr hw
      replace hA := hA.fr hw.size
      replace hF := hF.trans hw
      clear hs hF' hw
      refine seqR_nil ?_
      refine HT.ret ?_
      obtain rfl := Option.some.inj hr
      exact ⟨.inr rfl, [R 6], ⟨rfl, trivial⟩, h6, hF⟩
    · have hr := cnd_f c6 hr
      refine HT.skip ?_
      refine HT.seq ?_
      obtain ⟨x7, q8, hr⟩ := cl_some hr
      obtain ⟨x9, q10, hr⟩ := cl_some hr
      obtain ⟨x11, q12, hr⟩ := cl_some hr
      refine HT.text (l := ⟨_, true, .raw v0⟩ :: ⟨_, true, .rep (eSl E_impl_TokenCount) A x7⟩ :: ⟨_, true, .raw v1⟩ :: ⟨_, true, .rep (eSl eStr) A x9⟩ :: ⟨_, true, .raw (.int .i64 p2)⟩ :: ⟨_, true, .rep (eSl eStr) A x11⟩ :: ⟨_, true, .rep (eSl eStr) A x11⟩ :: []) (tl := []) (by kernel_rfl) (by kernel_rfl) (by kernel_rfl) ?_ ?_
      · exact
          Obls.cons (Obl.plain rfl rfl fun R' w' hw hs hd => by have a0 : R' 0 = v0 := (hs 0 rfl).trans h0; exact of_move a0) <|
          Obls.cons (Obl.plain rfl rfl fun R' w' hw hs hd => by have a0 : R' 26 = v0 := hd 0 _ _ _ rfl rfl rfl rfl rfl; have ra0 := (f_v0.fr hw).eq a0; exact of_call Try.call16 (M_laws_toTokenCountS_okR (q8 rfl) (hA.fr hw.size) ra0)) <|
          Obls.cons (Obl.plain rfl rfl fun R' w' hw hs hd => by have a0 : R' 1 = v1 := (hs 1 rfl).trans h1; exact of_move a0) <|
          Obls.cons (Obl.plain rfl rfl fun R' w' hw hs hd => by have a0 : R' 28 = v1 := hd 0 _ _ _ rfl rfl rfl rfl rfl; have ra0 := (f_v1.fr hw).eq a0; exact of_call Try.call17 (M_laws_toStringS_okR (q10 rfl) (hA.fr hw.size) ra0)) <|
          Obls.cons (Obl.plain rfl rfl fun R' w' hw hs hd => by have a0 : R' 2 = .int .i64 p2 := (hs 2 rfl).trans h2; exact of_move a0) <|
          Obls.cons (Obl.plain rfl rfl fun R' w' hw hs hd => by have a0 : Rep (eSl E_impl_TokenCount) A w' (R' 27) x7 := hd 0 _ _ _ rfl rfl rfl rfl rfl; have a1 : Rep (eSl eStr) A w' (R' 29) x9 := hd 1 _ _ _ rfl rfl rfl rfl rfl; have a2 : R' 30 = .int .i64 p2 := hd 2 _ _ _ rfl rfl rfl rfl rfl; exact of_call Try.call31 (M_spec_PrefixTokens_okR (q12 rfl) (hA.fr hw.size) a0 a1 a2)) <|
          Obls.cons (Obl.plain rfl rfl fun R' w' hw hs hd => by have a0 : Rep (eSl eStr) A w' (R' 31) x11 := hd 0 _ _ _ rfl rfl rfl rfl rfl; exact of_assign a0) <|
          Obls.nil
      intro R w hw hs hF'
      replace h0 : R 0 = v0 := (hs 0 rfl).trans h0
      replace h1 : R 1 = v1 := (hs 1 rfl).trans h1
      replace h2 : R 2 = .int .i64 p2 := (hs 2 rfl).trans h2
      obtain ⟨u13, h8, f_u13⟩ : ∃ u, R 8 = u ∧ Rep (eSl eStr) A w u x11 := ⟨_, rfl, hF' 6 _ _ rfl rfl rfl⟩
      replace f_v0 := f_v0.fr hw
      replace f_v1 := f_v1.fr hw
      replace hO := hO.fr hw
      replace hA := hA.fr hw.size
      replace hF := hF.trans hw
      clear hs hF' hw
      refine seqR_nil ?_
      refine HT.seq ?_
      obtain ⟨x14, q15, hr⟩ := cl_some hr
      refine HT.textR [] (⟨_, true, [], none, true, fun A => .raw v0⟩ :: ⟨_, true, [], some (.vec w0.heap.size 76 E_impl_TokenCount x14), true, fun A => .any⟩ :: ⟨_, true, [1], some (.vec w0.heap.size 76 E_impl_TokenCount x14), true, fun A => .any⟩ :: []) (by kernel_rfl) (by kernel_rfl) (Wf.mk' (by kernel_rfl) (UAll.cons ust_raw (UAll.cons ust_any (UAll.cons ust_any (UAll.nil)))) (by kernel_rfl) (by kernel_rfl)) hO hA ?_ ?_
      · exact
          OblsR.cons (OblR.plain rfl rfl rfl rfl fun A' R' w' ho hd => by have a0 : R' 0 = v0 := (ho.old 0 rfl).trans h0; exact of_move a0) <|
          OblsR.cons (OblR.made _ rfl rfl rfl rfl fun A' R' w' ho hd => by have a0 : R' 32 = v0 := hd 0 _ _ _ rfl rfl rfl rfl rfl; have ra0 := (f_v0.stp ho.stp).eq a0; exact made_call Try.call16 (M_laws_toTokenCountS_ok (q15 rfl) ho.av ra0) (Nat.le_trans hF.size ho.ch.size)) <|
          OblsR.cons (OblR.took 1 _ _ rfl rfl rfl rfl rfl fun A' R' w' ho hd u hok hav hin hop hds => by exact took_assign (hop _ _ rfl rfl rfl rfl).symm hok hav) <|
          OblsR.nil
      intro done ρ σ A R w hdn hI
      replace h0 : R 0 = v0 := (hI.reg rfl).trans h0
      replace h1 : R 1 = v1 := (hI.reg rfl).trans h1
      replace h2 : R 2 = .int .i64 p2 := (hI.reg rfl).trans h2
      replace h8 : R 8 = u13 := (hI.reg rfl).trans h8
      obtain ⟨u16, e_u16⟩ : ∃ u, ρ 2 = u := ⟨_, rfl⟩
      have h9 : R 9 = u16 := (hI.opvR hdn 2 2 rfl rfl rfl rfl rfl).symm.trans e_u16
      replace f_u13 := f_u13.stp hI.stp
      replace f_v0 := f_v0.stp hI.stp
      replace f_v1 := f_v1.stp hI.stp
      replace hAA := hI.low' hAA hA0 (hO.ge (trivial))
      replace hF : Fr w0 w := hF.tr hI.ch (hO.ge (trivial))
      replace hO : IniOK [ob u16 (.vec w0.heap.size 76 E_impl_TokenCount x14)] A w := hI.left hdn [(2, ob u16 (.vec w0.heap.size 76 E_impl_TokenCount x14))] ⟨rfl, rfl, e_u16, rfl, rfl, trivial⟩
      replace hA := hI.avok
      clear hI
      refine HT.seq ?_
      obtain ⟨x17, q18, hr⟩ := cl_some hr
      refine HT.textR [ob u16 (.vec w0.heap.size 76 E_impl_TokenCount x14)] (⟨_, true, [], none, true, fun A => .raw v1⟩ :: ⟨_, true, [], some (.vec w0.heap.size 9 eStr x17), true, fun A => .any⟩ :: ⟨_, true, [2], some (.vec w0.heap.size 9 eStr x17), true, fun A => .any⟩ :: []) (by kernel_rfl) (by kernel_rfl) (Wf.mk' (by kernel_rfl) (UAll.cons ust_raw (UAll.cons ust_any (UAll.cons ust_any (UAll.nil)))) (by kernel_rfl) (by kernel_rfl)) hO hA ?_ ?_
      · exact
          OblsR.cons (OblR.plain rfl rfl rfl rfl fun A' R' w' ho hd => by have a0 : R' 1 = v1 := (ho.old 1 rfl).trans h1; exact of_move a0) <|
          OblsR.cons (OblR.made _ rfl rfl rfl rfl fun A' R' w' ho hd => by have a0 : R' 34 = v1 := hd 0 _ _ _ rfl rfl rfl rfl rfl; have ra0 := (f_v1.stp ho.stp).eq a0; exact made_call Try.call17 (M_laws_toStringS_ok (q18 rfl) ho.av ra0) (Nat.le_trans hF.size ho.ch.size)) <|
          OblsR.cons (OblR.took 2 _ _ rfl rfl rfl rfl rfl fun A' R' w' ho hd u hok hav hin hop hds => by exact took_assign (hop _ _ rfl rfl rfl rfl).symm hok hav) <|
          OblsR.nil
      intro done ρ σ A R w hdn hI
      replace h0 : R 0 = v0 := (hI.reg rfl).trans h0
      replace h1 : R 1 = v1 := (hI.reg rfl).trans h1
      replace h2 : R 2 = .int .i64 p2 := (hI.reg rfl).trans h2
      replace h8 : R 8 = u13 := (hI.reg rfl).trans h8
      replace h9 : R 9 = u16 := (hI.reg rfl).trans h9
      have z19 := hI.inivR 0 rfl
      obtain ⟨u20, e_u20⟩ : ∃ u, ρ 3 = u := ⟨_, rfl⟩
      have h10 : R 10 = u20 := (hI.opvR hdn 3 2 rfl rfl rfl rfl rfl).symm.trans e_u20
      replace f_u13 := f_u13.stp hI.stp
      replace f_v0 := f_v0.stp hI.stp
      replace f_v1 := f_v1.stp hI.stp
      replace hAA := hI.low' hAA hA0 (hO.ge (⟨rfl, trivial⟩))
      replace hF : Fr w0 w := hF.tr hI.ch (hO.ge (⟨rfl, trivial⟩))
      replace hO : IniOK [ob u16 (.vec w0.heap.size 76 E_impl_TokenCount x14), ob u20 (.vec w0.heap.size 9 eStr x17)] A w := hI.left hdn [(0, ob u16 (.vec w0.heap.size 76 E_impl_TokenCount x14)), (3, ob u20 (.vec w0.heap.size 9 eStr x17))] ⟨rfl, rfl, z19, rfl, rfl, ⟨rfl, rfl, e_u20, rfl, rfl, trivial⟩⟩
      replace hA := hI.avok
      clear hI
      refine HT.seq ?_
      obtain ⟨x21, q22, hr⟩ := cl_some hr
      refine HT.textR [ob u16 (.vec w0.heap.size 76 E_impl_TokenCount x14), ob u20 (.vec w0.heap.size 9 eStr x17)] (⟨_, true, [], none, true, fun A => .raw u16⟩ :: ⟨_, true, [], none, true, fun A => .raw u20⟩ :: ⟨_, true, [], none, true, fun A => .raw (.int .i64 p2)⟩ :: ⟨_, true, [], some (.vec w0.heap.size 9 eStr x21), true, fun A => .any⟩ :: ⟨_, true, [5], some (.vec w0.heap.size 9 eStr x21), true, fun A => .any⟩ :: []) (by kernel_rfl) (by kernel_rfl) (Wf.mk' (by kernel_rfl) (UAll.cons ust_raw (UAll.cons ust_raw (UAll.cons ust_raw (UAll.cons ust_any (UAll.cons ust_any (UAll.nil)))))) (by kernel_rfl) (by kernel_rfl)) hO hA ?_ ?_
      · exact
          OblsR.cons (OblR.plain rfl rfl rfl rfl fun A' R' w' ho hd => by have a0 : R' 9 = u16 := (ho.old 9 rfl).trans h9; exact of_move a0) <|
          OblsR.cons (OblR.plain rfl rfl rfl rfl fun A' R' w' ho hd => by have a0 : R' 10 = u20 := (ho.old 10 rfl).trans h10; exact of_move a0) <|
          OblsR.cons (OblR.plain rfl rfl rfl rfl fun A' R' w' ho hd => by have a0 : R' 2 = .int .i64 p2 := (ho.old 2 rfl).trans h2; exact of_move a0) <|
          OblsR.cons (OblR.made _ rfl rfl rfl rfl fun A' R' w' ho hd => by have a0 : R' 36 = u16 := hd 0 _ _ _ rfl rfl rfl rfl rfl; have ra0 := (vec_rep (ho.rd 0 _ rfl rfl) (ho.low' hAA hA0 (hO.ge (⟨rfl, ⟨rfl, trivial⟩⟩))) hA0).eq a0; have a1 : R' 37 = u20 := hd 1 _ _ _ rfl rfl rfl rfl rfl; have ra1 := (vec_rep (ho.rd 1 _ rfl rfl) (ho.low' hAA hA0 (hO.ge (⟨rfl, ⟨rfl, trivial⟩⟩))) hA0).eq a1; have a2 : R' 38 = .int .i64 p2 := hd 2 _ _ _ rfl rfl rfl rfl rfl; exact made_call0 Try.call32 (M_impl_PrefixTokens_ok (q22 rfl) (hA00.fr ((Nat.le_trans hF.size ho.ch.size))) ra0 ra1 a2) (Nat.le_trans hF.size ho.ch.size) (ho.low' hAA hA0 (hO.ge (⟨rfl, ⟨rfl, trivial⟩⟩))) (fun _ _ _ _ _ h => h)) <|
          OblsR.cons (OblR.took 5 _ _ rfl rfl rfl rfl rfl fun A' R' w' ho hd u hok hav hin hop hds => by exact took_assign (hop _ _ rfl rfl rfl rfl).symm hok hav) <|
          OblsR.nil
      intro done ρ σ A R w hdn hI
      replace h0 : R 0 = v0 := (hI.reg rfl).trans h0
      replace h1 : R 1 = v1 := (hI.reg rfl).trans h1
      replace h2 : R 2 = .int .i64 p2 := (hI.reg rfl).trans h2
      replace h8 : R 8 = u13 := (hI.reg rfl).trans h8
      replace h9 : R 9 = u16 := (hI.reg rfl).trans h9
      replace h10 : R 10 = u20 := (hI.reg rfl).trans h10
      have z23 := hI.inivR 0 rfl
      have z24 := hI.inivR 1 rfl
      obtain ⟨u25, e_u25⟩ : ∃ u, ρ 6 = u := ⟨_, rfl⟩
      have h11 : R 11 = u25 := (hI.opvR hdn 6 4 rfl rfl rfl rfl rfl).symm.trans e_u25
      replace f_u13 := f_u13.stp hI.stp
      replace f_v0 := f_v0.stp hI.stp
      replace f_v1 := f_v1.stp hI.stp
      replace hAA := hI.low' hAA hA0 (hO.ge (⟨rfl, ⟨rfl, trivial⟩⟩))
      replace hF : Fr w0 w := hF.tr hI.ch (hO.ge (⟨rfl, ⟨rfl, trivial⟩⟩))
      replace hO : IniOK [ob u16 (.vec w0.heap.size 76 E_impl_TokenCount x14), ob u20 (.vec w0.heap.size 9 eStr x17), ob u25 (.vec w0.heap.size 9 eStr x21)] A w := hI.left hdn [(0, ob u16 (.vec w0.heap.size 76 E_impl_TokenCount x14)), (1, ob u20 (.vec w0.heap.size 9 eStr x17)), (6, ob u25 (.vec w0.heap.size 9 eStr x21))] ⟨rfl, rfl, z23, rfl, rfl, ⟨rfl, rfl, z24, rfl, rfl, ⟨rfl, rfl, e_u25, rfl, rfl, trivial⟩⟩⟩
      replace hA := hI.avok
      clear hI
      refine HT.seq ?_
      refine HT.seq ?_
      obtain ⟨x26, q27, hr⟩ := cl_some hr
      refine HT.text (l := ⟨_, true, .raw u25⟩ :: ⟨_, true, .raw u13⟩ :: ⟨_, true, .raw (.bool x26)⟩ :: ⟨_, true, .raw (.bool (!x26))⟩ :: []) (tl := []) (by kernel_rfl) (by kernel_rfl) (by kernel_rfl) ?_ ?_
      · exact
          Obls.cons (Obl.plain rfl rfl fun R' w' hw hs hd => by have a0 : R' 11 = u25 := (hs 11 rfl).trans h11; exact of_move a0) <|
          Obls.cons (Obl.plain rfl rfl fun R' w' hw hs hd => by have a0 : R' 8 = u13 := (hs 8 rfl).trans h8; exact of_move a0) <|
          Obls.cons (Obl.plain rfl rfl fun R' w' hw hs hd => by have a0 : R' 40 = u25 := hd 0 _ _ _ rfl rfl rfl rfl rfl; have ra0 := (vec_rep ((hO.fr hw).ok 2 _ rfl).1 hAA hA0).eq a0; have a1 : R' 41 = u13 := hd 1 _ _ _ rfl rfl rfl rfl rfl; have ra1 := (f_u13.fr hw).eq a1; exact of_call Try.call19 (M_laws_eqStringS_ok (q27 rfl) (hA00.fr ((Nat.le_trans hF.size hw.size))) ra0 (ra1.down hAA))) <|
          Obls.cons (Obl.plain rfl rfl fun R' w' hw hs hd => by have a0 : R' 42 = .bool x26 := hd 0 _ _ _ rfl rfl rfl rfl rfl; exact of_not a0) <|
          Obls.nil
      intro R w hw hs hF'
      replace h0 : R 0 = v0 := (hs 0 rfl).trans h0
      replace h1 : R 1 = v1 := (hs 1 rfl).trans h1
      replace h2 : R 2 = .int .i64 p2 := (hs 2 rfl).trans h2
      replace h8 : R 8 = u13 := (hs 8 rfl).trans h8
      replace h9 : R 9 = u16 := (hs 9 rfl).trans h9
      replace h10 : R 10 = u20 := (hs 10 rfl).trans h10
      replace h11 : R 11 = u25 := (hs 11 rfl).trans h11
      have h43 : R 43 = .bool (!x26) := hF' 3 _ _ rfl rfl rfl
      replace f_u13 := f_u13.fr hw
      replace f_v0 := f_v0.fr hw
      replace f_v1 := f_v1.fr hw
      replace hO := hO.fr hw
      replace hA := hA.fr hw.size
      replace hF := hF.trans hw
      clear hs hF' hw
      refine seqR_nil ?_
      refine HT.cond (!x26) h43 (fun c28 => ?_) (fun c28 => ?_)
      · have hr := cnd_t c28 hr
        refine HT.seq ?_
        refine HT.text (l := ⟨_, true, .raw (.bool false)⟩ :: []) (tl := []) (by kernel_rfl) (by kernel_rfl) (by kernel_rfl) ?_ ?_
        · exact
            Obls.cons (Obl.plain rfl rfl fun R' w' hw hs hd => by exact of_assign rfl) <|
            Obls.nil
        intro R w hw hs hF'
        have h6 : R 6 = .bool false := hF' 0 _ _ rfl rfl rfl
        replace hO := hO.fr hw
        replace hO : IniOK [] A w := hO.sub [] trivial
        replace hA := hA.fr hw.size
        replace hF := hF.trans hw
        clear hs hF' hw
        refine seqR_nil ?_
        refine HT.ret ?_
        obtain rfl := Option.some.inj hr
        exact ⟨.inr rfl, [R 6], ⟨rfl, trivial⟩, h6, hF⟩
      · have hr := cnd_f c28 hr
        refine HT.skip ?_
        refine HT.seq ?_
        refine HT.seq ?_
        obtain ⟨x29, q30, hr⟩ := cl_some hr
        obtain ⟨x31, q32, hr⟩ := cl_some hr
        refine HT.text (l := ⟨_, true, .raw u16⟩ :: ⟨_, true, .raw v0⟩ :: ⟨_, true, .rep (eSl E_impl_TokenCount) A x29⟩ :: ⟨_, true, .raw (.bool x31)⟩ :: ⟨_, true, .raw (.bool (!x31))⟩ :: []) (tl := []) (by kernel_rfl) (by kernel_rfl) (by kernel_rfl) ?_ ?_
        · exact
            Obls.cons (Obl.plain rfl rfl fun R' w' hw hs hd => by have a0 : R' 9 = u16 := (hs 9 rfl).trans h9; exact of_move a0) <|
            Obls.cons (Obl.plain rfl rfl fun R' w' hw hs hd => by have a0 : R' 0 = v0 := (hs 0 rfl).trans h0; exact of_move a0) <|
            Obls.cons (Obl.plain rfl rfl fun R' w' hw hs hd => by have a0 : R' 45 = v0 := hd 0 _ _ _ rfl rfl rfl rfl rfl; have ra0 := (f_v0.fr hw).eq a0; exact of_call Try.call16 (M_laws_toTokenCountS_okR (q30 rfl) (hA.fr hw.size) ra0)) <|
            Obls.cons (Obl.plain rfl rfl fun R' w' hw hs hd => by have a0 : R' 44 = u16 := hd 0 _ _ _ rfl rfl rfl rfl rfl; have ra0 := (vec_rep ((hO.fr hw).ok 0 _ rfl).1 hAA hA0).eq a0; have a1 : Rep (eSl E_impl_TokenCount) A w' (R' 46) x29 := hd 1 _ _ _ rfl rfl rfl rfl rfl; exact of_call Try.call20 (M_laws_eqTokenCountS_ok (q32 rfl) (hA00.fr ((Nat.le_trans hF.size hw.size))) ra0 (a1.down hAA))) <|
            Obls.cons (Obl.plain rfl rfl fun R' w' hw hs hd => by have a0 : R' 47 = .bool x31 := hd 0 _ _ _ rfl rfl rfl rfl rfl; exact of_not a0) <|
            Obls.nil
        intro R w hw hs hF'
        replace h0 : R 0 = v0 := (hs 0 rfl).trans h0
        replace h1 : R 1 = v1 := (hs 1 rfl).trans h1
        replace h2 : R 2 = .int .i64 p2 := (hs 2 rfl).trans h2
        replace h8 : R 8 = u13 := (hs 8 rfl).trans h8
        replace h9 : R 9 = u16 := (hs 9 rfl).trans h9
        replace h10 : R 10 = u20 := (hs 10 rfl).trans h10
        replace h11 : R 11 = u25 := (hs 11 rfl).trans h11
        have h48 : R 48 = .bool (!x31) := hF' 4 _ _ rfl rfl rfl
        replace f_u13 := f_u13.fr hw
        replace f_v0 := f_v0.fr hw
        replace f_v1 := f_v1.fr hw
        replace hO := hO.fr hw
        replace hA := hA.fr hw.size
        replace hF := hF.trans hw
        clear hs hF' hw
        refine seqR_nil ?_
        refine HT.cond (!x31) h48 (fun c33 => ?_) (fun c33 => ?_)
        · have hr := cnd_t c33 hr
          refine HT.seq ?_
          refine HT.text (l := ⟨_, true, .raw (.bool false)⟩ :: []) (tl := []) (by kernel_rfl) (by kernel_rfl) (by kernel_rfl) ?_ ?_
          · exact
              Obls.cons (Obl.plain rfl rfl fun R' w' hw hs hd => by exact of_assign rfl) <|
              Obls.nil
          intro R w hw hs hF'
          have h6 : R 6 = .bool false := hF' 0 _ _ rfl rfl rfl
          replace hO := hO.fr hw
          replace hO : IniOK [] A w := hO.sub [] trivial
          replace hA := hA.fr hw.size
          replace hF := hF.trans hw
          clear hs hF' hw
          refine seqR_nil ?_
          refine HT.ret ?_
          obtain rfl := Option.some.inj hr
          exact ⟨.inr rfl, [R 6], ⟨rfl, trivial⟩, h6, hF⟩
        · have hr := cnd_f c33 hr
          refine HT.skip ?_
          refine HT.seq ?_
          refine HT.seq ?_
          obtain ⟨x34, q35, hr⟩ := cl_some hr
          obtain ⟨x36, q37, hr⟩ := cl_some hr
          refine HT.text (l := ⟨_, true, .raw u20⟩ :: ⟨_, true, .raw v1⟩ :: ⟨_, true, .rep (eSl eStr) A x34⟩ :: ⟨_, true, .raw (.bool x36)⟩ :: ⟨_, true, .raw (.bool (!x36))⟩ :: []) (tl := []) (by kernel_rfl) (by kernel_rfl) (by kernel_rfl) ?_ ?_
          · exact
              Obls.cons (Obl.plain rfl rfl fun R' w' hw hs hd => by have a0 : R' 10 = u20 := (hs 10 rfl).trans h10; exact of_move a0) <|
              Obls.cons (Obl.plain rfl rfl fun R' w' hw hs hd => by have a0 : R' 1 = v1 := (hs 1 rfl).trans h1; exact of_move a0) <|
              Obls.cons (Obl.plain rfl rfl fun R' w' hw hs hd => by have a0 : R' 50 = v1 := hd 0 _ _ _ rfl rfl rfl rfl rfl; have ra0 := (f_v1.fr hw).eq a0; exact of_call Try.call17 (M_laws_toStringS_okR (q35 rfl) (hA.fr hw.size) ra0)) <|
              Obls.cons (Obl.plain rfl rfl fun R' w' hw hs hd => by have a0 : R' 49 = u20 := hd 0 _ _ _ rfl rfl rfl rfl rfl; have ra0 := (vec_rep ((hO.fr hw).ok 1 _ rfl).1 hAA hA0).eq a0; have a1 : Rep (eSl eStr) A w' (R' 51) x34 := hd 1 _ _ _ rfl rfl rfl rfl rfl; exact of_call Try.call19 (M_laws_eqStringS_ok (q37 rfl) (hA00.fr ((Nat.le_trans hF.size hw.size))) ra0 (a1.down hAA))) <|
              Obls.cons (Obl.plain rfl rfl fun R' w' hw hs hd => by have a0 : R' 52 = .bool x36 := hd 0 _ _ _ rfl rfl rfl rfl rfl; exact of_not a0) <|
              Obls.nil
          intro R w hw hs hF'
          replace h0 : R 0 = v0 := (hs 0 rfl).trans h0
          replace h1 : R 1 = v1 := (hs 1 rfl).trans h1
          replace h2 : R 2 = .int .i64 p2 := (hs 2 rfl).trans h2
          replace h8 : R 8 = u13 := (hs 8 rfl).trans h8
          replace h9 : R 9 = u16 := (hs 9 rfl).trans h9
          replace h10 : R 10 = u20 := (hs 10 rfl).trans h10
          replace h11 : R 11 = u25 := (hs 11 rfl).trans h11
          have h53 : R 53 = .bool (!x36) := hF' 4 _ _ rfl rfl rfl
          replace f_u13 := f_u13.fr hw
          replace f_v0 := f_v0.fr hw
          replace f_v1 := f_v1.fr hw
          replace hO := hO.fr hw
          replace hA := hA.fr hw.size
          replace hF := hF.trans hw
          clear hs hF' hw
          refine seqR_nil ?_
          refine HT.cond (!x36) h53 (fun c38 => ?_) (fun c38 => ?_)
          · have hr := cnd_t c38 hr
            refine HT.seq ?_
            refine HT.text (l := ⟨_, true, .raw (.bool false)⟩ :: []) (tl := []) (by kernel_rfl) (by kernel_rfl) (by kernel_rfl) ?_ ?_
            · exact
                Obls.cons (Obl.plain rfl rfl fun R' w' hw hs hd => by exact of_assign rfl) <|
                Obls.nil
            intro R w hw hs hF'
            have h6 : R 6 = .bool false := hF' 0 _ _ rfl rfl rfl
            replace hO := hO.fr hw
            replace hO : IniOK [] A w := hO.sub [] trivial
            replace hA := hA.fr hw.size
            replace hF := hF.trans hw
            clear hs hF' hw
            refine seqR_nil ?_
            refine HT.ret ?_
            obtain rfl := Option.some.inj hr
            exact ⟨.inr rfl, [R 6], ⟨rfl, trivial⟩, h6, hF⟩
          · have hr := cnd_f c38 hr
            refine HT.skip ?_
            refine HT.seq ?_
            refine HT.text (l := ⟨_, true, .raw (.int .i64 (1 : Int))⟩ :: []) (tl := []) (by kernel_rfl) (by kernel_rfl) (by kernel_rfl) ?_ ?_
            · exact
                Obls.cons (Obl.plain rfl rfl fun R' w' hw hs hd => by exact of_assign rfl) <|
                Obls.nil
            intro R w hw hs hF'
            replace h0 : R 0 = v0 := (hs 0 rfl).trans h0
            replace h1 : R 1 = v1 := (hs 1 rfl).trans h1
            replace h2 : R 2 = .int .i64 p2 := (hs 2 rfl).trans h2
            replace h8 : R 8 = u13 := (hs 8 rfl).trans h8
            replace h9 : R 9 = u16 := (hs 9 rfl).trans h9
            replace h10 : R 10 = u20 := (hs 10 rfl).trans h10
            replace h11 : R 11 = u25 := (hs 11 rfl).trans h11
            have h12 : R 12 = .int .i64 (1 : Int) := hF' 0 _ _ rfl rfl rfl
            replace f_u13 := f_u13.fr hw
            replace f_v0 := f_v0.fr hw
            replace f_v1 := f_v1.fr hw
            replace hO := hO.fr hw
            replace hA := hA.fr hw.size
            replace hF := hF.trans hw
            clear hs hF' hw
            refine seqR_nil ?_
            refine HT.seq ?_
            obtain ⟨x39, q40, hr⟩ := cl_some hr
            refine HT.textR [ob u16 (.vec w0.heap.size 76 E_impl_TokenCount x14), ob u20 (.vec w0.heap.size 9 eStr x17), ob u25 (.vec w0.heap.size 9 eStr x21)] (⟨_, true, [], none, true, fun A => .raw u16⟩ :: ⟨_, true, [], none, true, fun A => .raw (.int .i64 (1 : Int))⟩ :: ⟨_, true, [0], some (.vec w0.heap.size 76 E_impl_TokenCount x39.2), false, fun A => .raw (.int .i64 x39.1)⟩ :: ⟨_, true, [], none, true, fun A => .raw (.int .i64 x39.1)⟩ :: []) (by kernel_rfl) (by kernel_rfl) (Wf.mk' (by kernel_rfl) (UAll.cons ust_raw (UAll.cons ust_raw (UAll.cons ust_raw (UAll.cons ust_raw (UAll.nil))))) (by kernel_rfl) (by kernel_rfl)) hO hA ?_ ?_
            · exact
                OblsR.cons (OblR.plain rfl rfl rfl rfl fun A' R' w' ho hd => by have a0 : R' 9 = u16 := (ho.old 9 rfl).trans h9; exact of_move a0) <|
                OblsR.cons (OblR.plain rfl rfl rfl rfl fun A' R' w' ho hd => by have a0 : R' 12 = .int .i64 (1 : Int) := (ho.old 12 rfl).trans h12; exact of_move a0) <|
                OblsR.cons (OblR.took 0 _ _ rfl rfl rfl rfl rfl fun A' R' w' ho hd u hok hav hin hop hds => by have a0 : R' 54 = u16 := hd 0 _ _ _ rfl rfl rfl rfl rfl; have a1 : R' 55 = .int .i64 (1 : Int) := hd 1 _ _ _ rfl rfl rfl rfl rfl; have hu0 : evalR R' (.tmp 54) = u := a0.trans (hin _ rfl).symm; exact took_call Try.call21 hav (fun _ _ _ _ _ h => h) (by simp only [List.map, hu0]; exact Calls.mono (M_laws_markTokenCountS_ok (q40 rfl) (ho.av.sub _) (fun b o h => h.2) (Vec.flat hok (fun _ _ _ _ _ h => h)) a1) (fun _ _ ⟨v, h1, h2, h3, h4⟩ => ⟨v, h1, h2, h3, h4⟩))) <|
                OblsR.cons (OblR.plain rfl rfl rfl rfl fun A' R' w' ho hd => by have a0 : R' 56 = .int .i64 x39.1 := hd 0 _ _ _ rfl rfl rfl rfl rfl; exact of_assign a0) <|
                OblsR.nil
            intro done ρ σ A R w hdn hI
            replace h0 : R 0 = v0 := (hI.reg rfl).trans h0
            replace h1 : R 1 = v1 := (hI.reg rfl).trans h1
            replace h2 : R 2 = .int .i64 p2 := (hI.reg rfl).trans h2
            replace h8 : R 8 = u13 := (hI.reg rfl).trans h8
            replace h10 : R 10 = u20 := (hI.reg rfl).trans h10
            replace h11 : R 11 = u25 := (hI.reg rfl).trans h11
            have z41 := hI.inivR 0 rfl
            have z42 := (hI.opnR hdn 5 2 rfl rfl rfl rfl rfl).trans z41
            have z43 := hI.inivR 1 rfl
            have z44 := hI.inivR 2 rfl
            have h12 : R 12 = .int .i64 x39.1 := hI.fact hdn (i := 3) rfl rfl rfl
            replace f_u13 := f_u13.stp hI.stp
            replace f_v0 := f_v0.stp hI.stp
            replace f_v1 := f_v1.stp hI.stp
            replace hAA := hI.low' hAA hA0 (hO.ge (⟨rfl, ⟨rfl, ⟨rfl, trivial⟩⟩⟩))
            replace hF : Fr w0 w := hF.tr hI.ch (hO.ge (⟨rfl, ⟨rfl, ⟨rfl, trivial⟩⟩⟩))
            replace hO : IniOK [ob u20 (.vec w0.heap.size 9 eStr x17), ob u25 (.vec w0.heap.size 9 eStr x21)] A w := hI.left hdn [(1, ob u20 (.vec w0.heap.size 9 eStr x17)), (2, ob u25 (.vec w0.heap.size 9 eStr x21))] ⟨rfl, rfl, z43, rfl, rfl, ⟨rfl, rfl, z44, rfl, rfl, trivial⟩⟩
            replace hA := hI.avok
            clear hI
            refine HT.seq ?_
            obtain ⟨x45, q46, hr⟩ := cl_some hr
            refine HT.textR [ob u20 (.vec w0.heap.size 9 eStr x17), ob u25 (.vec w0.heap.size 9 eStr x21)] (⟨_, true, [], none, true, fun A => .raw u20⟩ :: ⟨_, true, [], none, true, fun A => .raw (.int .i64 x39.1)⟩ :: ⟨_, true, [0], some (.vec w0.heap.size 9 eStr x45.2), false, fun A => .raw (.int .i64 x45.1)⟩ :: ⟨_, true, [], none, true, fun A => .raw (.int .i64 x45.1)⟩ :: []) (by kernel_rfl) (by kernel_rfl) (Wf.mk' (by kernel_rfl) (UAll.cons ust_raw (UAll.cons ust_raw (UAll.cons ust_raw (UAll.cons ust_raw (UAll.nil))))) (by kernel_rfl) (by kernel_rfl)) hO hA ?_ ?_
            · exact
                OblsR.cons (OblR.plain rfl rfl rfl rfl fun A' R' w' ho hd => by have a0 : R' 10 = u20 := (ho.old 10 rfl).trans h10; exact of_move a0) <|
                OblsR.cons (OblR.plain rfl rfl rfl rfl fun A' R' w' ho hd => by have a0 : R' 12 = .int .i64 x39.1 := (ho.old 12 rfl).trans h12; exact of_move a0) <|
                OblsR.cons (OblR.took 0 _ _ rfl rfl rfl rfl rfl fun A' R' w' ho hd u hok hav hin hop hds => by have a0 : R' 57 = u20 := hd 0 _ _ _ rfl rfl rfl rfl rfl; have a1 : R' 58 = .int .i64 x39.1 := hd 1 _ _ _ rfl rfl rfl rfl rfl; have hu0 : evalR R' (.tmp 57) = u := a0.trans (hin _ rfl).symm; exact took_call Try.call22 hav (fun _ _ _ _ _ h => h) (by simp only [List.map, hu0]; exact Calls.mono (M_laws_markStringS_ok (q46 rfl) (ho.av.sub _) (fun b o h => h.2) (Vec.flat hok (fun _ _ _ _ _ h => h)) a1) (fun _ _ ⟨v, h1, h2, h3, h4⟩ => ⟨v, h1, h2, h3, h4⟩))) <|
                OblsR.cons (OblR.plain rfl rfl rfl rfl fun A' R' w' ho hd => by have a0 : R' 59 = .int .i64 x45.1 := hd 0 _ _ _ rfl rfl rfl rfl rfl; exact of_assign a0) <|
                OblsR.nil
            intro done ρ σ A R w hdn hI
            replace h0 : R 0 = v0 := (hI.reg rfl).trans h0
            replace h1 : R 1 = v1 := (hI.reg rfl).trans h1
            replace h2 : R 2 = .int .i64 p2 := (hI.reg rfl).trans h2
            replace h8 : R 8 = u13 := (hI.reg rfl).trans h8
            replace h11 : R 11 = u25 := (hI.reg rfl).trans h11
            have z47 := hI.inivR 0 rfl
            have z48 := (hI.opnR hdn 4 2 rfl rfl rfl rfl rfl).trans z47
            have z49 := hI.inivR 1 rfl
            have h12 : R 12 = .int .i64 x45.1 := hI.fact hdn (i := 3) rfl rfl rfl
            replace f_u13 := f_u13.stp hI.stp
            replace f_v0 := f_v0.stp hI.stp
            replace f_v1 := f_v1.stp hI.stp
            replace hAA := hI.low' hAA hA0 (hO.ge (⟨rfl, ⟨rfl, trivial⟩⟩))
            replace hF : Fr w0 w := hF.tr hI.ch (hO.ge (⟨rfl, ⟨rfl, trivial⟩⟩))
            replace hO : IniOK [ob u25 (.vec w0.heap.size 9 eStr x21)] A w := hI.left hdn [(1, ob u25 (.vec w0.heap.size 9 eStr x21))] ⟨rfl, rfl, z49, rfl, rfl, trivial⟩
            replace hA := hI.avok
            clear hI
            refine HT.seq ?_
            refine HT.seq ?_
            obtain ⟨x50, q51, hr⟩ := cl_some hr
            obtain ⟨x52, q53, hr⟩ := bd_some hr
            refine HT.text (l := ⟨_, true, .raw (.int .i64 x45.1)⟩ :: ⟨_, true, .raw (.bool (decide (x45.1 < (0 : Int))))⟩ :: ⟨_, true, .raw (.bool (decide (x45.1 < (0 : Int))))⟩ :: ⟨_, (true && ((decide (x45.1 < (0 : Int))) == false)), .raw u25⟩ :: ⟨_, (true && ((decide (x45.1 < (0 : Int))) == false)), .raw u13⟩ :: ⟨_, (true && ((decide (x45.1 < (0 : Int))) == false)), .raw (.bool x50)⟩ :: ⟨_, (true && ((decide (x45.1 < (0 : Int))) == false)), .raw (.bool (!x50))⟩ :: ⟨_, true, .raw (.bool x52)⟩ :: []) (tl := []) (by kernel_rfl) (by kernel_rfl) (by kernel_rfl) ?_ ?_
            · exact
                Obls.cons (Obl.plain rfl rfl fun R' w' hw hs hd => by have a0 : R' 12 = .int .i64 x45.1 := (hs 12 rfl).trans h12; exact of_move a0) <|
                Obls.cons (Obl.plain rfl rfl fun R' w' hw hs hd => by have a0 : R' 60 = .int .i64 x45.1 := hd 0 _ _ _ rfl rfl rfl rfl rfl; exact of_lss a0 rfl) <|
                Obls.cons (Obl.plain rfl rfl fun R' w' hw hs hd => by have a0 : R' 61 = .bool (decide (x45.1 < (0 : Int))) := hd 0 _ _ _ rfl rfl rfl rfl rfl; exact of_move a0) <|
                Obls.cons (Obl.grd 2 false _ _ _ rfl rfl rfl rfl rfl (by kernel_rfl) fun hg R' w' hw hs hd => by have a0 : R' 11 = u25 := (hs 11 rfl).trans h11; exact of_move a0) <|
                Obls.cons (Obl.grd 2 false _ _ _ rfl rfl rfl rfl rfl (by kernel_rfl) fun hg R' w' hw hs hd => by have a0 : R' 8 = u13 := (hs 8 rfl).trans h8; exact of_move a0) <|
                Obls.cons (Obl.grd 2 false _ _ _ rfl rfl rfl rfl rfl (by kernel_rfl) fun hg R' w' hw hs hd => by have a0 : R' 63 = u25 := hd 0 _ _ _ rfl rfl rfl rfl hg; have ra0 := (vec_rep ((hO.fr hw).ok 0 _ rfl).1 hAA hA0).eq a0; have a1 : R' 64 = u13 := hd 1 _ _ _ rfl rfl rfl rfl hg; have ra1 := (f_u13.fr hw).eq a1; exact of_call Try.call19 (M_laws_eqStringS_ok (q51 hg) (hA00.fr ((Nat.le_trans hF.size hw.size))) ra0 (ra1.down hAA))) <|
                Obls.cons (Obl.grd 2 false _ _ _ rfl rfl rfl rfl rfl (by kernel_rfl) fun hg R' w' hw hs hd => by have a0 : R' 65 = .bool x50 := hd 0 _ _ _ rfl rfl rfl rfl hg; exact of_not a0) <|
                Obls.cons (Obl.plain rfl rfl fun R' w' hw hs hd => by have a0 : R' 62 = .bool (decide (x45.1 < (0 : Int))) := hd 0 _ _ _ rfl rfl rfl rfl rfl; exact of_pick (decide (x45.1 < (0 : Int))) a0 (fun hc => by show _ = Value.bool x52; rw [q53, hc]; exact rfl) (fun hc => by have a2 : R' 66 = .bool (!x50) := hd 1 _ _ _ rfl rfl rfl rfl (g_and rfl (beq_of hc)); show _ = Value.bool x52; rw [q53, hc]; exact a2)) <|
                Obls.nil
            intro R w hw hs hF'
            replace h0 : R 0 = v0 := (hs 0 rfl).trans h0
            replace h1 : R 1 = v1 := (hs 1 rfl).trans h1
            replace h2 : R 2 = .int .i64 p2 := (hs 2 rfl).trans h2
            replace h8 : R 8 = u13 := (hs 8 rfl).trans h8
            replace h11 : R 11 = u25 := (hs 11 rfl).trans h11
            have h67 : R 67 = .bool x52 := hF' 7 _ _ rfl rfl rfl
            replace f_u13 := f_u13.fr hw
            replace f_v0 := f_v0.fr hw
            replace f_v1 := f_v1.fr hw
            replace hO := hO.fr hw
            replace hA := hA.fr hw.size
            replace hF := hF.trans hw
            clear hs hF' hw
            refine seqR_nil ?_
            refine HT.cond x52 h67 (fun c54 => ?_) (fun c54 => ?_)
            · have hr := cnd_t c54 hr
              refine HT.seq ?_
              refine HT.text (l := ⟨_, true, .raw (.bool false)⟩ :: []) (tl := []) (by kernel_rfl) (by kernel_rfl) (by kernel_rfl) ?_ ?_
              · exact
                  Obls.cons (Obl.plain rfl rfl fun R' w' hw hs hd => by exact of_assign rfl) <|
                  Obls.nil
              intro R w hw hs hF'
              have h6 : R 6 = .bool false := hF' 0 _ _ rfl rfl rfl
              replace hO := hO.fr hw
              replace hO : IniOK [] A w := hO.sub [] trivial
              replace hA := hA.fr hw.size
              replace hF := hF.trans hw
              clear hs hF' hw
              refine seqR_nil ?_
              refine HT.ret ?_
              obtain rfl := Option.some.inj hr
              exact ⟨.inr rfl, [R 6], ⟨rfl, trivial⟩, h6, hF⟩
            · have hr := cnd_f c54 hr
              refine HT.skip ?_
              refine HT.seq ?_
              refine HT.text (l := ⟨_, true, .raw (.int .i64 (1 : Int))⟩ :: []) (tl := []) (by kernel_rfl) (by kernel_rfl) (by kernel_rfl) ?_ ?_
              · exact
                  Obls.cons (Obl.plain rfl rfl fun R' w' hw hs hd => by exact of_assign rfl) <|
                  Obls.nil
              intro R w hw hs hF'
              replace h0 : R 0 = v0 := (hs 0 rfl).trans h0
              replace h1 : R 1 = v1 := (hs 1 rfl).trans h1
              replace h2 : R 2 = .int .i64 p2 := (hs 2 rfl).trans h2
              replace h8 : R 8 = u13 := (hs 8 rfl).trans h8
              replace h11 : R 11 = u25 := (hs 11 rfl).trans h11
              have h13 : R 13 = .int .i64 (1 : Int) := hF' 0 _ _ rfl rfl rfl
              replace f_u13 := f_u13.fr hw
              replace f_v0 := f_v0.fr hw
              replace f_v1 := f_v1.fr hw
              replace hO := hO.fr hw
              replace hA := hA.fr hw.size
              replace hF := hF.trans hw
              clear hs hF' hw
              refine seqR_nil ?_
              refine HT.seq ?_
              obtain ⟨x55, q56, hr⟩ := cl_some hr
              refine HT.textR [ob u25 (.vec w0.heap.size 9 eStr x21)] (⟨_, true, [], none, true, fun A => .raw u25⟩ :: ⟨_, true, [], none, true, fun A => .raw (.int .i64 (1 : Int))⟩ :: ⟨_, true, [0], some (.vec w0.heap.size 9 eStr x55.2), false, fun A => .raw (.int .i64 x55.1)⟩ :: ⟨_, true, [], none, true, fun A => .raw (.int .i64 x55.1)⟩ :: []) (by kernel_rfl) (by kernel_rfl) (Wf.mk' (by kernel_rfl) (UAll.cons ust_raw (UAll.cons ust_raw (UAll.cons ust_raw (UAll.cons ust_raw (UAll.nil))))) (by kernel_rfl) (by kernel_rfl)) hO hA ?_ ?_
              · exact
                  OblsR.cons (OblR.plain rfl rfl rfl rfl fun A' R' w' ho hd => by have a0 : R' 11 = u25 := (ho.old 11 rfl).trans h11; exact of_move a0) <|
                  OblsR.cons (OblR.plain rfl rfl rfl rfl fun A' R' w' ho hd => by have a0 : R' 13 = .int .i64 (1 : Int) := (ho.old 13 rfl).trans h13; exact of_move a0) <|
                  OblsR.cons (OblR.took 0 _ _ rfl rfl rfl rfl rfl fun A' R' w' ho hd u hok hav hin hop hds => by have a0 : R' 68 = u25 := hd 0 _ _ _ rfl rfl rfl rfl rfl; have a1 : R' 69 = .int .i64 (1 : Int) := hd 1 _ _ _ rfl rfl rfl rfl rfl; have hu0 : evalR R' (.tmp 68) = u := a0.trans (hin _ rfl).symm; exact took_call Try.call22 hav (fun _ _ _ _ _ h => h) (by simp only [List.map, hu0]; exact Calls.mono (M_laws_markStringS_ok (q56 rfl) (ho.av.sub _) (fun b o h => h.2) (Vec.flat hok (fun _ _ _ _ _ h => h)) a1) (fun _ _ ⟨v, h1, h2, h3, h4⟩ => ⟨v, h1, h2, h3, h4⟩))) <|
                  OblsR.cons (OblR.plain rfl rfl rfl rfl fun A' R' w' ho hd => by have a0 : R' 70 = .int .i64 x55.1 := hd 0 _ _ _ rfl rfl rfl rfl rfl; exact of_assign a0) <|
                  OblsR.nil
              intro done ρ σ A R w hdn hI
              replace h0 : R 0 = v0 := (hI.reg rfl).trans h0
              replace h1 : R 1 = v1 := (hI.reg rfl).trans h1
              replace h2 : R 2 = .int .i64 p2 := (hI.reg rfl).trans h2
              replace h8 : R 8 = u13 := (hI.reg rfl).trans h8
              replace h11 : R 11 = u25 := (hI.reg rfl).trans h11
              have z57 := hI.inivR 0 rfl
              have z58 := (hI.opnR hdn 3 2 rfl rfl rfl rfl rfl).trans z57
              have h13 : R 13 = .int .i64 x55.1 := hI.fact hdn (i := 3) rfl rfl rfl
              replace f_u13 := f_u13.stp hI.stp
              replace f_v0 := f_v0.stp hI.stp
              replace f_v1 := f_v1.stp hI.stp
              replace hAA := hI.low' hAA hA0 (hO.ge (⟨rfl, trivial⟩))
              replace hF : Fr w0 w := hF.tr hI.ch (hO.ge (⟨rfl, trivial⟩))
              replace hO : IniOK [ob u25 (.vec w0.heap.size 9 eStr x55.2)] A w := hI.left hdn [(3, ob u25 (.vec w0.heap.size 9 eStr x55.2))] ⟨rfl, rfl, z58, rfl, rfl, trivial⟩
              replace hA := hI.avok
              clear hI
              refine HT.seq ?_
              refine HT.text (l := ⟨_, true, .raw (.int .i64 (1 : Int))⟩ :: []) (tl := []) (by kernel_rfl) (by kernel_rfl) (by kernel_rfl) ?_ ?_
              · exact
                  Obls.cons (Obl.plain rfl rfl fun R' w' hw hs hd => by exact of_assign rfl) <|
                  Obls.nil
              intro R w hw hs hF'
              replace h0 : R 0 = v0 := (hs 0 rfl).trans h0
              replace h1 : R 1 = v1 := (hs 1 rfl).trans h1
              replace h2 : R 2 = .int .i64 p2 := (hs 2 rfl).trans h2
              replace h8 : R 8 = u13 := (hs 8 rfl).trans h8
              replace h11 : R 11 = u25 := (hs 11 rfl).trans h11
              replace h13 : R 13 = .int .i64 x55.1 := (hs 13 rfl).trans h13
              have h14 : R 14 = .int .i64 (1 : Int) := hF' 0 _ _ rfl rfl rfl
              replace f_u13 := f_u13.fr hw
              replace f_v0 := f_v0.fr hw
              replace f_v1 := f_v1.fr hw
              replace hO := hO.fr hw
              replace hA := hA.fr hw.size
              replace hF := hF.trans hw
              clear hs hF' hw
              refine seqR_nil ?_
              refine HT.seq ?_
              obtain ⟨x59, q60, hr⟩ := cl_some hr
              refine HT.text (l := ⟨_, true, .raw u25⟩ :: ⟨_, true, .raw (.int .i64 (1 : Int))⟩ :: ⟨_, true, .raw (.int .i64 x59)⟩ :: ⟨_, true, .raw (.int .i64 x59)⟩ :: []) (tl := []) (by kernel_rfl) (by kernel_rfl) (by kernel_rfl) ?_ ?_
              · exact
                  Obls.cons (Obl.plain rfl rfl fun R' w' hw hs hd => by have a0 : R' 11 = u25 := (hs 11 rfl).trans h11; exact of_move a0) <|
                  Obls.cons (Obl.plain rfl rfl fun R' w' hw hs hd => by have a0 : R' 14 = .int .i64 (1 : Int) := (hs 14 rfl).trans h14; exact of_move a0) <|
                  Obls.cons (Obl.plain rfl rfl fun R' w' hw hs hd => by have a0 : R' 71 = u25 := hd 0 _ _ _ rfl rfl rfl rfl rfl; have ra0 := (vec_rep ((hO.fr hw).ok 0 _ rfl).1 hAA hA0).eq a0; have a1 : R' 72 = .int .i64 (1 : Int) := hd 1 _ _ _ rfl rfl rfl rfl rfl; exact of_call Try.call23 (M_laws_heldStringS_ok (q60 rfl) (hA00.fr ((Nat.le_trans hF.size hw.size))) ra0 a1)) <|
                  Obls.cons (Obl.plain rfl rfl fun R' w' hw hs hd => by have a0 : R' 73 = .int .i64 x59 := hd 0 _ _ _ rfl rfl rfl rfl rfl; exact of_assign a0) <|
                  Obls.nil
              intro R w hw hs hF'
              replace h0 : R 0 = v0 := (hs 0 rfl).trans h0
              replace h1 : R 1 = v1 := (hs 1 rfl).trans h1
              replace h2 : R 2 = .int .i64 p2 := (hs 2 rfl).trans h2
              replace h8 : R 8 = u13 := (hs 8 rfl).trans h8
              replace h11 : R 11 = u25 := (hs 11 rfl).trans h11
              replace h13 : R 13 = .int .i64 x55.1 := (hs 13 rfl).trans h13
              have h14 : R 14 = .int .i64 x59 := hF' 3 _ _ rfl rfl rfl
              replace f_u13 := f_u13.fr hw
              replace f_v0 := f_v0.fr hw
              replace f_v1 := f_v1.fr hw
              replace hO := hO.fr hw
              replace hA := hA.fr hw.size
              replace hF := hF.trans hw
              clear hs hF' hw
              refine seqR_nil ?_
              refine HT.seq ?_
              refine HT.seq ?_
              refine HT.text (l := ⟨_, true, .raw (.int .i64 x59)⟩ :: ⟨_, true, .raw (.bool (decide (x59 < (0 : Int))))⟩ :: []) (tl := []) (by kernel_rfl) (by kernel_rfl) (by kernel_rfl) ?_ ?_
              · exact
                  Obls.cons (Obl.plain rfl rfl fun R' w' hw hs hd => by have a0 : R' 14 = .int .i64 x59 := (hs 14 rfl).trans h14; exact of_move a0) <|
                  Obls.cons (Obl.plain rfl rfl fun R' w' hw hs hd => by have a0 : R' 74 = .int .i64 x59 := hd 0 _ _ _ rfl rfl rfl rfl rfl; exact of_lss a0 rfl) <|
                  Obls.nil
              intro R w hw hs hF'
              replace h0 : R 0 = v0 := (hs 0 rfl).trans h0
              replace h1 : R 1 = v1 := (hs 1 rfl).trans h1
              replace h2 : R 2 = .int .i64 p2 := (hs 2 rfl).trans h2
              replace h8 : R 8 = u13 := (hs 8 rfl).trans h8
              replace h11 : R 11 = u25 := (hs 11 rfl).trans h11
              replace h13 : R 13 = .int .i64 x55.1 := (hs 13 rfl).trans h13
              replace h14 : R 14 = .int .i64 x59 := (hs 14 rfl).trans h14
              have h75 : R 75 = .bool (decide (x59 < (0 : Int))) := hF' 1 _ _ rfl rfl rfl
              replace f_u13 := f_u13.fr hw
              replace f_v0 := f_v0.fr hw
              replace f_v1 := f_v1.fr hw
              replace hO := hO.fr hw
              replace hA := hA.fr hw.size
              replace hF := hF.trans hw
              clear hs hF' hw
              refine seqR_nil ?_
              refine HT.cond (decide (x59 < (0 : Int))) h75 (fun c61 => ?_) (fun c61 => ?_)
              · have hr := cnd_t c61 hr
                refine HT.seq ?_
                refine HT.text (l := ⟨_, true, .raw (.bool false)⟩ :: []) (tl := []) (by kernel_rfl) (by kernel_rfl) (by kernel_rfl) ?_ ?_
                · exact
                    Obls.cons (Obl.plain rfl rfl fun R' w' hw hs hd => by exact of_assign rfl) <|
                    Obls.nil
                intro R w hw hs hF'
                have h6 : R 6 = .bool false := hF' 0 _ _ rfl rfl rfl
                replace hO := hO.fr hw
                replace hO : IniOK [] A w := hO.sub [] trivial
                replace hA := hA.fr hw.size
                replace hF := hF.trans hw
                clear hs hF' hw
                refine seqR_nil ?_
                refine HT.ret ?_
                obtain rfl := Option.some.inj hr
                exact ⟨.inr rfl, [R 6], ⟨rfl, trivial⟩, h6, hF⟩
              · have hr := cnd_f c61 hr
                refine HT.skip ?_
                refine HT.seq ?_
                refine HT.seq ?_
                refine HT.text (l := ⟨_, true, .raw (.int .i64 x59)⟩ :: ⟨_, true, .raw (.int .i64 x55.1)⟩ :: ⟨_, true, .raw (.bool (x59 != x55.1))⟩ :: []) (tl := []) (by kernel_rfl) (by kernel_rfl) (by kernel_rfl) ?_ ?_
                · exact
                    Obls.cons (Obl.plain rfl rfl fun R' w' hw hs hd => by have a0 : R' 14 = .int .i64 x59 := (hs 14 rfl).trans h14; exact of_move a0) <|
                    Obls.cons (Obl.plain rfl rfl fun R' w' hw hs hd => by have a0 : R' 13 = .int .i64 x55.1 := (hs 13 rfl).trans h13; exact of_move a0) <|
                    Obls.cons (Obl.plain rfl rfl fun R' w' hw hs hd => by have a0 : R' 76 = .int .i64 x59 := hd 0 _ _ _ rfl rfl rfl rfl rfl; have a1 : R' 77 = .int .i64 x55.1 := hd 1 _ _ _ rfl rfl rfl rfl rfl; exact of_neq a0 a1) <|
                    Obls.nil
                intro R w hw hs hF'
                replace h0 : R 0 = v0 := (hs 0 rfl).trans h0
                replace h1 : R 1 = v1 := (hs 1 rfl).trans h1
                replace h2 : R 2 = .int .i64 p2 := (hs 2 rfl).trans h2
                replace h8 : R 8 = u13 := (hs 8 rfl).trans h8
                replace h11 : R 11 = u25 := (hs 11 rfl).trans h11
                replace h13 : R 13 = .int .i64 x55.1 := (hs 13 rfl).trans h13
                have h78 : R 78 = .bool (x59 != x55.1) := hF' 2 _ _ rfl rfl rfl
                replace f_u13 := f_u13.fr hw
                replace f_v0 := f_v0.fr hw
                replace f_v1 := f_v1.fr hw
                replace hO := hO.fr hw
                replace hA := hA.fr hw.size
                replace hF := hF.trans hw
                clear hs hF' hw
                refine seqR_nil ?_
                refine HT.cond (x59 != x55.1) h78 (fun c62 => ?_) (fun c62 => ?_)
                · have hr := cnd_t c62 hr
                  refine HT.seq ?_
                  refine HT.text (l := ⟨_, true, .raw (.bool false)⟩ :: []) (tl := []) (by kernel_rfl) (by kernel_rfl) (by kernel_rfl) ?_ ?_
                  · exact
                      Obls.cons (Obl.plain rfl rfl fun R' w' hw hs hd => by exact of_assign rfl) <|
                      Obls.nil
                  intro R w hw hs hF'
                  have h6 : R 6 = .bool false := hF' 0 _ _ rfl rfl rfl
                  replace hO := hO.fr hw
                  replace hO : IniOK [] A w := hO.sub [] trivial
                  replace hA := hA.fr hw.size
                  replace hF := hF.trans hw
                  clear hs hF' hw
                  refine seqR_nil ?_
                  refine HT.ret ?_
                  obtain rfl := Option.some.inj hr
                  exact ⟨.inr rfl, [R 6], ⟨rfl, trivial⟩, h6, hF⟩
                · have hr := cnd_f c62 hr
                  refine HT.skip ?_
                  refine HT.seq ?_
                  obtain ⟨x63, q64, hr⟩ := cl_some hr
                  obtain ⟨x65, q66, hr⟩ := cl_some hr
                  obtain ⟨x67, q68, hr⟩ := cl_some hr
                  refine HT.text (l := ⟨_, true, .raw v0⟩ :: ⟨_, true, .rep (eSl E_impl_TokenCount) A x63⟩ :: ⟨_, true, .raw v1⟩ :: ⟨_, true, .rep (eSl eStr) A x65⟩ :: ⟨_, true, .raw (.int .i64 p2)⟩ :: ⟨_, true, .rep (eSl eStr) A x67⟩ :: ⟨_, true, .rep (eSl eStr) A x67⟩ :: []) (tl := []) (by kernel_rfl) (by kernel_rfl) (by kernel_rfl) ?_ ?_
                  · exact
                      Obls.cons (Obl.plain rfl rfl fun R' w' hw hs hd => by have a0 : R' 0 = v0 := (hs 0 rfl).trans h0; exact of_move a0) <|
                      Obls.cons (Obl.plain rfl rfl fun R' w' hw hs hd => by have a0 : R' 79 = v0 := hd 0 _ _ _ rfl rfl rfl rfl rfl; have ra0 := (f_v0.fr hw).eq a0; exact of_call Try.call16 (M_laws_toTokenCountS_okR (q64 rfl) (hA.fr hw.size) ra0)) <|
                      Obls.cons (Obl.plain rfl rfl fun R' w' hw hs hd => by have a0 : R' 1 = v1 := (hs 1 rfl).trans h1; exact of_move a0) <|
                      Obls.cons (Obl.plain rfl rfl fun R' w' hw hs hd => by have a0 : R' 81 = v1 := hd 0 _ _ _ rfl rfl rfl rfl rfl; have ra0 := (f_v1.fr hw).eq a0; exact of_call Try.call17 (M_laws_toStringS_okR (q66 rfl) (hA.fr hw.size) ra0)) <|
                      Obls.cons (Obl.plain rfl rfl fun R' w' hw hs hd => by have a0 : R' 2 = .int .i64 p2 := (hs 2 rfl).trans h2; exact of_move a0) <|
                      Obls.cons (Obl.plain rfl rfl fun R' w' hw hs hd => by have a0 : Rep (eSl E_impl_TokenCount) A w' (R' 80) x63 := hd 0 _ _ _ rfl rfl rfl rfl rfl; have a1 : Rep (eSl eStr) A w' (R' 82) x65 := hd 1 _ _ _ rfl rfl rfl rfl rfl; have a2 : R' 83 = .int .i64 p2 := hd 2 _ _ _ rfl rfl rfl rfl rfl; exact of_call Try.call32 (M_impl_PrefixTokens_okR (q68 rfl) (hA.fr hw.size) a0 a1 a2)) <|
                      Obls.cons (Obl.plain rfl rfl fun R' w' hw hs hd => by have a0 : Rep (eSl eStr) A w' (R' 84) x67 := hd 0 _ _ _ rfl rfl rfl rfl rfl; exact of_assign a0) <|
                      Obls.nil
                  intro R w hw hs hF'
                  replace h8 : R 8 = u13 := (hs 8 rfl).trans h8
                  replace h11 : R 11 = u25 := (hs 11 rfl).trans h11
                  replace h13 : R 13 = .int .i64 x55.1 := (hs 13 rfl).trans h13
                  obtain ⟨u69, h15, f_u69⟩ : ∃ u, R 15 = u ∧ Rep (eSl eStr) A w u x67 := ⟨_, rfl, hF' 6 _ _ rfl rfl rfl⟩
                  replace f_u13 := f_u13.fr hw
                  replace hO := hO.fr hw
                  replace hA := hA.fr hw.size
                  replace hF := hF.trans hw
                  clear hs hF' hw
                  refine seqR_nil ?_
                  refine HT.seq ?_
                  refine HT.seq ?_
                  obtain ⟨x70, q71, hr⟩ := cl_some hr
                  refine HT.text (l := ⟨_, true, .raw u69⟩ :: ⟨_, true, .raw u13⟩ :: ⟨_, true, .raw (.bool x70)⟩ :: ⟨_, true, .raw (.bool (!x70))⟩ :: []) (tl := []) (by kernel_rfl) (by kernel_rfl) (by kernel_rfl) ?_ ?_
                  · exact
                      Obls.cons (Obl.plain rfl rfl fun R' w' hw hs hd => by have a0 : R' 15 = u69 := (hs 15 rfl).trans h15; exact of_move a0) <|
                      Obls.cons (Obl.plain rfl rfl fun R' w' hw hs hd => by have a0 : R' 8 = u13 := (hs 8 rfl).trans h8; exact of_move a0) <|
                      Obls.cons (Obl.plain rfl rfl fun R' w' hw hs hd => by have a0 : R' 85 = u69 := hd 0 _ _ _ rfl rfl rfl rfl rfl; have ra0 := (f_u69.fr hw).eq a0; have a1 : R' 86 = u13 := hd 1 _ _ _ rfl rfl rfl rfl rfl; have ra1 := (f_u13.fr hw).eq a1; exact of_call Try.call19 (M_laws_eqStringS_ok (q71 rfl) (hA.fr hw.size) ra0 ra1)) <|
                      Obls.cons (Obl.plain rfl rfl fun R' w' hw hs hd => by have a0 : R' 87 = .bool x70 := hd 0 _ _ _ rfl rfl rfl rfl rfl; exact of_not a0) <|
                      Obls.nil
                  intro R w hw hs hF'
                  replace h11 : R 11 = u25 := (hs 11 rfl).trans h11
                  replace h13 : R 13 = .int .i64 x55.1 := (hs 13 rfl).trans h13
                  have h88 : R 88 = .bool (!x70) := hF' 3 _ _ rfl rfl rfl
                  replace hO := hO.fr hw
                  replace hA := hA.fr hw.size
                  replace hF := hF.trans hw
                  clear hs hF' hw
                  refine seqR_nil ?_
                  refine HT.cond (!x70) h88 (fun c72 => ?_) (fun c72 => ?_)
                  · have hr := cnd_t c72 hr
                    refine HT.seq ?_
                    refine HT.text (l := ⟨_, true, .raw (.bool false)⟩ :: []) (tl := []) (by kernel_rfl) (by kernel_rfl) (by kernel_rfl) ?_ ?_
                    · exact
                        Obls.cons (Obl.plain rfl rfl fun R' w' hw hs hd => by exact of_assign rfl) <|
                        Obls.nil
                    intro R w hw hs hF'
                    have h6 : R 6 = .bool false := hF' 0 _ _ rfl rfl rfl
                    replace hO := hO.fr hw
                    replace hO : IniOK [] A w := hO.sub [] trivial
                    replace hA := hA.fr hw.size
                    replace hF := hF.trans hw
                    clear hs hF' hw
                    refine seqR_nil ?_
                    refine HT.ret ?_
                    obtain rfl := Option.some.inj hr
                    exact ⟨.inr rfl, [R 6], ⟨rfl, trivial⟩, h6, hF⟩
                  · have hr := cnd_f c72 hr
                    refine HT.skip ?_
                    refine HT.seq ?_
                    refine HT.text (l := ⟨_, true, .raw (.int .i64 (1 : Int))⟩ :: []) (tl := []) (by kernel_rfl) (by kernel_rfl) (by kernel_rfl) ?_ ?_
                    · exact
                        Obls.cons (Obl.plain rfl rfl fun R' w' hw hs hd => by exact of_assign rfl) <|
                        Obls.nil
                    intro R w hw hs hF'
                    replace h11 : R 11 = u25 := (hs 11 rfl).trans h11
                    replace h13 : R 13 = .int .i64 x55.1 := (hs 13 rfl).trans h13
                    have h14 : R 14 = .int .i64 (1 : Int) := hF' 0 _ _ rfl rfl rfl
                    replace hO := hO.fr hw
                    replace hA := hA.fr hw.size
                    replace hF := hF.trans hw
                    clear hs hF' hw
                    refine seqR_nil ?_
                    refine HT.seq ?_
                    obtain ⟨x73, q74, hr⟩ := cl_some hr
                    refine HT.text (l := ⟨_, true, .raw u25⟩ :: ⟨_, true, .raw (.int .i64 (1 : Int))⟩ :: ⟨_, true, .raw (.int .i64 x73)⟩ :: ⟨_, true, .raw (.int .i64 x73)⟩ :: []) (tl := []) (by kernel_rfl) (by kernel_rfl) (by kernel_rfl) ?_ ?_
                    · exact
                        Obls.cons (Obl.plain rfl rfl fun R' w' hw hs hd => by have a0 : R' 11 = u25 := (hs 11 rfl).trans h11; exact of_move a0) <|
                        Obls.cons (Obl.plain rfl rfl fun R' w' hw hs hd => by have a0 : R' 14 = .int .i64 (1 : Int) := (hs 14 rfl).trans h14; exact of_move a0) <|
                        Obls.cons (Obl.plain rfl rfl fun R' w' hw hs hd => by have a0 : R' 89 = u25 := hd 0 _ _ _ rfl rfl rfl rfl rfl; have ra0 := (vec_rep ((hO.fr hw).ok 0 _ rfl).1 hAA hA0).eq a0; have a1 : R' 90 = .int .i64 (1 : Int) := hd 1 _ _ _ rfl rfl rfl rfl rfl; exact of_call Try.call23 (M_laws_heldStringS_ok (q74 rfl) (hA00.fr ((Nat.le_trans hF.size hw.size))) ra0 a1)) <|
                        Obls.cons (Obl.plain rfl rfl fun R' w' hw hs hd => by have a0 : R' 91 = .int .i64 x73 := hd 0 _ _ _ rfl rfl rfl rfl rfl; exact of_assign a0) <|
                        Obls.nil
                    intro R w hw hs hF'
                    replace h13 : R 13 = .int .i64 x55.1 := (hs 13 rfl).trans h13
                    have h14 : R 14 = .int .i64 x73 := hF' 3 _ _ rfl rfl rfl
                    replace hO := hO.fr hw
                    replace hO : IniOK [] A w := hO.sub [] trivial
                    replace hA := hA.fr hw.size
                    replace hF := hF.trans hw
                    clear hs hF' hw
                    refine seqR_nil ?_
                    refine HT.seq ?_
                    refine HT.seq ?_
                    refine HT.text (l := ⟨_, true, .raw (.int .i64 x73)⟩ :: ⟨_, true, .raw (.bool (decide (x73 < (0 : Int))))⟩ :: []) (tl := []) (by kernel_rfl) (by kernel_rfl) (by kernel_rfl) ?_ ?_
                    · exact
                        Obls.cons (Obl.plain rfl rfl fun R' w' hw hs hd => by have a0 : R' 14 = .int .i64 x73 := (hs 14 rfl).trans h14; exact of_move a0) <|
                        Obls.cons (Obl.plain rfl rfl fun R' w' hw hs hd => by have a0 : R' 92 = .int .i64 x73 := hd 0 _ _ _ rfl rfl rfl rfl rfl; exact of_lss a0 rfl) <|
                        Obls.nil
                    intro R w hw hs hF'
                    replace h13 : R 13 = .int .i64 x55.1 := (hs 13 rfl).trans h13
                    replace h14 : R 14 = .int .i64 x73 := (hs 14 rfl).trans h14
                    have h93 : R 93 = .bool (decide (x73 < (0 : Int))) := hF' 1 _ _ rfl rfl rfl
                    replace hO := hO.fr hw
                    replace hA := hA.fr hw.size
                    replace hF := hF.trans hw
                    clear hs hF' hw
                    refine seqR_nil ?_
                    refine HT.cond (decide (x73 < (0 : Int))) h93 (fun c75 => ?_) (fun c75 => ?_)
                    · have hr := cnd_t c75 hr
                      refine HT.seq ?_
                      refine HT.text (l := ⟨_, true, .raw (.bool false)⟩ :: []) (tl := []) (by kernel_rfl) (by kernel_rfl) (by kernel_rfl) ?_ ?_
                      · exact
                          Obls.cons (Obl.plain rfl rfl fun R' w' hw hs hd => by exact of_assign rfl) <|
                          Obls.nil
                      intro R w hw hs hF'
                      have h6 : R 6 = .bool false := hF' 0 _ _ rfl rfl rfl
                      replace hO := hO.fr hw
                      replace hA := hA.fr hw.size
                      replace hF := hF.trans hw
                      clear hs hF' hw
                      refine seqR_nil ?_
                      refine HT.ret ?_
                      obtain rfl := Option.some.inj hr
                      exact ⟨.inr rfl, [R 6], ⟨rfl, trivial⟩, h6, hF⟩
                    · have hr := cnd_f c75 hr
                      refine HT.skip ?_
                      refine HT.seq ?_
                      refine HT.seq ?_
                      refine HT.text (l := ⟨_, true, .raw (.int .i64 x73)⟩ :: ⟨_, true, .raw (.int .i64 x55.1)⟩ :: ⟨_, true, .raw (.bool (x73 != x55.1))⟩ :: []) (tl := []) (by kernel_rfl) (by kernel_rfl) (by kernel_rfl) ?_ ?_
                      · exact
                          Obls.cons (Obl.plain rfl rfl fun R' w' hw hs hd => by have a0 : R' 14 = .int .i64 x73 := (hs 14 rfl).trans h14; exact of_move a0) <|
                          Obls.cons (Obl.plain rfl rfl fun R' w' hw hs hd => by have a0 : R' 13 = .int .i64 x55.1 := (hs 13 rfl).trans h13; exact of_move a0) <|
                          Obls.cons (Obl.plain rfl rfl fun R' w' hw hs hd => by have a0 : R' 94 = .int .i64 x73 := hd 0 _ _ _ rfl rfl rfl rfl rfl; have a1 : R' 95 = .int .i64 x55.1 := hd 1 _ _ _ rfl rfl rfl rfl rfl; exact of_neq a0 a1) <|
                          Obls.nil
                      intro R w hw hs hF'
                      have h96 : R 96 = .bool (x73 != x55.1) := hF' 2 _ _ rfl rfl rfl
                      replace hO := hO.fr hw
                      replace hA := hA.fr hw.size
                      replace hF := hF.trans hw
                      clear hs hF' hw
                      refine seqR_nil ?_
                      refine HT.cond (x73 != x55.1) h96 (fun c76 => ?_) (fun c76 => ?_)
                      · have hr := cnd_t c76 hr
                        refine HT.seq ?_
                        refine HT.text (l := ⟨_, true, .raw (.bool false)⟩ :: []) (tl := []) (by kernel_rfl) (by kernel_rfl) (by kernel_rfl) ?_ ?_
                        · exact
                            Obls.cons (Obl.plain rfl rfl fun R' w' hw hs hd => by exact of_assign rfl) <|
                            Obls.nil
                        intro R w hw hs hF'
                        have h6 : R 6 = .bool false := hF' 0 _ _ rfl rfl rfl
                        replace hO := hO.fr hw
                        replace hA := hA.fr hw.size
                        replace hF := hF.trans hw
                        clear hs hF' hw
                        refine seqR_nil ?_
                        refine HT.ret ?_
                        obtain rfl := Option.some.inj hr
                        exact ⟨.inr rfl, [R 6], ⟨rfl, trivial⟩, h6, hF⟩
                      · have hr := cnd_f c76 hr
                        refine HT.skip ?_
                        refine HT.seq ?_
                        refine HT.text (l := ⟨_, true, .raw (.bool true)⟩ :: []) (tl := []) (by kernel_rfl) (by kernel_rfl) (by kernel_rfl) ?_ ?_
                        · exact
                            Obls.cons (Obl.plain rfl rfl fun R' w' hw hs hd => by exact of_assign rfl) <|
                            Obls.nil
                        intro R w hw hs hF'
                        have h6 : R 6 = .bool true := hF' 0 _ _ rfl rfl rfl
                        replace hO := hO.fr hw
                        replace hA := hA.fr hw.size
                        replace hF := hF.trans hw
                        clear hs hF' hw
                        refine seqR_nil ?_
                        refine HT.ret ?_
                        obtain rfl := Option.some.inj hr
                        exact ⟨.inr rfl, [R 6], ⟨rfl, trivial⟩, h6, hF⟩
end Go.Proofs.Ytfcocbokgfmjfaa
