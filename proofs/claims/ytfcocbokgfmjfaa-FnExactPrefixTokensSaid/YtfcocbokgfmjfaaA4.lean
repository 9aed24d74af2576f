/- Printed by dec.py: plain functions and the proofs that the code computes them. No statement of the seat is proved here. -/
import Derived.Test.YtfcocbokgfmjfaaA3
namespace Go.Proofs.Ytfcocbokgfmjfaa
open Go.RowKit
set_option linter.unusedVariables false
def M_laws_FnExactSharePrefix (fu : Nat) (p0 : List T_impl_TokenCount) (p1 : List (List UInt8)) (p2 : List (List UInt8)) (p3 : Int) : Option Bool :=
  cl true (M_laws_szTokenCountS fu p0 (1048576 : Int)) fun x1 =>
  bif (decide (x1 < (0 : Int))) then (
    some true
  ) else (
    cl true (M_laws_szStringS fu p1 x1) fun x4 =>
    bif (decide (x4 < (0 : Int))) then (
      some true
    ) else (
      cl true (M_laws_szStringS fu p2 x4) fun x7 =>
      bif (decide (x7 < (0 : Int))) then (
        some true
      ) else (
        cl true (M_laws_toTokenCountS fu p0) fun x10 =>
        cl true (M_laws_toStringS fu p1) fun x12 =>
        cl true (M_laws_toStringS fu p2) fun x14 =>
        cl true (M_spec_SharePrefix fu x10 x12 x14 p3) fun x16 =>
        cl true (M_laws_toTokenCountS fu p0) fun x18 =>
        cl true (M_laws_toStringS fu p1) fun x21 =>
        cl true (M_laws_toStringS fu p2) fun x24 =>
        cl true (M_impl_SharePrefix fu x18 x21 x24 p3) fun x27 =>
        bif (x27 != x16) then (
          some false
        ) else (
          cl true (M_laws_toTokenCountS fu p0) fun x30 =>
          cl true (M_laws_eqTokenCountS fu x18 x30) fun x32 =>
          bif (!x32) then (
            some false
          ) else (
            cl true (M_laws_toStringS fu p1) fun x35 =>
            cl true (M_laws_eqStringS fu x21 x35) fun x37 =>
            bif (!x37) then (
              some false
            ) else (
              cl true (M_laws_toStringS fu p2) fun x40 =>
              cl true (M_laws_eqStringS fu x24 x40) fun x42 =>
              bif (!x42) then (
                some false
              ) else (
                some true
              )
            )
          )
        )
      )
    )
  )
set_option maxRecDepth 100000 in
set_option maxHeartbeats 4000000 in
theorem M_laws_FnExactSharePrefix_ok {fu : Nat} {A : Av} {p0 : List T_impl_TokenCount} {p1 : List (List UInt8)} {p2 : List (List UInt8)} {p3 : Int} {r : Bool} (hr : M_laws_FnExactSharePrefix fu p0 p1 p2 p3 = some r) {w : World} {v0 : Value} {v1 : Value} {v2 : Value} {v3 : Value} (hA : AvOK A w) (h0 : Rep (eSl E_impl_TokenCount) A w v0 p0) (h1 : Rep (eSl eStr) A w v1 p1) (h2 : Rep (eSl eStr) A w v2 p2) (h3 : v3 = .int .i64 p3) :
    Calls Try.prog 12 #[v0, v1, v2, v3] w fun e w' => ∃ v, e = .returned v ∧ (v = .bool r ∧ Fr w w') := by
  unfold M_laws_FnExactSharePrefix at hr
  obtain ⟨w0, hw0⟩ : ∃ w0, w0 = w := ⟨_, rfl⟩
  have hF : Fr w0 w := hw0 ▸ Fr.refl _
  rw [show Fr w = Fr w0 from hw0 ▸ rfl]
  clear hw0
  refine calls_of_HT2 [.tmp 8] Try.func12 Try.ntmps12 (by decide) rfl rfl (Nat.le_of_ble_eq_true rfl) ?_
  intro R hR
  have f_v0 := h0
  replace h0 : R 0 = v0 := hR 0 _ rfl
  have f_v1 := h1
  replace h1 : R 1 = v1 := hR 1 _ rfl
  have f_v2 := h2
  replace h2 : R 2 = v2 := hR 2 _ rfl
  replace h3 : R 3 = .int .i64 p3 := (hR 3 _ rfl).trans h3
  clear hR
  refine HT.seq ?_
  refine HT.text (l := ⟨_, true, .raw (.bool false)⟩ :: []) (tl := []) (by kernel_rfl) (by kernel_rfl) (by kernel_rfl) ?_ ?_
  · exact
      Obls.cons (Obl.plain rfl rfl fun R' w' hw hs hd => by exact of_assign rfl) <|
      Obls.nil
  intro R w hw hs hF'
  replace h0 : R 0 = v0 := (hs 0 rfl).trans h0
  replace h1 : R 1 = v1 := (hs 1 rfl).trans h1
  replace h2 : R 2 = v2 := (hs 2 rfl).trans h2
  replace h3 : R 3 = .int .i64 p3 := (hs 3 rfl).trans h3
  replace f_v0 := f_v0.fr hw
  replace f_v1 := f_v1.fr hw
  replace f_v2 := f_v2.fr hw
  replace hA := hA.fr hw.size
  replace hF := hF.trans hw
  clear hs hF' hw
  refine seqR_nil ?_
  refine HT.seq ?_
  refine HT.text (l := ⟨_, true, .raw (.int .i64 (1048576 : Int))⟩ :: []) (tl := []) (by kernel_rfl) (by kernel_rfl) (by kernel_rfl) ?_ ?_
  · exact
      Obls.cons (Obl.plain rfl rfl fun R' w' hw hs hd => by exact of_assign rfl) <|
      Obls.nil
  intro R w hw hs hF'
  replace h0 : R 0 = v0 := (hs 0 rfl).trans h0
  replace h1 : R 1 = v1 := (hs 1 rfl).trans h1
  replace h2 : R 2 = v2 := (hs 2 rfl).trans h2
  replace h3 : R 3 = .int .i64 p3 := (hs 3 rfl).trans h3
  have h9 : R 9 = .int .i64 (1048576 : Int) := hF' 0 _ _ rfl rfl rfl
  replace f_v0 := f_v0.fr hw
  replace f_v1 := f_v1.fr hw
  replace f_v2 := f_v2.fr hw
  replace hA := hA.fr hw.size
  replace hF := hF.trans hw
  clear hs hF' hw
  refine seqR_nil ?_
  refine HT.seq ?_
  obtain ⟨x1, q2, hr⟩ := cl_some hr
  refine HT.text (l := ⟨_, true, .raw v0⟩ :: ⟨_, true, .raw (.int .i64 (1048576 : Int))⟩ :: ⟨_, true, .raw (.int .i64 x1)⟩ :: ⟨_, true, .raw (.int .i64 x1)⟩ :: []) (tl := []) (by kernel_rfl) (by kernel_rfl) (by kernel_rfl) ?_ ?_
  · exact
      Obls.cons (Obl.plain rfl rfl fun R' w' hw hs hd => by have a0 : R' 0 = v0 := (hs 0 rfl).trans h0; exact of_move a0) <|
      Obls.cons (Obl.plain rfl rfl fun R' w' hw hs hd => by have a0 : R' 9 = .int .i64 (1048576 : Int) := (hs 9 rfl).trans h9; exact of_move a0) <|
      Obls.cons (Obl.plain rfl rfl fun R' w' hw hs hd => by have a0 : R' 15 = v0 := hd 0 _ _ _ rfl rfl rfl rfl rfl; have ra0 := (f_v0.fr hw).eq a0; have a1 : R' 16 = .int .i64 (1048576 : Int) := hd 1 _ _ _ rfl rfl rfl rfl rfl; exact of_call Try.call13 (M_laws_szTokenCountS_ok (q2 rfl) (hA.fr hw.size) ra0 a1)) <|
      Obls.cons (Obl.plain rfl rfl fun R' w' hw hs hd => by have a0 : R' 17 = .int .i64 x1 := hd 0 _ _ _ rfl rfl rfl rfl rfl; exact of_assign a0) <|
      Obls.nil
  intro R w hw hs hF'
  replace h0 : R 0 = v0 := (hs 0 rfl).trans h0
  replace h1 : R 1 = v1 := (hs 1 rfl).trans h1
  replace h2 : R 2 = v2 := (hs 2 rfl).trans h2
  replace h3 : R 3 = .int .i64 p3 := (hs 3 rfl).trans h3
  have h9 : R 9 = .int .i64 x1 := hF' 3 _ _ rfl rfl rfl
  replace f_v0 := f_v0.fr hw
  replace f_v1 := f_v1.fr hw
  replace f_v2 := f_v2.fr hw
  replace hA := hA.fr hw.size
  replace hF := hF.trans hw
  clear hs hF' hw
  refine seqR_nil ?_
  refine HT.seq ?_
  refine HT.seq ?_
  refine HT.text (l := ⟨_, true, .raw (.int .i64 x1)⟩ :: ⟨_, true, .raw (.bool (decide (x1 < (0 : Int))))⟩ :: []) (tl := []) (by kernel_rfl) (by kernel_rfl) (by kernel_rfl) ?_ ?_
  · exact
      Obls.cons (Obl.plain rfl rfl fun R' w' hw hs hd => by have a0 : R' 9 = .int .i64 x1 := (hs 9 rfl).trans h9; exact of_move a0) <|
      Obls.cons (Obl.plain rfl rfl fun R' w' hw hs hd => by have a0 : R' 18 = .int .i64 x1 := hd 0 _ _ _ rfl rfl rfl rfl rfl; exact of_lss a0 rfl) <|
      Obls.nil
  intro R w hw hs hF'
  replace h0 : R 0 = v0 := (hs 0 rfl).trans h0
  replace h1 : R 1 = v1 := (hs 1 rfl).trans h1
  replace h2 : R 2 = v2 := (hs 2 rfl).trans h2
  replace h3 : R 3 = .int .i64 p3 := (hs 3 rfl).trans h3
  replace h9 : R 9 = .int .i64 x1 := (hs 9 rfl).trans h9
  have h19 : R 19 = .bool (decide (x1 < (0 : Int))) := hF' 1 _ _ rfl rfl rfl
  replace f_v0 := f_v0.fr hw
  replace f_v1 := f_v1.fr hw
  replace f_v2 := f_v2.fr hw
  replace hA := hA.fr hw.size
  replace hF := hF.trans hw
  clear hs hF' hw
  refine seqR_nil ?_
  refine HT.cond (decide (x1 < (0 : Int))) h19 (fun c3 => ?_) (fun c3 => ?_)
  · have hr := cnd_t c3 hr
    refine HT.seq ?_
    refine HT.text (l := ⟨_, true, .raw (.bool true)⟩ :: []) (tl := []) (by kernel_rfl) (by kernel_rfl) (by kernel_rfl) ?_ ?_
    · exact
        Obls.cons (Obl.plain rfl rfl fun R' w' hw hs hd => by exact of_assign rfl) <|
        Obls.nil
    intro R w hw hs hF'
    have h8 : R 8 = .bool true := hF' 0 _ _ rfl rfl rfl
    replace hA := hA.fr hw.size
    replace hF := hF.trans hw
    clear hs hF' hw
    refine seqR_nil ?_
    refine HT.ret ?_
    obtain rfl := Option.some.inj hr
    exact ⟨.inr rfl, [R 8], ⟨rfl, trivial⟩, h8, hF⟩
  · have hr := cnd_f c3 hr
    refine HT.skip ?_
    refine HT.seq ?_
    obtain ⟨x4, q5, hr⟩ := cl_some hr
    refine HT.text (l := ⟨_, true, .raw v1⟩ :: ⟨_, true, .raw (.int .i64 x1)⟩ :: ⟨_, true, .raw (.int .i64 x4)⟩ :: ⟨_, true, .raw (.int .i64 x4)⟩ :: []) (tl := []) (by kernel_rfl) (by kernel_rfl) (by kernel_rfl) ?_ ?_
    · exact
        Obls.cons (Obl.plain rfl rfl fun R' w' hw hs hd => by have a0 : R' 1 = v1 := (hs 1 rfl).trans h1; exact of_move a0) <|
        Obls.cons (Obl.plain rfl rfl fun R' w' hw hs hd => by have a0 : R' 9 = .int .i64 x1 := (hs 9 rfl).trans h9; exact of_move a0) <|
        Obls.cons (Obl.plain rfl rfl fun R' w' hw hs hd => by have a0 : R' 20 = v1 := hd 0 _ _ _ rfl rfl rfl rfl rfl; have ra0 := (f_v1.fr hw).eq a0; have a1 : R' 21 = .int .i64 x1 := hd 1 _ _ _ rfl rfl rfl rfl rfl; exact of_call Try.call14 (M_laws_szStringS_ok (q5 rfl) (hA.fr hw.size) ra0 a1)) <|
        Obls.cons (Obl.plain rfl rfl fun R' w' hw hs hd => by have a0 : R' 22 = .int .i64 x4 := hd 0 _ _ _ rfl rfl rfl rfl rfl; exact of_assign a0) <|
        Obls.nil
    intro R w hw hs hF'
    replace h0 : R 0 = v0 := (hs 0 rfl).trans h0
    replace h1 : R 1 = v1 := (hs 1 rfl).trans h1
    replace h2 : R 2 = v2 := (hs 2 rfl).trans h2
    replace h3 : R 3 = .int .i64 p3 := (hs 3 rfl).trans h3
    have h9 : R 9 = .int .i64 x4 := hF' 3 _ _ rfl rfl rfl
    replace f_v0 := f_v0.fr hw
    replace f_v1 := f_v1.fr hw
    replace f_v2 := f_v2.fr hw
    replace hA := hA.fr hw.size
    replace hF := hF.trans hw
    clear hs hF' hw
    refine seqR_nil ?_
    refine HT.seq ?_
    refine HT.seq ?_
    refine HT.text (l := ⟨_, true, .raw (.int .i64 x4)⟩ :: ⟨_, true, .raw (.bool (decide (x4 < (0 : Int))))⟩ :: []) (tl := []) (by kernel_rfl) (by kernel_rfl) (by kernel_rfl) ?_ ?_
    · exact
        Obls.cons (Obl.plain rfl rfl fun R' w' hw hs hd => by have a0 : R' 9 = .int .i64 x4 := (hs 9 rfl).trans h9; exact of_move a0) <|
        Obls.cons (Obl.plain rfl rfl fun R' w' hw hs hd => by have a0 : R' 23 = .int .i64 x4 := hd 0 _ _ _ rfl rfl rfl rfl rfl; exact of_lss a0 rfl) <|
        Obls.nil
    intro R w hw hs hF'
    replace h0 : R 0 = v0 := (hs 0 rfl).trans h0
    replace h1 : R 1 = v1 := (hs 1 rfl).trans h1
    replace h2 : R 2 = v2 := (hs 2 rfl).trans h2
    replace h3 : R 3 = .int .i64 p3 := (hs 3 rfl).trans h3
    replace h9 : R 9 = .int .i64 x4 := (hs 9 rfl).trans h9
    have h24 : R 24 = .bool (decide (x4 < (0 : Int))) := hF' 1 _ _ rfl rfl rfl
    replace f_v0 := f_v0.fr hw
    replace f_v1 := f_v1.fr hw
    replace f_v2 := f_v2.fr hw
    replace hA := hA.fr hw.size
    replace hF := hF.trans hw
    clear hs hF' hw
    refine seqR_nil ?_
    refine HT.cond (decide (x4 < (0 : Int))) h24 (fun c6 => ?_) (fun c6 => ?_)
    · have hr := cnd_t c6 hr
      refine HT.seq ?_
      refine HT.text (l := ⟨_, true, .raw (.bool true)⟩ :: []) (tl := []) (by kernel_rfl) (by kernel_rfl) (by kernel_rfl) ?_ ?_
      · exact
          Obls.cons (Obl.plain rfl rfl fun R' w' hw hs hd => by exact of_assign rfl) <|
          Obls.nil
      intro R w hw hs hF'
      have h8 : R 8 = .bool true := hF' 0 _ _ rfl rfl rfl
      replace hA := hA.fr hw.size
      replace hF := hF.trans hw
      clear hs hF' hw
      refine seqR_nil ?_
      refine HT.ret ?_
      obtain rfl := Option.some.inj hr
      exact ⟨.inr rfl, [R 8], ⟨rfl, trivial⟩, h8, hF⟩
    · have hr := cnd_f c6 hr
      refine HT.skip ?_
      refine HT.seq ?_
      obtain ⟨x7, q8, hr⟩ := cl_some hr
      refine HT.text (l := ⟨_, true, .raw v2⟩ :: ⟨_, true, .raw (.int .i64 x4)⟩ :: ⟨_, true, .raw (.int .i64 x7)⟩ :: ⟨_, true, .raw (.int .i64 x7)⟩ :: []) (tl := []) (by kernel_rfl) (by kernel_rfl) (by kernel_rfl) ?_ ?_
      · exact
          Obls.cons (Obl.plain rfl rfl fun R' w' hw hs hd => by have a0 : R' 2 = v2 := (hs 2 rfl).trans h2; exact of_move a0) <|
          Obls.cons (Obl.plain rfl rfl fun R' w' hw hs hd => by have a0 : R' 9 = .int .i64 x4 := (hs 9 rfl).trans h9; exact of_move a0) <|
          Obls.cons (Obl.plain rfl rfl fun R' w' hw hs hd => by have a0 : R' 25 = v2 := hd 0 _ _ _ rfl rfl rfl rfl rfl; have ra0 := (f_v2.fr hw).eq a0; have a1 : R' 26 = .int .i64 x4 := hd 1 _ _ _ rfl rfl rfl rfl rfl; exact of_call Try.call14 (M_laws_szStringS_ok (q8 rfl) (hA.fr hw.size) ra0 a1)) <|
          Obls.cons (Obl.plain rfl rfl fun R' w' hw hs hd => by have a0 : R' 27 = .int .i64 x7 := hd 0 _ _ _ rfl rfl rfl rfl rfl; exact of_assign a0) <|
          Obls.nil
      intro R w hw hs hF'
      replace h0 : R 0 = v0 := (hs 0 rfl).trans h0
      replace h1 : R 1 = v1 := (hs 1 rfl).trans h1
      replace h2 : R 2 = v2 := (hs 2 rfl).trans h2
      replace h3 : R 3 = .int .i64 p3 := (hs 3 rfl).trans h3
      have h9 : R 9 = .int .i64 x7 := hF' 3 _ _ rfl rfl rfl
      replace f_v0 := f_v0.fr hw
      replace f_v1 := f_v1.fr hw
      replace f_v2 := f_v2.fr hw
      replace hA := hA.fr hw.size
      replace hF := hF.trans hw
      clear hs hF' hw
      refine seqR_nil ?_
      refine HT.seq ?_
      refine HT.seq ?_
      refine HT.text (l := ⟨_, true, .raw (.int .i64 x7)⟩ :: ⟨_, true, .raw (.bool (decide (x7 < (0 : Int))))⟩ :: []) (tl := []) (by kernel_rfl) (by kernel_rfl) (by kernel_rfl) ?_ ?_
      · exact
          Obls.cons (Obl.plain rfl rfl fun R' w' hw hs hd => by have a0 : R' 9 = .int .i64 x7 := (hs 9 rfl).trans h9; exact of_move a0) <|
          Obls.cons (Obl.plain rfl rfl fun R' w' hw hs hd => by have a0 : R' 28 = .int .i64 x7 := hd 0 _ _ _ rfl rfl rfl rfl rfl; exact of_lss a0 rfl) <|
          Obls.nil
      intro R w hw hs hF'
      replace h0 : R 0 = v0 := (hs 0 rfl).trans h0
      replace h1 : R 1 = v1 := (hs 1 rfl).trans h1
      replace h2 : R 2 = v2 := (hs 2 rfl).trans h2
      replace h3 : R 3 = .int .i64 p3 := (hs 3 rfl).trans h3
      have h29 : R 29 = .bool (decide (x7 < (0 : Int))) := hF' 1 _ _ rfl rfl rfl
      replace f_v0 := f_v0.fr hw
      replace f_v1 := f_v1.fr hw
      replace f_v2 := f_v2.fr hw
      replace hA := hA.fr hw.size
      replace hF := hF.trans hw
      clear hs hF' hw
      refine seqR_nil ?_
      refine HT.cond (decide (x7 < (0 : Int))) h29 (fun c9 => ?_) (fun c9 => ?_)
      · have hr := cnd_t c9 hr
        refine HT.seq ?_
        refine HT.text (l := ⟨_, true, .raw (.bool true)⟩ :: []) (tl := []) (by kernel_rfl) (by kernel_rfl) (by kernel_rfl) ?_ ?_
        · exact
            Obls.cons (Obl.plain rfl rfl fun R' w' hw hs hd => by exact of_assign rfl) <|
            Obls.nil
        intro R w hw hs hF'
        have h8 : R 8 = .bool true := hF' 0 _ _ rfl rfl rfl
        replace hA := hA.fr hw.size
        replace hF := hF.trans hw
        clear hs hF' hw
        refine seqR_nil ?_
        refine HT.ret ?_
        obtain rfl := Option.some.inj hr
        exact ⟨.inr rfl, [R 8], ⟨rfl, trivial⟩, h8, hF⟩
      · have hr := cnd_f c9 hr
        refine HT.skip ?_
        refine HT.seq ?_
        obtain ⟨x10, q11, hr⟩ := cl_some hr
        obtain ⟨x12, q13, hr⟩ := cl_some hr
        obtain ⟨x14, q15, hr⟩ := cl_some hr
        obtain ⟨x16, q17, hr⟩ := cl_some hr
        refine HT.text (l := ⟨_, true, .raw v0⟩ :: ⟨_, true, .rep (eSl E_impl_TokenCount) A x10⟩ :: ⟨_, true, .raw v1⟩ :: ⟨_, true, .rep (eSl eStr) A x12⟩ :: ⟨_, true, .raw v2⟩ :: ⟨_, true, .rep (eSl eStr) A x14⟩ :: ⟨_, true, .raw (.int .i64 p3)⟩ :: ⟨_, true, .raw (.bool x16)⟩ :: ⟨_, true, .raw (.bool x16)⟩ :: []) (tl := []) (by kernel_rfl) (by kernel_rfl) (by kernel_rfl) ?_ ?_
        · exact
            Obls.cons (Obl.plain rfl rfl fun R' w' hw hs hd => by have a0 : R' 0 = v0 := (hs 0 rfl).trans h0; exact of_move a0) <|
            Obls.cons (Obl.plain rfl rfl fun R' w' hw hs hd => by have a0 : R' 30 = v0 := hd 0 _ _ _ rfl rfl rfl rfl rfl; have ra0 := (f_v0.fr hw).eq a0; exact of_call Try.call16 (M_laws_toTokenCountS_okR (q11 rfl) (hA.fr hw.size) ra0)) <|
            Obls.cons (Obl.plain rfl rfl fun R' w' hw hs hd => by have a0 : R' 1 = v1 := (hs 1 rfl).trans h1; exact of_move a0) <|
            Obls.cons (Obl.plain rfl rfl fun R' w' hw hs hd => by have a0 : R' 32 = v1 := hd 0 _ _ _ rfl rfl rfl rfl rfl; have ra0 := (f_v1.fr hw).eq a0; exact of_call Try.call17 (M_laws_toStringS_okR (q13 rfl) (hA.fr hw.size) ra0)) <|
            Obls.cons (Obl.plain rfl rfl fun R' w' hw hs hd => by have a0 : R' 2 = v2 := (hs 2 rfl).trans h2; exact of_move a0) <|
            Obls.cons (Obl.plain rfl rfl fun R' w' hw hs hd => by have a0 : R' 34 = v2 := hd 0 _ _ _ rfl rfl rfl rfl rfl; have ra0 := (f_v2.fr hw).eq a0; exact of_call Try.call17 (M_laws_toStringS_okR (q15 rfl) (hA.fr hw.size) ra0)) <|
            Obls.cons (Obl.plain rfl rfl fun R' w' hw hs hd => by have a0 : R' 3 = .int .i64 p3 := (hs 3 rfl).trans h3; exact of_move a0) <|
            Obls.cons (Obl.plain rfl rfl fun R' w' hw hs hd => by have a0 : Rep (eSl E_impl_TokenCount) A w' (R' 31) x10 := hd 0 _ _ _ rfl rfl rfl rfl rfl; have a1 : Rep (eSl eStr) A w' (R' 33) x12 := hd 1 _ _ _ rfl rfl rfl rfl rfl; have a2 : Rep (eSl eStr) A w' (R' 35) x14 := hd 2 _ _ _ rfl rfl rfl rfl rfl; have a3 : R' 36 = .int .i64 p3 := hd 3 _ _ _ rfl rfl rfl rfl rfl; exact of_call Try.call56 (M_spec_SharePrefix_ok (q17 rfl) (hA.fr hw.size) a0 a1 a2 a3)) <|
            Obls.cons (Obl.plain rfl rfl fun R' w' hw hs hd => by have a0 : R' 37 = .bool x16 := hd 0 _ _ _ rfl rfl rfl rfl rfl; exact of_assign a0) <|
            Obls.nil
        intro R w hw hs hF'
        replace h0 : R 0 = v0 := (hs 0 rfl).trans h0
        replace h1 : R 1 = v1 := (hs 1 rfl).trans h1
        replace h2 : R 2 = v2 := (hs 2 rfl).trans h2
        replace h3 : R 3 = .int .i64 p3 := (hs 3 rfl).trans h3
        have h10 : R 10 = .bool x16 := hF' 8 _ _ rfl rfl rfl
        replace f_v0 := f_v0.fr hw
        replace f_v1 := f_v1.fr hw
        replace f_v2 := f_v2.fr hw
        replace hA := hA.fr hw.size
        replace hF := hF.trans hw
        clear hs hF' hw
        refine seqR_nil ?_
        refine HT.seq ?_
        obtain ⟨x18, q19, hr⟩ := cl_some hr
        refine HT.text (l := ⟨_, true, .raw v0⟩ :: ⟨_, true, .rep (eSl E_impl_TokenCount) A x18⟩ :: ⟨_, true, .rep (eSl E_impl_TokenCount) A x18⟩ :: []) (tl := []) (by kernel_rfl) (by kernel_rfl) (by kernel_rfl) ?_ ?_
        · exact
            Obls.cons (Obl.plain rfl rfl fun R' w' hw hs hd => by have a0 : R' 0 = v0 := (hs 0 rfl).trans h0; exact of_move a0) <|
            Obls.cons (Obl.plain rfl rfl fun R' w' hw hs hd => by have a0 : R' 38 = v0 := hd 0 _ _ _ rfl rfl rfl rfl rfl; have ra0 := (f_v0.fr hw).eq a0; exact of_call Try.call16 (M_laws_toTokenCountS_okR (q19 rfl) (hA.fr hw.size) ra0)) <|
            Obls.cons (Obl.plain rfl rfl fun R' w' hw hs hd => by have a0 : Rep (eSl E_impl_TokenCount) A w' (R' 39) x18 := hd 0 _ _ _ rfl rfl rfl rfl rfl; exact of_assign a0) <|
            Obls.nil
        intro R w hw hs hF'
        replace h0 : R 0 = v0 := (hs 0 rfl).trans h0
        replace h1 : R 1 = v1 := (hs 1 rfl).trans h1
        replace h2 : R 2 = v2 := (hs 2 rfl).trans h2
        replace h3 : R 3 = .int .i64 p3 := (hs 3 rfl).trans h3
        replace h10 : R 10 = .bool x16 := (hs 10 rfl).trans h10
        obtain ⟨u20, h11, f_u20⟩ : ∃ u, R 11 = u ∧ Rep (eSl E_impl_TokenCount) A w u x18 := ⟨_, rfl, hF' 2 _ _ rfl rfl rfl⟩
        replace f_v0 := f_v0.fr hw
        replace f_v1 := f_v1.fr hw
        replace f_v2 := f_v2.fr hw
        replace hA := hA.fr hw.size
        replace hF := hF.trans hw
        clear hs hF' hw
        refine seqR_nil ?_
        refine HT.seq ?_
        obtain ⟨x21, q22, hr⟩ := cl_some hr
        refine HT.text (l := ⟨_, true, .raw v1⟩ :: ⟨_, true, .rep (eSl eStr) A x21⟩ :: ⟨_, true, .rep (eSl eStr) A x21⟩ :: []) (tl := []) (by kernel_rfl) (by kernel_rfl) (by kernel_rfl) ?_ ?_
        · exact
            Obls.cons (Obl.plain rfl rfl fun R' w' hw hs hd => by have a0 : R' 1 = v1 := (hs 1 rfl).trans h1; exact of_move a0) <|
            Obls.cons (Obl.plain rfl rfl fun R' w' hw hs hd => by have a0 : R' 40 = v1 := hd 0 _ _ _ rfl rfl rfl rfl rfl; have ra0 := (f_v1.fr hw).eq a0; exact of_call Try.call17 (M_laws_toStringS_okR (q22 rfl) (hA.fr hw.size) ra0)) <|
            Obls.cons (Obl.plain rfl rfl fun R' w' hw hs hd => by have a0 : Rep (eSl eStr) A w' (R' 41) x21 := hd 0 _ _ _ rfl rfl rfl rfl rfl; exact of_assign a0) <|
            Obls.nil
        intro R w hw hs hF'
        replace h0 : R 0 = v0 := (hs 0 rfl).trans h0
        replace h1 : R 1 = v1 := (hs 1 rfl).trans h1
        replace h2 : R 2 = v2 := (hs 2 rfl).trans h2
        replace h3 : R 3 = .int .i64 p3 := (hs 3 rfl).trans h3
        replace h10 : R 10 = .bool x16 := (hs 10 rfl).trans h10
        replace h11 : R 11 = u20 := (hs 11 rfl).trans h11
        obtain ⟨u23, h12, f_u23⟩ : ∃ u, R 12 = u ∧ Rep (eSl eStr) A w u x21 := ⟨_, rfl, hF' 2 _ _ rfl rfl rfl⟩
        replace f_u20 := f_u20.fr hw
        replace f_v0 := f_v0.fr hw
        replace f_v1 := f_v1.fr hw
        replace f_v2 := f_v2.fr hw
        replace hA := hA.fr hw.size
        replace hF := hF.trans hw
        clear hs hF' hw
        refine seqR_nil ?_
        refine HT.seq ?_
        obtain ⟨x24, q25, hr⟩ := cl_some hr
        refine HT.text (l := ⟨_, true, .raw v2⟩ :: ⟨_, true, .rep (eSl eStr) A x24⟩ :: ⟨_, true, .rep (eSl eStr) A x24⟩ :: []) (tl := []) (by kernel_rfl) (by kernel_rfl) (by kernel_rfl) ?_ ?_
        · exact
            Obls.cons (Obl.plain rfl rfl fun R' w' hw hs hd => by have a0 : R' 2 = v2 := (hs 2 rfl).trans h2; exact of_move a0) <|
            Obls.cons (Obl.plain rfl rfl fun R' w' hw hs hd => by have a0 : R' 42 = v2 := hd 0 _ _ _ rfl rfl rfl rfl rfl; have ra0 := (f_v2.fr hw).eq a0; exact of_call Try.call17 (M_laws_toStringS_okR (q25 rfl) (hA.fr hw.size) ra0)) <|
            Obls.cons (Obl.plain rfl rfl fun R' w' hw hs hd => by have a0 : Rep (eSl eStr) A w' (R' 43) x24 := hd 0 _ _ _ rfl rfl rfl rfl rfl; exact of_assign a0) <|
            Obls.nil
        intro R w hw hs hF'
        replace h0 : R 0 = v0 := (hs 0 rfl).trans h0
        replace h1 : R 1 = v1 := (hs 1 rfl).trans h1
        replace h2 : R 2 = v2 := (hs 2 rfl).trans h2
        replace h3 : R 3 = .int .i64 p3 := (hs 3 rfl).trans h3
        replace h10 : R 10 = .bool x16 := (hs 10 rfl).trans h10
        replace h11 : R 11 = u20 := (hs 11 rfl).trans h11
        replace h12 : R 12 = u23 := (hs 12 rfl).trans h12
        obtain ⟨u26, h13, f_u26⟩ : ∃ u, R 13 = u ∧ Rep (eSl eStr) A w u x24 := ⟨_, rfl, hF' 2 _ _ rfl rfl rfl⟩
        replace f_u20 := f_u20.fr hw
        replace f_u23 := f_u23.fr hw
        replace f_v0 := f_v0.fr hw
        replace f_v1 := f_v1.fr hw
        replace f_v2 := f_v2.fr hw
        replace hA := hA.fr hw.size
        replace hF := hF.trans hw
        clear hs hF' hw
        refine seqR_nil ?_
        refine HT.seq ?_
        obtain ⟨x27, q28, hr⟩ := cl_some hr
        refine HT.text (l := ⟨_, true, .raw u20⟩ :: ⟨_, true, .raw u23⟩ :: ⟨_, true, .raw u26⟩ :: ⟨_, true, .raw (.int .i64 p3)⟩ :: ⟨_, true, .raw (.bool x27)⟩ :: ⟨_, true, .raw (.bool x27)⟩ :: []) (tl := []) (by kernel_rfl) (by kernel_rfl) (by kernel_rfl) ?_ ?_
        · exact
            Obls.cons (Obl.plain rfl rfl fun R' w' hw hs hd => by have a0 : R' 11 = u20 := (hs 11 rfl).trans h11; exact of_move a0) <|
            Obls.cons (Obl.plain rfl rfl fun R' w' hw hs hd => by have a0 : R' 12 = u23 := (hs 12 rfl).trans h12; exact of_move a0) <|
            Obls.cons (Obl.plain rfl rfl fun R' w' hw hs hd => by have a0 : R' 13 = u26 := (hs 13 rfl).trans h13; exact of_move a0) <|
            Obls.cons (Obl.plain rfl rfl fun R' w' hw hs hd => by have a0 : R' 3 = .int .i64 p3 := (hs 3 rfl).trans h3; exact of_move a0) <|
            Obls.cons (Obl.plain rfl rfl fun R' w' hw hs hd => by have a0 : R' 44 = u20 := hd 0 _ _ _ rfl rfl rfl rfl rfl; have ra0 := (f_u20.fr hw).eq a0; have a1 : R' 45 = u23 := hd 1 _ _ _ rfl rfl rfl rfl rfl; have ra1 := (f_u23.fr hw).eq a1; have a2 : R' 46 = u26 := hd 2 _ _ _ rfl rfl rfl rfl rfl; have ra2 := (f_u26.fr hw).eq a2; have a3 : R' 47 = .int .i64 p3 := hd 3 _ _ _ rfl rfl rfl rfl rfl; exact of_call Try.call57 (M_impl_SharePrefix_ok (q28 rfl) (hA.fr hw.size) ra0 ra1 ra2 a3)) <|
            Obls.cons (Obl.plain rfl rfl fun R' w' hw hs hd => by have a0 : R' 48 = .bool x27 := hd 0 _ _ _ rfl rfl rfl rfl rfl; exact of_assign a0) <|
            Obls.nil
        intro R w hw hs hF'
        replace h0 : R 0 = v0 := (hs 0 rfl).trans h0
        replace h1 : R 1 = v1 := (hs 1 rfl).trans h1
        replace h2 : R 2 = v2 := (hs 2 rfl).trans h2
        replace h10 : R 10 = .bool x16 := (hs 10 rfl).trans h10
        replace h11 : R 11 = u20 := (hs 11 rfl).trans h11
        replace h12 : R 12 = u23 := (hs 12 rfl).trans h12
        replace h13 : R 13 = u26 := (hs 13 rfl).trans h13
        have h14 : R 14 = .bool x27 := hF' 5 _ _ rfl rfl rfl
        replace f_u20 := f_u20.fr hw
        replace f_u23 := f_u23.fr hw
        replace f_u26 := f_u26.fr hw
        replace f_v0 := f_v0.fr hw
        replace f_v1 := f_v1.fr hw
        replace f_v2 := f_v2.fr hw
        replace hA := hA.fr hw.size
        replace hF := hF.trans hw
        clear hs hF' hw
        refine seqR_nil ?_
        refine HT.seq ?_
        refine HT.seq ?_
        refine HT.text (l := ⟨_, true, .raw (.bool x27)⟩ :: ⟨_, true, .raw (.bool x16)⟩ :: ⟨_, true, .raw (.bool (x27 != x16))⟩ :: []) (tl := []) (by kernel_rfl) (by kernel_rfl) (by kernel_rfl) ?_ ?_
        · exact
            Obls.cons (Obl.plain rfl rfl fun R' w' hw hs hd => by have a0 : R' 14 = .bool x27 := (hs 14 rfl).trans h14; exact of_move a0) <|
            Obls.cons (Obl.plain rfl rfl fun R' w' hw hs hd => by have a0 : R' 10 = .bool x16 := (hs 10 rfl).trans h10; exact of_move a0) <|
            Obls.cons (Obl.plain rfl rfl fun R' w' hw hs hd => by have a0 : R' 49 = .bool x27 := hd 0 _ _ _ rfl rfl rfl rfl rfl; have a1 : R' 50 = .bool x16 := hd 1 _ _ _ rfl rfl rfl rfl rfl; exact of_bneq Try.underlying4 a0 a1) <|
            Obls.nil
        intro R w hw hs hF'
        replace h0 : R 0 = v0 := (hs 0 rfl).trans h0
        replace h1 : R 1 = v1 := (hs 1 rfl).trans h1
        replace h2 : R 2 = v2 := (hs 2 rfl).trans h2
        replace h11 : R 11 = u20 := (hs 11 rfl).trans h11
        replace h12 : R 12 = u23 := (hs 12 rfl).trans h12
        replace h13 : R 13 = u26 := (hs 13 rfl).trans h13
        have h51 : R 51 = .bool (x27 != x16) := hF' 2 _ _ rfl rfl rfl
        replace f_u20 := f_u20.fr hw
        replace f_u23 := f_u23.fr hw
        replace f_u26 := f_u26.fr hw
        replace f_v0 := f_v0.fr hw
        replace f_v1 := f_v1.fr hw
        replace f_v2 := f_v2.fr hw
        replace hA := hA.fr hw.size
        replace hF := hF.trans hw
        clear hs hF' hw
        refine seqR_nil ?_
        refine HT.cond (x27 != x16) h51 (fun c29 => ?_) (fun c29 => ?_)
        · have hr := cnd_t c29 hr
          refine HT.seq ?_
          refine HT.text (l := ⟨_, true, .raw (.bool false)⟩ :: []) (tl := []) (by kernel_rfl) (by kernel_rfl) (by kernel_rfl) ?_ ?_
          · exact
              Obls.cons (Obl.plain rfl rfl fun R' w' hw hs hd => by exact of_assign rfl) <|
              Obls.nil
          intro R w hw hs hF'
          have h8 : R 8 = .bool false := hF' 0 _ _ rfl rfl rfl
          replace hA := hA.fr hw.size
          replace hF := hF.trans hw
          clear hs hF' hw
          refine seqR_nil ?_
          refine HT.ret ?_
          obtain rfl := Option.some.inj hr
          exact ⟨.inr rfl, [R 8], ⟨rfl, trivial⟩, h8, hF⟩
        · have hr := cnd_f c29 hr
          refine HT.skip ?_
          refine HT.seq ?_
          refine HT.seq ?_
          obtain ⟨x30, q31, hr⟩ := cl_some hr
          obtain ⟨x32, q33, hr⟩ := cl_some hr
          refine HT.text (l := ⟨_, true, .raw u20⟩ :: ⟨_, true, .raw v0⟩ :: ⟨_, true, .rep (eSl E_impl_TokenCount) A x30⟩ :: ⟨_, true, .raw (.bool x32)⟩ :: ⟨_, true, .raw (.bool (!x32))⟩ :: []) (tl := []) (by kernel_rfl) (by kernel_rfl) (by kernel_rfl) ?_ ?_
          · exact
              Obls.cons (Obl.plain rfl rfl fun R' w' hw hs hd => by have a0 : R' 11 = u20 := (hs 11 rfl).trans h11; exact of_move a0) <|
              Obls.cons (Obl.plain rfl rfl fun R' w' hw hs hd => by have a0 : R' 0 = v0 := (hs 0 rfl).trans h0; exact of_move a0) <|
              Obls.cons (Obl.plain rfl rfl fun R' w' hw hs hd => by have a0 : R' 53 = v0 := hd 0 _ _ _ rfl rfl rfl rfl rfl; have ra0 := (f_v0.fr hw).eq a0; exact of_call Try.call16 (M_laws_toTokenCountS_okR (q31 rfl) (hA.fr hw.size) ra0)) <|
              Obls.cons (Obl.plain rfl rfl fun R' w' hw hs hd => by have a0 : R' 52 = u20 := hd 0 _ _ _ rfl rfl rfl rfl rfl; have ra0 := (f_u20.fr hw).eq a0; have a1 : Rep (eSl E_impl_TokenCount) A w' (R' 54) x30 := hd 1 _ _ _ rfl rfl rfl rfl rfl; exact of_call Try.call20 (M_laws_eqTokenCountS_ok (q33 rfl) (hA.fr hw.size) ra0 a1)) <|
              Obls.cons (Obl.plain rfl rfl fun R' w' hw hs hd => by have a0 : R' 55 = .bool x32 := hd 0 _ _ _ rfl rfl rfl rfl rfl; exact of_not a0) <|
              Obls.nil
          intro R w hw hs hF'
          replace h1 : R 1 = v1 := (hs 1 rfl).trans h1
          replace h2 : R 2 = v2 := (hs 2 rfl).trans h2
          replace h12 : R 12 = u23 := (hs 12 rfl).trans h12
          replace h13 : R 13 = u26 := (hs 13 rfl).trans h13
          have h56 : R 56 = .bool (!x32) := hF' 4 _ _ rfl rfl rfl
          replace f_u23 := f_u23.fr hw
          replace f_u26 := f_u26.fr hw
          replace f_v1 := f_v1.fr hw
          replace f_v2 := f_v2.fr hw
          replace hA := hA.fr hw.size
          replace hF := hF.trans hw
          clear hs hF' hw
          refine seqR_nil ?_
          refine HT.cond (!x32) h56 (fun c34 => ?_) (fun c34 => ?_)
          · have hr := cnd_t c34 hr
            refine HT.seq ?_
            refine HT.text (l := ⟨_, true, .raw (.bool false)⟩ :: []) (tl := []) (by kernel_rfl) (by kernel_rfl) (by kernel_rfl) ?_ ?_
            · exact
                Obls.cons (Obl.plain rfl rfl fun R' w' hw hs hd => by exact of_assign rfl) <|
                Obls.nil
            intro R w hw hs hF'
            have h8 : R 8 = .bool false := hF' 0 _ _ rfl rfl rfl
            replace hA := hA.fr hw.size
            replace hF := hF.trans hw
            clear hs hF' hw
            refine seqR_nil ?_
            refine HT.ret ?_
            obtain rfl := Option.some.inj hr
            exact ⟨.inr rfl, [R 8], ⟨rfl, trivial⟩, h8, hF⟩
          · have hr := cnd_f c34 hr
            refine HT.skip ?_
            refine HT.seq ?_
            refine HT.seq ?_
            obtain ⟨x35, q36, hr⟩ := cl_some hr
            obtain ⟨x37, q38, hr⟩ := cl_some hr
            refine HT.text (l := ⟨_, true, .raw u23⟩ :: ⟨_, true, .raw v1⟩ :: ⟨_, true, .rep (eSl eStr) A x35⟩ :: ⟨_, true, .raw (.bool x37)⟩ :: ⟨_, true, .raw (.bool (!x37))⟩ :: []) (tl := []) (by kernel_rfl) (by kernel_rfl) (by kernel_rfl) ?_ ?_
            · exact
                Obls.cons (Obl.plain rfl rfl fun R' w' hw hs hd => by have a0 : R' 12 = u23 := (hs 12 rfl).trans h12; exact of_move a0) <|
                Obls.cons (Obl.plain rfl rfl fun R' w' hw hs hd => by have a0 : R' 1 = v1 := (hs 1 rfl).trans h1; exact of_move a0) <|
                Obls.cons (Obl.plain rfl rfl fun R' w' hw hs hd => by have a0 : R' 58 = v1 := hd 0 _ _ _ rfl rfl rfl rfl rfl; have ra0 := (f_v1.fr hw).eq a0; exact of_call Try.call17 (M_laws_toStringS_okR (q36 rfl) (hA.fr hw.size) ra0)) <|
                Obls.cons (Obl.plain rfl rfl fun R' w' hw hs hd => by have a0 : R' 57 = u23 := hd 0 _ _ _ rfl rfl rfl rfl rfl; have ra0 := (f_u23.fr hw).eq a0; have a1 : Rep (eSl eStr) A w' (R' 59) x35 := hd 1 _ _ _ rfl rfl rfl rfl rfl; exact of_call Try.call19 (M_laws_eqStringS_ok (q38 rfl) (hA.fr hw.size) ra0 a1)) <|
                Obls.cons (Obl.plain rfl rfl fun R' w' hw hs hd => by have a0 : R' 60 = .bool x37 := hd 0 _ _ _ rfl rfl rfl rfl rfl; exact of_not a0) <|
                Obls.nil
            intro R w hw hs hF'
            replace h2 : R 2 = v2 := (hs 2 rfl).trans h2
            replace h13 : R 13 = u26 := (hs 13 rfl).trans h13
            have h61 : R 61 = .bool (!x37) := hF' 4 _ _ rfl rfl rfl
            replace f_u26 := f_u26.fr hw
            replace f_v2 := f_v2.fr hw
            replace hA := hA.fr hw.size
            replace hF := hF.trans hw
            clear hs hF' hw
            refine seqR_nil ?_
            refine HT.cond (!x37) h61 (fun c39 => ?_) (fun c39 => ?_)
            · have hr := cnd_t c39 hr
              refine HT.seq ?_
              refine HT.text (l := ⟨_, true, .raw (.bool false)⟩ :: []) (tl := []) (by kernel_rfl) (by kernel_rfl) (by kernel_rfl) ?_ ?_
              · exact
                  Obls.cons (Obl.plain rfl rfl fun R' w' hw hs hd => by exact of_assign rfl) <|
                  Obls.nil
              intro R w hw hs hF'
              have h8 : R 8 = .bool false := hF' 0 _ _ rfl rfl rfl
              replace hA := hA.fr hw.size
              replace hF := hF.trans hw
              clear hs hF' hw
              refine seqR_nil ?_
              refine HT.ret ?_
              obtain rfl := Option.some.inj hr
              exact ⟨.inr rfl, [R 8], ⟨rfl, trivial⟩, h8, hF⟩
            · have hr := cnd_f c39 hr
              refine HT.skip ?_
              refine HT.seq ?_
              refine HT.seq ?_
              obtain ⟨x40, q41, hr⟩ := cl_some hr
              obtain ⟨x42, q43, hr⟩ := cl_some hr
              refine HT.text (l := ⟨_, true, .raw u26⟩ :: ⟨_, true, .raw v2⟩ :: ⟨_, true, .rep (eSl eStr) A x40⟩ :: ⟨_, true, .raw (.bool x42)⟩ :: ⟨_, true, .raw (.bool (!x42))⟩ :: []) (tl := []) (by kernel_rfl) (by kernel_rfl) (by kernel_rfl) ?_ ?_
              · exact
                  Obls.cons (Obl.plain rfl rfl fun R' w' hw hs hd => by have a0 : R' 13 = u26 := (hs 13 rfl).trans h13; exact of_move a0) <|
                  Obls.cons (Obl.plain rfl rfl fun R' w' hw hs hd => by have a0 : R' 2 = v2 := (hs 2 rfl).trans h2; exact of_move a0) <|
                  Obls.cons (Obl.plain rfl rfl fun R' w' hw hs hd => by have a0 : R' 63 = v2 := hd 0 _ _ _ rfl rfl rfl rfl rfl; have ra0 := (f_v2.fr hw).eq a0; exact of_call Try.call17 (M_laws_toStringS_okR (q41 rfl) (hA.fr hw.size) ra0)) <|
                  Obls.cons (Obl.plain rfl rfl fun R' w' hw hs hd => by have a0 : R' 62 = u26 := hd 0 _ _ _ rfl rfl rfl rfl rfl; have ra0 := (f_u26.fr hw).eq a0; have a1 : Rep (eSl eStr) A w' (R' 64) x40 := hd 1 _ _ _ rfl rfl rfl rfl rfl; exact of_call Try.call19 (M_laws_eqStringS_ok (q43 rfl) (hA.fr hw.size) ra0 a1)) <|
                  Obls.cons (Obl.plain rfl rfl fun R' w' hw hs hd => by have a0 : R' 65 = .bool x42 := hd 0 _ _ _ rfl rfl rfl rfl rfl; exact of_not a0) <|
                  Obls.nil
              intro R w hw hs hF'
              have h66 : R 66 = .bool (!x42) := hF' 4 _ _ rfl rfl rfl
              replace hA := hA.fr hw.size
              replace hF := hF.trans hw
              clear hs hF' hw
              refine seqR_nil ?_
              refine HT.cond (!x42) h66 (fun c44 => ?_) (fun c44 => ?_)
              · have hr := cnd_t c44 hr
                refine HT.seq ?_
                refine HT.text (l := ⟨_, true, .raw (.bool false)⟩ :: []) (tl := []) (by kernel_rfl) (by kernel_rfl) (by kernel_rfl) ?_ ?_
                · exact
                    Obls.cons (Obl.plain rfl rfl fun R' w' hw hs hd => by exact of_assign rfl) <|
                    Obls.nil
                intro R w hw hs hF'
                have h8 : R 8 = .bool false := hF' 0 _ _ rfl rfl rfl
                replace hA := hA.fr hw.size
                replace hF := hF.trans hw
                clear hs hF' hw
                refine seqR_nil ?_
                refine HT.ret ?_
                obtain rfl := Option.some.inj hr
                exact ⟨.inr rfl, [R 8], ⟨rfl, trivial⟩, h8, hF⟩
              · have hr := cnd_f c44 hr
                refine HT.skip ?_
                refine HT.seq ?_
                refine HT.text (l := ⟨_, true, .raw (.bool true)⟩ :: []) (tl := []) (by kernel_rfl) (by kernel_rfl) (by kernel_rfl) ?_ ?_
                · exact
                    Obls.cons (Obl.plain rfl rfl fun R' w' hw hs hd => by exact of_assign rfl) <|
                    Obls.nil
                intro R w hw hs hF'
                have h8 : R 8 = .bool true := hF' 0 _ _ rfl rfl rfl
                replace hA := hA.fr hw.size
                replace hF := hF.trans hw
                clear hs hF' hw
                refine seqR_nil ?_
                refine HT.ret ?_
                obtain rfl := Option.some.inj hr
                exact ⟨.inr rfl, [R 8], ⟨rfl, trivial⟩, h8, hF⟩
end Go.Proofs.Ytfcocbokgfmjfaa
