/- Printed by dec.py: plain functions and the proofs that the code computes them. No statement of the seat is proved here. -/
import Derived.Test.YtfcocbokgfmjfaaA2
namespace Go.Proofs.Ytfcocbokgfmjfaa
open Go.RowKit
set_option linter.unusedVariables false
def M_cmp_Compare_int (fu : Nat) (p0 : Int) (p1 : Int) : Option Int :=
  cl true (M_cmp_isNaN_int fu p0) fun x1 =>
  cl true (M_cmp_isNaN_int fu p1) fun x3 =>
  bif x1 then (
    bif x3 then (
      some (0 : Int)
    ) else (
      some (-1 : Int)
    )
  ) else (
    bif x3 then (
      some (1 : Int)
    ) else (
      bif (decide (p0 < p1)) then (
        some (-1 : Int)
      ) else (
        bif (decide (p1 < p0)) then (
          some (1 : Int)
        ) else (
          some (0 : Int)
        )
      )
    )
  )
set_option maxRecDepth 100000 in
set_option maxHeartbeats 4000000 in
theorem M_cmp_Compare_int_ok {fu : Nat} {A : Av} {p0 : Int} {p1 : Int} {r : Int} (hr : M_cmp_Compare_int fu p0 p1 = some r) {w : World} {v0 : Value} {v1 : Value} (hA : AvOK A w) (h0 : v0 = .int .i64 p0) (h1 : v1 = .int .i64 p1) :
    Calls Try.prog 65 #[v0, v1] w fun e w' => ∃ v, e = .returned v ∧ (v = .int .i64 r ∧ Fr w w') := by
  unfold M_cmp_Compare_int at hr
  obtain ⟨w0, hw0⟩ : ∃ w0, w0 = w := ⟨_, rfl⟩
  have hF : Fr w0 w := hw0 ▸ Fr.refl _
  rw [show Fr w = Fr w0 from hw0 ▸ rfl]
  clear hw0
  refine calls_of_HT2 [.tmp 4] Try.func65 Try.ntmps65 (by decide) rfl rfl (Nat.le_of_ble_eq_true rfl) ?_
  intro R hR
  replace h0 : R 0 = .int .i64 p0 := (hR 0 _ rfl).trans h0
  replace h1 : R 1 = .int .i64 p1 := (hR 1 _ rfl).trans h1
  clear hR
  refine HT.seq ?_
  refine HT.text (l := ⟨_, true, .raw (.int .i64 (0 : Int))⟩ :: []) (tl := []) (by kernel_rfl) (by kernel_rfl) (by kernel_rfl) ?_ ?_
  · exact
      Obls.cons (Obl.plain rfl rfl fun R' w' hw hs hd => by exact of_assign rfl) <|
      Obls.nil
  intro R w hw hs hF'
  replace h0 : R 0 = .int .i64 p0 := (hs 0 rfl).trans h0
  replace h1 : R 1 = .int .i64 p1 := (hs 1 rfl).trans h1
  replace hA := hA.fr hw.size
  replace hF := hF.trans hw
  clear hs hF' hw
  refine seqR_nil ?_
  refine HT.seq ?_
  obtain ⟨x1, q2, hr⟩ := cl_some hr
  refine HT.text (l := ⟨_, true, .raw (.int .i64 p0)⟩ :: ⟨_, true, .raw (.bool x1)⟩ :: ⟨_, true, .raw (.bool x1)⟩ :: []) (tl := []) (by kernel_rfl) (by kernel_rfl) (by kernel_rfl) ?_ ?_
  · exact
      Obls.cons (Obl.plain rfl rfl fun R' w' hw hs hd => by have a0 : R' 0 = .int .i64 p0 := (hs 0 rfl).trans h0; exact of_move a0) <|
      Obls.cons (Obl.plain rfl rfl fun R' w' hw hs hd => by have a0 : R' 7 = .int .i64 p0 := hd 0 _ _ _ rfl rfl rfl rfl rfl; exact of_call Try.call102 (M_cmp_isNaN_int_ok (q2 rfl) (hA.fr hw.size) a0)) <|
      Obls.cons (Obl.plain rfl rfl fun R' w' hw hs hd => by have a0 : R' 8 = .bool x1 := hd 0 _ _ _ rfl rfl rfl rfl rfl; exact of_assign a0) <|
      Obls.nil
  intro R w hw hs hF'
  replace h0 : R 0 = .int .i64 p0 := (hs 0 rfl).trans h0
  replace h1 : R 1 = .int .i64 p1 := (hs 1 rfl).trans h1
  have h5 : R 5 = .bool x1 := hF' 2 _ _ rfl rfl rfl
  replace hA := hA.fr hw.size
  replace hF := hF.trans hw
  clear hs hF' hw
  refine seqR_nil ?_
  refine HT.seq ?_
  obtain ⟨x3, q4, hr⟩ := cl_some hr
  refine HT.text (l := ⟨_, true, .raw (.int .i64 p1)⟩ :: ⟨_, true, .raw (.bool x3)⟩ :: ⟨_, true, .raw (.bool x3)⟩ :: []) (tl := []) (by kernel_rfl) (by kernel_rfl) (by kernel_rfl) ?_ ?_
  · exact
      Obls.cons (Obl.plain rfl rfl fun R' w' hw hs hd => by have a0 : R' 1 = .int .i64 p1 := (hs 1 rfl).trans h1; exact of_move a0) <|
      Obls.cons (Obl.plain rfl rfl fun R' w' hw hs hd => by have a0 : R' 9 = .int .i64 p1 := hd 0 _ _ _ rfl rfl rfl rfl rfl; exact of_call Try.call102 (M_cmp_isNaN_int_ok (q4 rfl) (hA.fr hw.size) a0)) <|
      Obls.cons (Obl.plain rfl rfl fun R' w' hw hs hd => by have a0 : R' 10 = .bool x3 := hd 0 _ _ _ rfl rfl rfl rfl rfl; exact of_assign a0) <|
      Obls.nil
  intro R w hw hs hF'
  replace h0 : R 0 = .int .i64 p0 := (hs 0 rfl).trans h0
  replace h1 : R 1 = .int .i64 p1 := (hs 1 rfl).trans h1
  replace h5 : R 5 = .bool x1 := (hs 5 rfl).trans h5
  have h6 : R 6 = .bool x3 := hF' 2 _ _ rfl rfl rfl
  replace hA := hA.fr hw.size
  replace hF := hF.trans hw
  clear hs hF' hw
  refine seqR_nil ?_
  refine HT.seq ?_
  refine HT.seq ?_
  refine HT.text (l := ⟨_, true, .raw (.bool x1)⟩ :: []) (tl := []) (by kernel_rfl) (by kernel_rfl) (by kernel_rfl) ?_ ?_
  · exact
      Obls.cons (Obl.plain rfl rfl fun R' w' hw hs hd => by have a0 : R' 5 = .bool x1 := (hs 5 rfl).trans h5; exact of_move a0) <|
      Obls.nil
  intro R w hw hs hF'
  replace h0 : R 0 = .int .i64 p0 := (hs 0 rfl).trans h0
  replace h1 : R 1 = .int .i64 p1 := (hs 1 rfl).trans h1
  replace h6 : R 6 = .bool x3 := (hs 6 rfl).trans h6
  have h11 : R 11 = .bool x1 := hF' 0 _ _ rfl rfl rfl
  replace hA := hA.fr hw.size
  replace hF := hF.trans hw
  clear hs hF' hw
  refine seqR_nil ?_
  refine HT.cond x1 h11 (fun c5 => ?_) (fun c5 => ?_)
  · have hr := cnd_t c5 hr
    refine HT.seq ?_
    refine HT.seq ?_
    refine HT.text (l := ⟨_, true, .raw (.bool x3)⟩ :: []) (tl := []) (by kernel_rfl) (by kernel_rfl) (by kernel_rfl) ?_ ?_
    · exact
        Obls.cons (Obl.plain rfl rfl fun R' w' hw hs hd => by have a0 : R' 6 = .bool x3 := (hs 6 rfl).trans h6; exact of_move a0) <|
        Obls.nil
    intro R w hw hs hF'
    have h12 : R 12 = .bool x3 := hF' 0 _ _ rfl rfl rfl
    replace hA := hA.fr hw.size
    replace hF := hF.trans hw
    clear hs hF' hw
    refine seqR_nil ?_
    refine HT.cond x3 h12 (fun c6 => ?_) (fun c6 => ?_)
    · have hr := cnd_t c6 hr
      refine HT.seq ?_
      refine HT.text (l := ⟨_, true, .raw (.int .i64 (0 : Int))⟩ :: []) (tl := []) (by kernel_rfl) (by kernel_rfl) (by kernel_rfl) ?_ ?_
      · exact
          Obls.cons (Obl.plain rfl rfl fun R' w' hw hs hd => by exact of_assign rfl) <|
          Obls.nil
      intro R w hw hs hF'
      have h4 : R 4 = .int .i64 (0 : Int) := hF' 0 _ _ rfl rfl rfl
      replace hA := hA.fr hw.size
      replace hF := hF.trans hw
      clear hs hF' hw
      refine seqR_nil ?_
      refine HT.ret ?_
      obtain rfl := Option.some.inj hr
      exact ⟨.inr rfl, [R 4], ⟨rfl, trivial⟩, h4, hF⟩
    · have hr := cnd_f c6 hr
      refine HT.skip ?_
      refine HT.seq ?_
      refine HT.text (l := ⟨_, true, .raw (.int .i64 (-1 : Int))⟩ :: []) (tl := []) (by kernel_rfl) (by kernel_rfl) (by kernel_rfl) ?_ ?_
      · exact
          Obls.cons (Obl.plain rfl rfl fun R' w' hw hs hd => by exact of_assign rfl) <|
          Obls.nil
      intro R w hw hs hF'
      have h4 : R 4 = .int .i64 (-1 : Int) := hF' 0 _ _ rfl rfl rfl
      replace hA := hA.fr hw.size
      replace hF := hF.trans hw
      clear hs hF' hw
      refine seqR_nil ?_
      refine HT.ret ?_
      obtain rfl := Option.some.inj hr
      exact ⟨.inr rfl, [R 4], ⟨rfl, trivial⟩, h4, hF⟩
  · have hr := cnd_f c5 hr
    refine HT.skip ?_
    refine HT.seq ?_
    refine HT.seq ?_
    refine HT.text (l := ⟨_, true, .raw (.bool x3)⟩ :: []) (tl := []) (by kernel_rfl) (by kernel_rfl) (by kernel_rfl) ?_ ?_
    · exact
        Obls.cons (Obl.plain rfl rfl fun R' w' hw hs hd => by have a0 : R' 6 = .bool x3 := (hs 6 rfl).trans h6; exact of_move a0) <|
        Obls.nil
    intro R w hw hs hF'
    replace h0 : R 0 = .int .i64 p0 := (hs 0 rfl).trans h0
    replace h1 : R 1 = .int .i64 p1 := (hs 1 rfl).trans h1
    have h13 : R 13 = .bool x3 := hF' 0 _ _ rfl rfl rfl
    replace hA := hA.fr hw.size
    replace hF := hF.trans hw
    clear hs hF' hw
    refine seqR_nil ?_
    refine HT.cond x3 h13 (fun c7 => ?_) (fun c7 => ?_)
    · have hr := cnd_t c7 hr
      refine HT.seq ?_
      refine HT.text (l := ⟨_, true, .raw (.int .i64 (1 : Int))⟩ :: []) (tl := []) (by kernel_rfl) (by kernel_rfl) (by kernel_rfl) ?_ ?_
      · exact
          Obls.cons (Obl.plain rfl rfl fun R' w' hw hs hd => by exact of_assign rfl) <|
          Obls.nil
      intro R w hw hs hF'
      have h4 : R 4 = .int .i64 (1 : Int) := hF' 0 _ _ rfl rfl rfl
      replace hA := hA.fr hw.size
      replace hF := hF.trans hw
      clear hs hF' hw
      refine seqR_nil ?_
      refine HT.ret ?_
      obtain rfl := Option.some.inj hr
      exact ⟨.inr rfl, [R 4], ⟨rfl, trivial⟩, h4, hF⟩
    · have hr := cnd_f c7 hr
      refine HT.skip ?_
      refine HT.seq ?_
      refine HT.seq ?_
      refine HT.text (l := ⟨_, true, .raw (.int .i64 p0)⟩ :: ⟨_, true, .raw (.int .i64 p1)⟩ :: ⟨_, true, .raw (.bool (decide (p0 < p1)))⟩ :: []) (tl := []) (by kernel_rfl) (by kernel_rfl) (by kernel_rfl) ?_ ?_
      · exact
          Obls.cons (Obl.plain rfl rfl fun R' w' hw hs hd => by have a0 : R' 0 = .int .i64 p0 := (hs 0 rfl).trans h0; exact of_move a0) <|
          Obls.cons (Obl.plain rfl rfl fun R' w' hw hs hd => by have a0 : R' 1 = .int .i64 p1 := (hs 1 rfl).trans h1; exact of_move a0) <|
          Obls.cons (Obl.plain rfl rfl fun R' w' hw hs hd => by have a0 : R' 14 = .int .i64 p0 := hd 0 _ _ _ rfl rfl rfl rfl rfl; have a1 : R' 15 = .int .i64 p1 := hd 1 _ _ _ rfl rfl rfl rfl rfl; exact of_lss a0 a1) <|
          Obls.nil
      intro R w hw hs hF'
      replace h0 : R 0 = .int .i64 p0 := (hs 0 rfl).trans h0
      replace h1 : R 1 = .int .i64 p1 := (hs 1 rfl).trans h1
      have h16 : R 16 = .bool (decide (p0 < p1)) := hF' 2 _ _ rfl rfl rfl
      replace hA := hA.fr hw.size
      replace hF := hF.trans hw
      clear hs hF' hw
      refine seqR_nil ?_
      refine HT.cond (decide (p0 < p1)) h16 (fun c8 => ?_) (fun c8 => ?_)
      · have hr := cnd_t c8 hr
        refine HT.seq ?_
        refine HT.text (l := ⟨_, true, .raw (.int .i64 (-1 : Int))⟩ :: []) (tl := []) (by kernel_rfl) (by kernel_rfl) (by kernel_rfl) ?_ ?_
        · exact
            Obls.cons (Obl.plain rfl rfl fun R' w' hw hs hd => by exact of_assign rfl) <|
            Obls.nil
        intro R w hw hs hF'
        have h4 : R 4 = .int .i64 (-1 : Int) := hF' 0 _ _ rfl rfl rfl
        replace hA := hA.fr hw.size
        replace hF := hF.trans hw
        clear hs hF' hw
        refine seqR_nil ?_
        refine HT.ret ?_
        obtain rfl := Option.some.inj hr
        exact ⟨.inr rfl, [R 4], ⟨rfl, trivial⟩, h4, hF⟩
      · have hr := cnd_f c8 hr
        refine HT.skip ?_
        refine HT.seq ?_
        refine HT.seq ?_
        refine HT.text (l := ⟨_, true, .raw (.int .i64 p0)⟩ :: ⟨_, true, .raw (.int .i64 p1)⟩ :: ⟨_, true, .raw (.bool (decide (p1 < p0)))⟩ :: []) (tl := []) (by kernel_rfl) (by kernel_rfl) (by kernel_rfl) ?_ ?_
        · exact
            Obls.cons (Obl.plain rfl rfl fun R' w' hw hs hd => by have a0 : R' 0 = .int .i64 p0 := (hs 0 rfl).trans h0; exact of_move a0) <|
            Obls.cons (Obl.plain rfl rfl fun R' w' hw hs hd => by have a0 : R' 1 = .int .i64 p1 := (hs 1 rfl).trans h1; exact of_move a0) <|
            Obls.cons (Obl.plain rfl rfl fun R' w' hw hs hd => by have a0 : R' 17 = .int .i64 p0 := hd 0 _ _ _ rfl rfl rfl rfl rfl; have a1 : R' 18 = .int .i64 p1 := hd 1 _ _ _ rfl rfl rfl rfl rfl; exact of_gtr a0 a1) <|
            Obls.nil
        intro R w hw hs hF'
        have h19 : R 19 = .bool (decide (p1 < p0)) := hF' 2 _ _ rfl rfl rfl
        replace hA := hA.fr hw.size
        replace hF := hF.trans hw
        clear hs hF' hw
        refine seqR_nil ?_
        refine HT.cond (decide (p1 < p0)) h19 (fun c9 => ?_) (fun c9 => ?_)
        · have hr := cnd_t c9 hr
          refine HT.seq ?_
          refine HT.text (l := ⟨_, true, .raw (.int .i64 (1 : Int))⟩ :: []) (tl := []) (by kernel_rfl) (by kernel_rfl) (by kernel_rfl) ?_ ?_
          · exact
              Obls.cons (Obl.plain rfl rfl fun R' w' hw hs hd => by exact of_assign rfl) <|
              Obls.nil
          intro R w hw hs hF'
          have h4 : R 4 = .int .i64 (1 : Int) := hF' 0 _ _ rfl rfl rfl
          replace hA := hA.fr hw.size
          replace hF := hF.trans hw
          clear hs hF' hw
          refine seqR_nil ?_
          refine HT.ret ?_
          obtain rfl := Option.some.inj hr
          exact ⟨.inr rfl, [R 4], ⟨rfl, trivial⟩, h4, hF⟩
        · have hr := cnd_f c9 hr
          refine HT.skip ?_
          refine HT.seq ?_
          refine HT.text (l := ⟨_, true, .raw (.int .i64 (0 : Int))⟩ :: []) (tl := []) (by kernel_rfl) (by kernel_rfl) (by kernel_rfl) ?_ ?_
          · exact
              Obls.cons (Obl.plain rfl rfl fun R' w' hw hs hd => by exact of_assign rfl) <|
              Obls.nil
          intro R w hw hs hF'
          have h4 : R 4 = .int .i64 (0 : Int) := hF' 0 _ _ rfl rfl rfl
          replace hA := hA.fr hw.size
          replace hF := hF.trans hw
          clear hs hF' hw
          refine seqR_nil ?_
          refine HT.ret ?_
          obtain rfl := Option.some.inj hr
          exact ⟨.inr rfl, [R 4], ⟨rfl, trivial⟩, h4, hF⟩
def M_cmp_Or_int_L0 (fu : Nat) (p0 : List Int) : Nat → Int → Option (Ex Int Unit)
  | 0, _ => none
  | k + 1, y4 =>
    bif (decide (y4 < (p0.length : Int))) then (
      ck (inR y4 p0.length) <|
      bif ((gtD p0 y4) != (0 : Int)) then (
        some (Ex.ret (gtD p0 y4))
      ) else (
        ck (i64B (y4 + (1 : Int))) <|
        M_cmp_Or_int_L0 fu p0 k (y4 + (1 : Int))
      )
    ) else (
      some (Ex.go ())
    )
def M_cmp_Or_int (fu : Nat) (p0 : List Int) : Option Int :=
  cl true (M_cmp_Or_int_L0 fu p0 fu (0 : Int)) fun rl1 =>
  exM rl1 (fun r => some r) fun s3 =>
  some (0 : Int)
set_option maxRecDepth 100000 in
set_option maxHeartbeats 4000000 in
theorem M_cmp_Or_int_ok {fu : Nat} {A : Av} {p0 : List Int} {r : Int} (hr : M_cmp_Or_int fu p0 = some r) {w : World} {v0 : Value} (hA : AvOK A w) (h0 : Rep (eSl (eInt .i64)) A w v0 p0) :
    Calls Try.prog 64 #[v0] w fun e w' => ∃ v, e = .returned v ∧ (v = .int .i64 r ∧ Fr w w') := by
  unfold M_cmp_Or_int at hr
  obtain ⟨w0, hw0⟩ : ∃ w0, w0 = w := ⟨_, rfl⟩
  have hF : Fr w0 w := hw0 ▸ Fr.refl _
  rw [show Fr w = Fr w0 from hw0 ▸ rfl]
  clear hw0
  refine calls_of_HT2 [.tmp 2] Try.func64 Try.ntmps64 (by decide) rfl rfl (Nat.le_of_ble_eq_true rfl) ?_
  intro R hR
  have f_v0 := h0
  replace h0 : R 0 = v0 := hR 0 _ rfl
  clear hR
  refine HT.seq ?_
  refine HT.text (l := ⟨_, true, .raw (.int .i64 (0 : Int))⟩ :: []) (tl := []) (by kernel_rfl) (by kernel_rfl) (by kernel_rfl) ?_ ?_
  · exact
      Obls.cons (Obl.plain rfl rfl fun R' w' hw hs hd => by exact of_assign rfl) <|
      Obls.nil
  intro R w hw hs hF'
  replace h0 : R 0 = v0 := (hs 0 rfl).trans h0
  replace f_v0 := f_v0.fr hw
  replace hA := hA.fr hw.size
  replace hF := hF.trans hw
  clear hs hF' hw
  refine seqR_nil ?_
  refine HT.seq ?_
  refine HT.text (l := ⟨_, true, .raw (.int .i64 (0 : Int))⟩ :: []) (tl := []) (by kernel_rfl) (by kernel_rfl) (by kernel_rfl) ?_ ?_
  · exact
      Obls.cons (Obl.plain rfl rfl fun R' w' hw hs hd => by exact of_assign rfl) <|
      Obls.nil
  intro R w hw hs hF'
  replace h0 : R 0 = v0 := (hs 0 rfl).trans h0
  have h3 : R 3 = .int .i64 (0 : Int) := hF' 0 _ _ rfl rfl rfl
  replace f_v0 := f_v0.fr hw
  replace hA := hA.fr hw.size
  replace hF := hF.trans hw
  clear hs hF' hw
  refine seqR_nil ?_
  refine HT.seq ?_
  refine HT.seq ?_
  refine HT.text (l := ⟨_, true, .raw v0⟩ :: ⟨_, true, .raw (.int .i64 (p0.length : Int))⟩ :: ⟨_, true, .raw (.int .i64 (0 : Int))⟩ :: []) (tl := []) (by kernel_rfl) (by kernel_rfl) (by kernel_rfl) ?_ ?_
  · exact
      Obls.cons (Obl.plain rfl rfl fun R' w' hw hs hd => by have a0 : R' 0 = v0 := (hs 0 rfl).trans h0; exact of_move a0) <|
      Obls.cons (Obl.plain rfl rfl fun R' w' hw hs hd => by have a0 : R' 6 = v0 := hd 0 _ _ _ rfl rfl rfl rfl rfl; have ra0 := (f_v0.fr hw).eq a0; exact of_len_sl (aT := #[]) ra0 Try.underlying61) <|
      Obls.cons (Obl.plain rfl rfl fun R' w' hw hs hd => by exact of_move rfl) <|
      Obls.nil
  intro R w hw hs hF'
  replace h3 : R 3 = .int .i64 (0 : Int) := (hs 3 rfl).trans h3
  have h6 : R 6 = v0 := hF' 0 _ _ rfl rfl rfl
  have h7 : R 7 = .int .i64 (p0.length : Int) := hF' 1 _ _ rfl rfl rfl
  have h8 : R 8 = .int .i64 (0 : Int) := hF' 2 _ _ rfl rfl rfl
  replace f_v0 := f_v0.fr hw
  replace hA := hA.fr hw.size
  replace hF := hF.trans hw
  clear hs hF' hw
  refine seqR_nil ?_
  obtain ⟨rl1, q2, hr⟩ := cl_some hr
  replace q2 := q2 rfl
  refine HT.cut0 (fun R w => ∃ (s3 : Unit), rl1 = Ex.go s3 ∧ AvOK A w ∧ Fr w0 w ∧ R 3 = .int .i64 (0 : Int)) ?_ ?_
  · refine HT.block ?_
    refine HT.loop (fun k R w => ∃ (y4 : Int), M_cmp_Or_int_L0 fu p0 k y4 = some rl1 ∧ AvOK A w ∧ Fr w0 w ∧ R 3 = .int .i64 (0 : Int) ∧ R 6 = v0 ∧ R 7 = .int .i64 (p0.length : Int) ∧ R 8 = .int .i64 y4 ∧ Rep (eSl (eInt .i64)) A w v0 p0) fu ⟨_, q2, hA, hF, h3, h6, h7, h8, f_v0⟩ ?_
    have hr0 := hr; clear hr q2
    rintro k R w ⟨y4, hr, hA, hF, h3, h6, h7, h8, f_v0⟩
    rcases k with _ | k
    · cases (show none = some _ from hr)
    rw [M_cmp_Or_int_L0] at hr
    refine HT.seq ?_
    refine HT.text (l := ⟨_, true, .raw (.bool (decide (y4 < (p0.length : Int))))⟩ :: []) (tl := []) (by kernel_rfl) (by kernel_rfl) (by kernel_rfl) ?_ ?_
    · exact
        Obls.cons (Obl.plain rfl rfl fun R' w' hw hs hd => by have a0 : R' 8 = .int .i64 y4 := (hs 8 rfl).trans h8; have a1 : R' 7 = .int .i64 (p0.length : Int) := (hs 7 rfl).trans h7; exact of_lss a0 a1) <|
        Obls.nil
    intro R w hw hs hF'
    replace h3 : R 3 = .int .i64 (0 : Int) := (hs 3 rfl).trans h3
    replace h6 : R 6 = v0 := (hs 6 rfl).trans h6
    replace h7 : R 7 = .int .i64 (p0.length : Int) := (hs 7 rfl).trans h7
    replace h8 : R 8 = .int .i64 y4 := (hs 8 rfl).trans h8
    have h9 : R 9 = .bool (decide (y4 < (p0.length : Int))) := hF' 0 _ _ rfl rfl rfl
    replace f_v0 := f_v0.fr hw
    replace hA := hA.fr hw.size
    replace hF := hF.trans hw
    clear hs hF' hw
    refine seqR_nil ?_
    refine HT.seq ?_
    refine HT.cond (decide (y4 < (p0.length : Int))) h9 (fun c5 => ?_) (fun c5 => ?_)
    · have hr := cnd_t c5 hr
      refine HT.skip ?_
      refine HT.seq ?_
      refine HT.block ?_
      refine HT.seq ?_
      obtain ⟨e6, hr⟩ := ck_some hr
      refine HT.text (l := ⟨_, true, .qtr (eInt .i64) A (gtD p0 y4)⟩ :: ⟨_, true, .raw (.int .i64 (gtD p0 y4))⟩ :: ⟨_, true, .raw (.int .i64 (gtD p0 y4))⟩ :: []) (tl := []) (by kernel_rfl) (by kernel_rfl) (by kernel_rfl) ?_ ?_
      · exact
          Obls.cons (Obl.plain rfl rfl fun R' w' hw hs hd => by have a0 : R' 6 = v0 := (hs 6 rfl).trans h6; have a1 : R' 8 = .int .i64 y4 := (hs 8 rfl).trans h8; have ra0 := (f_v0.fr hw).eq a0; exact of_indexAddr ra0 a1 Try.underlying61 Try.sizeOf3 e6) <|
          Obls.cons (Obl.plain rfl rfl fun R' w' hw hs hd => by have a0 : QRep (eInt .i64) A w' (R' 10) (gtD p0 y4) := hd 0 _ _ _ rfl rfl rfl rfl rfl; exact OpF.int (of_load a0.ptr Try.isAgg3 Try.sizeOf3)) <|
          Obls.cons (Obl.plain rfl rfl fun R' w' hw hs hd => by have a0 : R' 11 = .int .i64 (gtD p0 y4) := hd 0 _ _ _ rfl rfl rfl rfl rfl; exact of_assign a0) <|
          Obls.nil
      intro R w hw hs hF'
      replace h3 : R 3 = .int .i64 (0 : Int) := (hs 3 rfl).trans h3
      replace h6 : R 6 = v0 := (hs 6 rfl).trans h6
      replace h7 : R 7 = .int .i64 (p0.length : Int) := (hs 7 rfl).trans h7
      replace h8 : R 8 = .int .i64 y4 := (hs 8 rfl).trans h8
      have h5 : R 5 = .int .i64 (gtD p0 y4) := hF' 2 _ _ rfl rfl rfl
      replace f_v0 := f_v0.fr hw
      replace hA := hA.fr hw.size
      replace hF := hF.trans hw
      clear hs hF' hw
      refine seqR_nil ?_
      refine HT.seq ?_
      refine HT.text (l := ⟨_, true, .raw (.int .i64 (gtD p0 y4))⟩ :: ⟨_, true, .raw (.int .i64 (0 : Int))⟩ :: ⟨_, true, .raw (.bool ((gtD p0 y4) != (0 : Int)))⟩ :: []) (tl := []) (by kernel_rfl) (by kernel_rfl) (by kernel_rfl) ?_ ?_
      · exact
          Obls.cons (Obl.plain rfl rfl fun R' w' hw hs hd => by have a0 : R' 5 = .int .i64 (gtD p0 y4) := (hs 5 rfl).trans h5; exact of_move a0) <|
          Obls.cons (Obl.plain rfl rfl fun R' w' hw hs hd => by have a0 : R' 3 = .int .i64 (0 : Int) := (hs 3 rfl).trans h3; exact of_move a0) <|
          Obls.cons (Obl.plain rfl rfl fun R' w' hw hs hd => by have a0 : R' 12 = .int .i64 (gtD p0 y4) := hd 0 _ _ _ rfl rfl rfl rfl rfl; have a1 : R' 13 = .int .i64 (0 : Int) := hd 1 _ _ _ rfl rfl rfl rfl rfl; exact of_neq a0 a1) <|
          Obls.nil
      intro R w hw hs hF'
      replace h3 : R 3 = .int .i64 (0 : Int) := (hs 3 rfl).trans h3
      replace h5 : R 5 = .int .i64 (gtD p0 y4) := (hs 5 rfl).trans h5
      replace h6 : R 6 = v0 := (hs 6 rfl).trans h6
      replace h7 : R 7 = .int .i64 (p0.length : Int) := (hs 7 rfl).trans h7
      replace h8 : R 8 = .int .i64 y4 := (hs 8 rfl).trans h8
      have h14 : R 14 = .bool ((gtD p0 y4) != (0 : Int)) := hF' 2 _ _ rfl rfl rfl
      replace f_v0 := f_v0.fr hw
      replace hA := hA.fr hw.size
      replace hF := hF.trans hw
      clear hs hF' hw
      refine seqR_nil ?_
      refine HT.cond ((gtD p0 y4) != (0 : Int)) h14 (fun c7 => ?_) (fun c7 => ?_)
      · have hr := cnd_t c7 hr
        refine HT.seq ?_
        refine HT.text (l := ⟨_, true, .raw (.int .i64 (gtD p0 y4))⟩ :: ⟨_, true, .raw (.int .i64 (gtD p0 y4))⟩ :: []) (tl := []) (by kernel_rfl) (by kernel_rfl) (by kernel_rfl) ?_ ?_
        · exact
            Obls.cons (Obl.plain rfl rfl fun R' w' hw hs hd => by have a0 : R' 5 = .int .i64 (gtD p0 y4) := (hs 5 rfl).trans h5; exact of_move a0) <|
            Obls.cons (Obl.plain rfl rfl fun R' w' hw hs hd => by have a0 : R' 15 = .int .i64 (gtD p0 y4) := hd 0 _ _ _ rfl rfl rfl rfl rfl; exact of_assign a0) <|
            Obls.nil
        intro R w hw hs hF'
        have h2 : R 2 = .int .i64 (gtD p0 y4) := hF' 1 _ _ rfl rfl rfl
        replace hA := hA.fr hw.size
        replace hF := hF.trans hw
        clear hs hF' hw
        refine seqR_nil ?_
        refine HT.ret ?_
        obtain rfl := Option.some.inj hr
        have hr := hr0
        replace hr : some _ = some _ := hr
        obtain rfl := Option.some.inj hr
        exact ⟨.inr rfl, [R 2], ⟨rfl, trivial⟩, h2, hF⟩
      · have hr := cnd_f c7 hr
        refine HT.skip ?_
        obtain ⟨e8, hr⟩ := ck_some hr
        refine HT.text (l := ⟨_, true, .raw (.int .i64 (y4 + (1 : Int)))⟩ :: ⟨_, true, .raw (.int .i64 (y4 + (1 : Int)))⟩ :: []) (tl := []) (by kernel_rfl) (by kernel_rfl) (by kernel_rfl) ?_ ?_
        · exact
            Obls.cons (Obl.plain rfl rfl fun R' w' hw hs hd => by have a0 : R' 8 = .int .i64 y4 := (hs 8 rfl).trans h8; exact of_add a0 rfl e8) <|
            Obls.cons (Obl.plain rfl rfl fun R' w' hw hs hd => by have a0 : R' 16 = .int .i64 (y4 + (1 : Int)) := hd 0 _ _ _ rfl rfl rfl rfl rfl; exact of_move a0) <|
            Obls.nil
        intro R w hw hs hF'
        replace h3 : R 3 = .int .i64 (0 : Int) := (hs 3 rfl).trans h3
        replace h6 : R 6 = v0 := (hs 6 rfl).trans h6
        replace h7 : R 7 = .int .i64 (p0.length : Int) := (hs 7 rfl).trans h7
        have h8 : R 8 = .int .i64 (y4 + (1 : Int)) := hF' 1 _ _ rfl rfl rfl
        replace f_v0 := f_v0.fr hw
        replace hA := hA.fr hw.size
        replace hF := hF.trans hw
        clear hs hF' hw
        refine seqR_nil ?_
        exact Exists.intro k (And.intro (Nat.lt_succ_self k) ⟨_, hr, hA, hF, h3, h6, h7, h8, f_v0⟩)
    · have hr := cnd_f c5 hr
      refine HT.exit ?_
      obtain rfl := Option.some.inj hr
      exact Exists.intro _ ⟨rfl, hA, hF, h3⟩
  rintro R w ⟨s3, rfl, hA, hF, h3⟩
  have hr := exM_go hr
  refine HT.seq ?_
  refine HT.text (l := ⟨_, true, .raw (.int .i64 (0 : Int))⟩ :: ⟨_, true, .raw (.int .i64 (0 : Int))⟩ :: []) (tl := []) (by kernel_rfl) (by kernel_rfl) (by kernel_rfl) ?_ ?_
  · exact
      Obls.cons (Obl.plain rfl rfl fun R' w' hw hs hd => by have a0 : R' 3 = .int .i64 (0 : Int) := (hs 3 rfl).trans h3; exact of_move a0) <|
      Obls.cons (Obl.plain rfl rfl fun R' w' hw hs hd => by have a0 : R' 17 = .int .i64 (0 : Int) := hd 0 _ _ _ rfl rfl rfl rfl rfl; exact of_assign a0) <|
      Obls.nil
  intro R w hw hs hF'
  have h2 : R 2 = .int .i64 (0 : Int) := hF' 1 _ _ rfl rfl rfl
  replace hA := hA.fr hw.size
  replace hF := hF.trans hw
  clear hs hF' hw
  refine seqR_nil ?_
  refine HT.ret ?_
  obtain rfl := Option.some.inj hr
  exact ⟨.inr rfl, [R 2], ⟨rfl, trivial⟩, h2, hF⟩
def M_impl_OrderTokens_1 (fu : Nat) (p0 : List UInt8) (p1 : List UInt8) (p2 : List T_impl_TokenCount) : Option Int :=
  cl true (M_impl_TokenFrequency fu p2 p0) fun x1 =>
  cl true (M_impl_TokenFrequency fu p2 p1) fun x3 =>
  cl true (M_cmp_Compare_int fu x1 x3) fun x5 =>
  cl true (M_strCmp fu p0 p1) fun x7 =>
  cl true (M_cmp_Or_int fu ([x5, x7] : List Int)) fun x9 =>
  some x9
set_option maxRecDepth 100000 in
set_option maxHeartbeats 4000000 in
theorem M_impl_OrderTokens_1_ok {fu : Nat} {A : Av} {p0 : List UInt8} {p1 : List UInt8} {p2 : List T_impl_TokenCount} {r : Int} (hr : M_impl_OrderTokens_1 fu p0 p1 p2 = some r) {w : World} {v0 : Value} {v1 : Value} {v2 : Value} (hA : AvOK A w) (h0 : Rep eStr A w v0 p0) (h1 : Rep eStr A w v1 p1) (h2 : PRep (eSl E_impl_TokenCount) A w v2 p2) :
    Calls Try.prog 63 #[v0, v1, v2] w fun e w' => ∃ v, e = .returned v ∧ (v = .int .i64 r ∧ Fr w w') := by
  unfold M_impl_OrderTokens_1 at hr
  obtain ⟨w0, hw0⟩ : ∃ w0, w0 = w := ⟨_, rfl⟩
  have hF : Fr w0 w := hw0 ▸ Fr.refl _
  rw [show Fr w = Fr w0 from hw0 ▸ rfl]
  have f_v2 : CRep (eSl E_impl_TokenCount) A w w0.heap.size v2 p2 := by subst hw0; exact CRep.mk' h2
  clear hw0
  refine calls_of_HT2 [.tmp 5] Try.func63 Try.ntmps63 (by decide) rfl rfl (Nat.le_of_ble_eq_true rfl) ?_
  intro R hR
  have f_v0 := h0
  replace h0 : R 0 = v0 := hR 0 _ rfl
  have f_v1 := h1
  replace h1 : R 1 = v1 := hR 1 _ rfl
  replace h2 : R 2 = v2 := hR 2 _ rfl
  clear hR
  refine HT.seq ?_
  refine HT.text (l := ⟨_, true, .raw (.int .i64 (0 : Int))⟩ :: []) (tl := []) (by kernel_rfl) (by kernel_rfl) (by kernel_rfl) ?_ ?_
  · exact
      Obls.cons (Obl.plain rfl rfl fun R' w' hw hs hd => by exact of_assign rfl) <|
      Obls.nil
  intro R w hw hs hF'
  replace h0 : R 0 = v0 := (hs 0 rfl).trans h0
  replace h1 : R 1 = v1 := (hs 1 rfl).trans h1
  replace h2 : R 2 = v2 := (hs 2 rfl).trans h2
  replace f_v2 := f_v2.fr hw
  replace f_v0 := f_v0.fr hw
  replace f_v1 := f_v1.fr hw
  replace hA := hA.fr hw.size
  replace hF := hF.trans hw
  clear hs hF' hw
  refine seqR_nil ?_
  refine HT.seq ?_
  obtain ⟨x1, q2, hr⟩ := cl_some hr
  obtain ⟨x3, q4, hr⟩ := cl_some hr
  obtain ⟨x5, q6, hr⟩ := cl_some hr
  obtain ⟨x7, q8, hr⟩ := cl_some hr
  obtain ⟨x9, q10, hr⟩ := cl_some hr
  refine HT.draw (by kernel_rfl) (l := ⟨_, true, .rep (eSl E_impl_TokenCount) A p2⟩ :: ⟨_, true, .raw v0⟩ :: ⟨_, true, .raw (.int .i64 x1)⟩ :: ⟨_, true, .rep (eSl E_impl_TokenCount) A p2⟩ :: ⟨_, true, .raw v1⟩ :: ⟨_, true, .raw (.int .i64 x3)⟩ :: ⟨_, true, .raw (.int .i64 x5)⟩ :: ⟨_, true, .raw v0⟩ :: ⟨_, true, .raw v1⟩ :: ⟨_, true, .raw (.int .i64 x7)⟩ :: ⟨_, true, .rep (eSl (eInt .i64)) A ([x5, x7] : List Int)⟩ :: ⟨_, true, .raw (.int .i64 x9)⟩ :: ⟨_, true, .raw (.int .i64 x9)⟩ :: []) (tl := []) (by kernel_rfl) (by kernel_rfl) (by kernel_rfl) (by kernel_rfl) ?_ ?_
  · exact
      Obls.cons (Obl.plain rfl rfl fun R' w' hw hs hd => by have a0 : R' 2 = v2 := (hs 2 rfl).trans h2; exact (of_load ((f_v2.fr hw).ptr a0) Try.isAgg27 Try.sizeOf27)) <|
      Obls.cons (Obl.plain rfl rfl fun R' w' hw hs hd => by have a0 : R' 0 = v0 := (hs 0 rfl).trans h0; exact of_move a0) <|
      Obls.cons (Obl.plain rfl rfl fun R' w' hw hs hd => by have a0 : Rep (eSl E_impl_TokenCount) A w' (R' 6) p2 := hd 0 _ _ _ rfl rfl rfl rfl rfl; have a1 : R' 7 = v0 := hd 1 _ _ _ rfl rfl rfl rfl rfl; have ra1 := (f_v0.fr hw).eq a1; exact of_call Try.call66 (M_impl_TokenFrequency_ok (q2 rfl) (hA.fr hw.size) a0 ra1)) <|
      Obls.cons (Obl.plain rfl rfl fun R' w' hw hs hd => by have a0 : R' 2 = v2 := (hs 2 rfl).trans h2; exact (of_load ((f_v2.fr hw).ptr a0) Try.isAgg27 Try.sizeOf27)) <|
      Obls.cons (Obl.plain rfl rfl fun R' w' hw hs hd => by have a0 : R' 1 = v1 := (hs 1 rfl).trans h1; exact of_move a0) <|
      Obls.cons (Obl.plain rfl rfl fun R' w' hw hs hd => by have a0 : Rep (eSl E_impl_TokenCount) A w' (R' 9) p2 := hd 0 _ _ _ rfl rfl rfl rfl rfl; have a1 : R' 10 = v1 := hd 1 _ _ _ rfl rfl rfl rfl rfl; have ra1 := (f_v1.fr hw).eq a1; exact of_call Try.call66 (M_impl_TokenFrequency_ok (q4 rfl) (hA.fr hw.size) a0 ra1)) <|
      Obls.cons (Obl.plain rfl rfl fun R' w' hw hs hd => by have a0 : R' 8 = .int .i64 x1 := hd 0 _ _ _ rfl rfl rfl rfl rfl; have a1 : R' 11 = .int .i64 x3 := hd 1 _ _ _ rfl rfl rfl rfl rfl; exact of_call Try.call65 (M_cmp_Compare_int_ok (q6 rfl) (hA.fr hw.size) a0 a1)) <|
      Obls.cons (Obl.plain rfl rfl fun R' w' hw hs hd => by have a0 : R' 0 = v0 := (hs 0 rfl).trans h0; exact of_move a0) <|
      Obls.cons (Obl.plain rfl rfl fun R' w' hw hs hd => by have a0 : R' 1 = v1 := (hs 1 rfl).trans h1; exact of_move a0) <|
      Obls.cons (Obl.plain rfl rfl fun R' w' hw hs hd => by have a0 : R' 13 = v0 := hd 0 _ _ _ rfl rfl rfl rfl rfl; have ra0 := (f_v0.fr hw).eq a0; have a1 : R' 14 = v1 := hd 1 _ _ _ rfl rfl rfl rfl rfl; have ra1 := (f_v1.fr hw).eq a1; exact of_call Try.call67 (M_strCmp_ok (q8 rfl) (hA.fr hw.size) ra0 ra1)) <|
      Obls.cons (Obl.plain rfl rfl fun R' w' hw hs hd => by have a0 : R' 12 = .int .i64 x5 := hd 0 _ _ _ rfl rfl rfl rfl rfl; have a1 : R' 15 = .int .i64 x7 := hd 1 _ _ _ rfl rfl rfl rfl rfl; exact of_build [_, _] (E := eInt .i64) ⟨(rep_int.eq a0), ⟨(rep_int.eq a1), trivial⟩⟩ Try.underlying61 Try.sizeOf3 Try.zeroValue3 rfl rfl rfl (hA.fr hw.size)) <|
      Obls.cons (Obl.plain rfl rfl fun R' w' hw hs hd => by have a0 : Rep (eSl (eInt .i64)) A w' (R' 16) ([x5, x7] : List Int) := hd 0 _ _ _ rfl rfl rfl rfl rfl; exact of_call Try.call64 (M_cmp_Or_int_ok (q10 rfl) (hA.fr hw.size) a0)) <|
      Obls.cons (Obl.plain rfl rfl fun R' w' hw hs hd => by have a0 : R' 17 = .int .i64 x9 := hd 0 _ _ _ rfl rfl rfl rfl rfl; exact of_assign a0) <|
      Obls.nil
  intro R w hw hs hF'
  have h5 : R 5 = .int .i64 x9 := hF' 12 _ _ rfl rfl rfl
  replace hA := hA.fr hw.size
  replace hF := hF.trans hw
  clear hs hF' hw
  refine seqR_nil ?_
  refine HT.ret ?_
  obtain rfl := Option.some.inj hr
  exact ⟨.inr rfl, [R 5], ⟨rfl, trivial⟩, h5, hF⟩
def M_impl_OrderTokens (fu : Nat) (p0 : List T_impl_TokenCount) (p1 : List (List UInt8)) : Option (List (List UInt8)) :=
  cl true (M_slices_Clone_string_string fu p1) fun x2 =>
  cl true (M_sortF fu x2 (fun x y => M_impl_OrderTokens_1 fu x y p0)) fun x6 =>
  some x6
set_option maxRecDepth 100000 in
set_option maxHeartbeats 4000000 in
theorem M_impl_OrderTokens_ok {fu : Nat} {A0 : Av} {p0 : List T_impl_TokenCount} {p1 : List (List UInt8)} {r : List (List UInt8)} (hr : M_impl_OrderTokens fu p0 p1 = some r) {w : World} {v0 : Value} {v1 : Value} (hA : AvOK A0 w) (h0 : Rep (eSl E_impl_TokenCount) A0 w v0 p0) (h1 : Rep (eSl eStr) A0 w v1 p1) :
    Calls Try.prog 18 #[v0, v1] w fun e w' => ∃ v, e = .returned v ∧ ((Res.vec w.heap.size 9 eStr r).ok (addA A0 v) v w' ∧ Fr w w') := by
  unfold M_impl_OrderTokens at hr
  obtain ⟨w0, hw0⟩ : ∃ w0, w0 = w := ⟨_, rfl⟩
  have hF : Fr w0 w := hw0 ▸ Fr.refl _
  have hA0 : ∀ b o, A0 b o → b < w0.heap.size := fun b o h => hw0 ▸ hA b o h
  have hA00 : AvOK A0 w0 := hA0
  rw [show w.heap.size = w0.heap.size from hw0 ▸ rfl]
  rw [show Fr w = Fr w0 from hw0 ▸ rfl]
  clear hw0
  obtain ⟨A, hAe⟩ : ∃ A, A = A0 := ⟨_, rfl⟩
  have hAA : ∀ b o, A0 b o → A b o := fun b o h => hAe ▸ h
  replace hA : AvOK A w := hAe ▸ hA
  have hO : IniOK [] A w := IniOK.nil
  refine calls_of_HT2 [.tmp 4] Try.func18 Try.ntmps18 (by decide) rfl rfl (Nat.le_of_ble_eq_true rfl) ?_
  intro R hR
  have f_v0 : Rep (eSl E_impl_TokenCount) A w v0 p0 := hAe ▸ h0
  replace h0 : R 0 = v0 := hR 0 _ rfl
  have f_v1 : Rep (eSl eStr) A w v1 p1 := hAe ▸ h1
  replace h1 : R 1 = v1 := hR 1 _ rfl
  clear hR hAe
  refine HT.seq ?_
  refine HT.textR [] (⟨_, true, [], some (.box w0.heap.size 27 (eSl E_impl_TokenCount) p0), true, fun A => .any⟩ :: ⟨_, true, [], none, true, fun A => .any⟩ :: []) (by kernel_rfl) (by kernel_rfl) (Wf.mk' (by kernel_rfl) (UAll.cons ust_any (UAll.cons ust_any (UAll.nil))) (by kernel_rfl) (by kernel_rfl)) hO hA ?_ ?_
  · exact
      OblsR.cons (OblR.made _ rfl rfl rfl rfl fun A' R' w' ho hd => by have a0 : R' 0 = v0 := (ho.old 0 rfl).trans h0; have ra0 := (f_v0.stp ho.stp).eq a0; exact made_box ra0 (Nat.le_trans hF.size ho.ch.size)) <|
      OblsR.cons (OblR.plain rfl rfl rfl rfl fun A' R' w' ho hd => by exact of_assign trivial) <|
      OblsR.nil
  intro done ρ σ A R w hdn hI
  replace h1 : R 1 = v1 := (hI.reg rfl).trans h1
  obtain ⟨b2_0, e_b2_0⟩ := hI.boxv hdn 0 rfl rfl
  have h2 : R 2 = (.pointer (some ⟨b2_0, 0, none⟩)) := (hI.opvR hdn 0 0 rfl rfl rfl rfl rfl).symm.trans e_b2_0
  replace f_v1 := f_v1.stp hI.stp
  replace hAA := hI.low' hAA hA0 (hO.ge (trivial))
  replace hF : Fr w0 w := hF.tr hI.ch (hO.ge (trivial))
  replace hO : IniOK [ob (.pointer (some ⟨b2_0, 0, none⟩)) (.box w0.heap.size 27 (eSl E_impl_TokenCount) p0)] A w := hI.left hdn [(0, ob (.pointer (some ⟨b2_0, 0, none⟩)) (.box w0.heap.size 27 (eSl E_impl_TokenCount) p0))] ⟨rfl, rfl, e_b2_0, rfl, rfl, trivial⟩
  replace hA := hI.avok
  clear hI
  refine HT.seq ?_
  obtain ⟨x2, q3, hr⟩ := cl_some hr
  refine HT.textR [ob (.pointer (some ⟨b2_0, 0, none⟩)) (.box w0.heap.size 27 (eSl E_impl_TokenCount) p0)] (⟨_, true, [], none, true, fun A => .raw v1⟩ :: ⟨_, true, [], some (.vec w0.heap.size 9 eStr x2), true, fun A => .any⟩ :: ⟨_, true, [2], some (.vec w0.heap.size 9 eStr x2), true, fun A => .any⟩ :: []) (by kernel_rfl) (by kernel_rfl) (Wf.mk' (by kernel_rfl) (UAll.cons ust_raw (UAll.cons ust_any (UAll.cons ust_any (UAll.nil)))) (by kernel_rfl) (by kernel_rfl)) hO hA ?_ ?_
  · exact
      OblsR.cons (OblR.plain rfl rfl rfl rfl fun A' R' w' ho hd => by have a0 : R' 1 = v1 := (ho.old 1 rfl).trans h1; exact of_move a0) <|
      OblsR.cons (OblR.made _ rfl rfl rfl rfl fun A' R' w' ho hd => by have a0 : R' 6 = v1 := hd 0 _ _ _ rfl rfl rfl rfl rfl; have ra0 := (f_v1.stp ho.stp).eq a0; exact made_call Try.call61 (M_slices_Clone_string_string_ok (q3 rfl) ho.av ra0) (Nat.le_trans hF.size ho.ch.size)) <|
      OblsR.cons (OblR.took 2 _ _ rfl rfl rfl rfl rfl fun A' R' w' ho hd u hok hav hin hop hds => by exact took_assign (hop _ _ rfl rfl rfl rfl).symm hok hav) <|
      OblsR.nil
  intro done ρ σ A R w hdn hI
  replace h2 : R 2 = (.pointer (some ⟨b2_0, 0, none⟩)) := (hI.reg rfl).trans h2
  have z4 := hI.inivR 0 rfl
  obtain ⟨u5, e_u5⟩ : ∃ u, ρ 3 = u := ⟨_, rfl⟩
  have h5 : R 5 = u5 := (hI.opvR hdn 3 2 rfl rfl rfl rfl rfl).symm.trans e_u5
  replace hAA := hI.low' hAA hA0 (hO.ge (⟨rfl, trivial⟩))
  replace hF : Fr w0 w := hF.tr hI.ch (hO.ge (⟨rfl, trivial⟩))
  replace hO : IniOK [ob (.pointer (some ⟨b2_0, 0, none⟩)) (.box w0.heap.size 27 (eSl E_impl_TokenCount) p0), ob u5 (.vec w0.heap.size 9 eStr x2)] A w := hI.left hdn [(0, ob (.pointer (some ⟨b2_0, 0, none⟩)) (.box w0.heap.size 27 (eSl E_impl_TokenCount) p0)), (3, ob u5 (.vec w0.heap.size 9 eStr x2))] ⟨rfl, rfl, z4, rfl, rfl, ⟨rfl, rfl, e_u5, rfl, rfl, trivial⟩⟩
  replace hA := hI.avok
  clear hI
  refine HT.seq ?_
  obtain ⟨x6, q7, hr⟩ := cl_some hr
  refine HT.textR [ob (.pointer (some ⟨b2_0, 0, none⟩)) (.box w0.heap.size 27 (eSl E_impl_TokenCount) p0), ob u5 (.vec w0.heap.size 9 eStr x2)] (⟨_, true, [], none, true, fun A => .raw u5⟩ :: ⟨_, true, [], none, true, fun A => .raw (.func (.func 63) #[] #[(.pointer (some ⟨b2_0, 0, none⟩))])⟩ :: ⟨_, true, [1], some (.vec w0.heap.size 9 eStr x6), false, fun A => .any⟩ :: []) (by kernel_rfl) (by kernel_rfl) (Wf.mk' (by kernel_rfl) (UAll.cons ust_raw (UAll.cons ust_raw (UAll.cons ust_any (UAll.nil)))) (by kernel_rfl) (by kernel_rfl)) hO hA ?_ ?_
  · exact
      OblsR.cons (OblR.plain rfl rfl rfl rfl fun A' R' w' ho hd => by have a0 : R' 5 = u5 := (ho.old 5 rfl).trans h5; exact of_move a0) <|
      OblsR.cons (OblR.plain rfl rfl rfl rfl fun A' R' w' ho hd => by have a0 : R' 2 = (.pointer (some ⟨b2_0, 0, none⟩)) := (ho.old 2 rfl).trans h2; exact of_makeFunc (c := [(.pointer (some ⟨b2_0, 0, none⟩))]) (by simp only [List.map, evalR]; rw [a0])) <|
      OblsR.cons (OblR.took 1 _ _ rfl rfl rfl rfl rfl fun A' R' w' ho hd u hok hav hin hop hds => by have a0 : R' 8 = u5 := hd 0 _ _ _ rfl rfl rfl rfl rfl; have a1 : R' 9 = (.func (.func 63) #[] #[(.pointer (some ⟨b2_0, 0, none⟩))]) := hd 1 _ _ _ rfl rfl rfl rfl rfl; have hu0 : evalR R' (.tmp 8) = u := a0.trans (hin _ rfl).symm; exact took_call Try.call62 hav (fun _ _ _ _ _ h => h) (by simp only [List.map, hu0]; exact Calls.mono (M_sortFS_ok (q7 rfl) (ho.av.sub _) (fun b o h => h.2) (Vec.flat hok (fun _ _ _ _ _ h => h)) (fnk2_of [(.pointer (some ⟨b2_0, 0, none⟩))] a1 Try.call63 (fun x y r hr' w'' a b hF' hA' ha hb => M_impl_OrderTokens_1_ok hr' hA' ha hb (box_prepK (ho.rd 0 _ rfl rfl) hF' hav fun h => hds 0 _ rfl (by decide) rfl _ h rfl)))) (fun _ _ ⟨v, h1, h2, h3, h4⟩ => ⟨v, h1, trivial, h3, h4⟩))) <|
      OblsR.nil
  intro done ρ σ A R w hdn hI
  replace h5 : R 5 = u5 := (hI.reg rfl).trans h5
  have z8 := hI.inivR 0 rfl
  have z9 := hI.inivR 1 rfl
  have z10 := (hI.opnR hdn 4 2 rfl rfl rfl rfl rfl).trans z9
  replace hAA := hI.low' hAA hA0 (hO.ge (⟨rfl, ⟨rfl, trivial⟩⟩))
  replace hF : Fr w0 w := hF.tr hI.ch (hO.ge (⟨rfl, ⟨rfl, trivial⟩⟩))
  replace hO : IniOK [ob u5 (.vec w0.heap.size 9 eStr x6)] A w := hI.left hdn [(4, ob u5 (.vec w0.heap.size 9 eStr x6))] ⟨rfl, rfl, z10, rfl, rfl, trivial⟩
  replace hA := hI.avok
  clear hI
  refine HT.seq ?_
  refine HT.text (l := ⟨_, true, .raw u5⟩ :: ⟨_, true, .raw u5⟩ :: []) (tl := []) (by kernel_rfl) (by kernel_rfl) (by kernel_rfl) ?_ ?_
  · exact
      Obls.cons (Obl.plain rfl rfl fun R' w' hw hs hd => by have a0 : R' 5 = u5 := (hs 5 rfl).trans h5; exact of_move a0) <|
      Obls.cons (Obl.plain rfl rfl fun R' w' hw hs hd => by have a0 : R' 11 = u5 := hd 0 _ _ _ rfl rfl rfl rfl rfl; exact of_assign a0) <|
      Obls.nil
  intro R w hw hs hF'
  have h4 : R 4 = u5 := hF' 1 _ _ rfl rfl rfl
  replace hO := hO.fr hw
  replace hA := hA.fr hw.size
  replace hF := hF.trans hw
  clear hs hF' hw
  refine seqR_nil ?_
  refine HT.ret ?_
  obtain rfl := Option.some.inj hr
  exact ⟨.inr rfl, [R 4], ⟨rfl, trivial⟩, (own_post (hO.ok 0 _ rfl) hAA h4), hF⟩
theorem M_impl_OrderTokens_okR {fu : Nat} {A0 : Av} {p0 : List T_impl_TokenCount} {p1 : List (List UInt8)} {r : List (List UInt8)} (hr : M_impl_OrderTokens fu p0 p1 = some r) {w : World} {v0 : Value} {v1 : Value} (hA : AvOK A0 w) (h0 : Rep (eSl E_impl_TokenCount) A0 w v0 p0) (h1 : Rep (eSl eStr) A0 w v1 p1) :
    Calls Try.prog 18 #[v0, v1] w fun e w' => ∃ v, e = .returned v ∧ (Rep (eSl eStr) A0 w' v r ∧ Fr w w') := by
  refine Calls.mono (M_impl_OrderTokens_ok hr hA h0 h1) ?_
  rintro e w' ⟨v, he, hv, hf⟩
  exact ⟨v, he, vec_rep hv (fun b o h => .inl h) hA, hf⟩
def M_impl_PrefixTokens (fu : Nat) (p0 : List T_impl_TokenCount) (p1 : List (List UInt8)) (p2 : Int) : Option (List (List UInt8)) :=
  cl true (M_impl_PrefixLength fu (p1.length : Int) p2) fun x1 =>
  cl true (M_impl_IsTokenSet fu p1) fun x3 =>
  bd ((!x3) || (decide (x1 < (0 : Int)))) fun x5 =>
  bif x5 then (
    some ([] : List (List UInt8))
  ) else (
    cl true (M_impl_OrderTokens fu p0 p1) fun x9 =>
    ck (subR 0 x1 x9.length) <|
    cl true (M_slices_Clone_string_string fu (subL x9 0 x1)) fun x12 =>
    some x12
  )
set_option maxRecDepth 100000 in
set_option maxHeartbeats 4000000 in
theorem M_impl_PrefixTokens_ok {fu : Nat} {A0 : Av} {p0 : List T_impl_TokenCount} {p1 : List (List UInt8)} {p2 : Int} {r : List (List UInt8)} (hr : M_impl_PrefixTokens fu p0 p1 p2 = some r) {w : World} {v0 : Value} {v1 : Value} {v2 : Value} (hA : AvOK A0 w) (h0 : Rep (eSl E_impl_TokenCount) A0 w v0 p0) (h1 : Rep (eSl eStr) A0 w v1 p1) (h2 : v2 = .int .i64 p2) :
    Calls Try.prog 32 #[v0, v1, v2] w fun e w' => ∃ v, e = .returned v ∧ ((Res.vec w.heap.size 9 eStr r).ok (addA A0 v) v w' ∧ Fr w w') := by
  unfold M_impl_PrefixTokens at hr
  obtain ⟨w0, hw0⟩ : ∃ w0, w0 = w := ⟨_, rfl⟩
  have hF : Fr w0 w := hw0 ▸ Fr.refl _
  have hA0 : ∀ b o, A0 b o → b < w0.heap.size := fun b o h => hw0 ▸ hA b o h
  have hA00 : AvOK A0 w0 := hA0
  rw [show w.heap.size = w0.heap.size from hw0 ▸ rfl]
  rw [show Fr w = Fr w0 from hw0 ▸ rfl]
  clear hw0
  obtain ⟨A, hAe⟩ : ∃ A, A = A0 := ⟨_, rfl⟩
  have hAA : ∀ b o, A0 b o → A b o := fun b o h => hAe ▸ h
  replace hA : AvOK A w := hAe ▸ hA
  have hO : IniOK [] A w := IniOK.nil
  refine calls_of_HT2 [.tmp 6] Try.func32 Try.ntmps32 (by decide) rfl rfl (Nat.le_of_ble_eq_true rfl) ?_
  intro R hR
  have f_v0 : Rep (eSl E_impl_TokenCount) A w v0 p0 := hAe ▸ h0
  replace h0 : R 0 = v0 := hR 0 _ rfl
  have f_v1 : Rep (eSl eStr) A w v1 p1 := hAe ▸ h1
  replace h1 : R 1 = v1 := hR 1 _ rfl
  replace h2 : R 2 = .int .i64 p2 := (hR 2 _ rfl).trans h2
  clear hR hAe
  refine HT.seq ?_
  refine HT.text (l := ⟨_, true, .any⟩ :: []) (tl := []) (by kernel_rfl) (by kernel_rfl) (by kernel_rfl) ?_ ?_
  · exact
      Obls.cons (Obl.plain rfl rfl fun R' w' hw hs hd => by exact of_assign trivial) <|
      Obls.nil
  intro R w hw hs hF'
  replace h0 : R 0 = v0 := (hs 0 rfl).trans h0
  replace h1 : R 1 = v1 := (hs 1 rfl).trans h1
  replace h2 : R 2 = .int .i64 p2 := (hs 2 rfl).trans h2
  replace f_v0 := f_v0.fr hw
  replace f_v1 := f_v1.fr hw
  replace hO := hO.fr hw
  replace hA := hA.fr hw.size
  replace hF := hF.trans hw
  clear hs hF' hw
  refine seqR_nil ?_
  refine HT.seq ?_
  obtain ⟨x1, q2, hr⟩ := cl_some hr
  refine HT.text (l := ⟨_, true, .raw v1⟩ :: ⟨_, true, .raw (.int .i64 (p1.length : Int))⟩ :: ⟨_, true, .raw (.int .i64 p2)⟩ :: ⟨_, true, .raw (.int .i64 x1)⟩ :: ⟨_, true, .raw (.int .i64 x1)⟩ :: []) (tl := []) (by kernel_rfl) (by kernel_rfl) (by kernel_rfl) ?_ ?_
  · exact
      Obls.cons (Obl.plain rfl rfl fun R' w' hw hs hd => by have a0 : R' 1 = v1 := (hs 1 rfl).trans h1; exact of_move a0) <|
      Obls.cons (Obl.plain rfl rfl fun R' w' hw hs hd => by have a0 : R' 8 = v1 := hd 0 _ _ _ rfl rfl rfl rfl rfl; have ra0 := (f_v1.fr hw).eq a0; exact of_len_sl (aT := #[]) ra0 Try.underlying23) <|
      Obls.cons (Obl.plain rfl rfl fun R' w' hw hs hd => by have a0 : R' 2 = .int .i64 p2 := (hs 2 rfl).trans h2; exact of_move a0) <|
      Obls.cons (Obl.plain rfl rfl fun R' w' hw hs hd => by have a0 : R' 9 = .int .i64 (p1.length : Int) := hd 0 _ _ _ rfl rfl rfl rfl rfl; have a1 : R' 10 = .int .i64 p2 := hd 1 _ _ _ rfl rfl rfl rfl rfl; exact of_call Try.call76 (M_impl_PrefixLength_ok (q2 rfl) (hA.fr hw.size) a0 a1)) <|
      Obls.cons (Obl.plain rfl rfl fun R' w' hw hs hd => by have a0 : R' 11 = .int .i64 x1 := hd 0 _ _ _ rfl rfl rfl rfl rfl; exact of_assign a0) <|
      Obls.nil
  intro R w hw hs hF'
  replace h0 : R 0 = v0 := (hs 0 rfl).trans h0
  replace h1 : R 1 = v1 := (hs 1 rfl).trans h1
  have h7 : R 7 = .int .i64 x1 := hF' 4 _ _ rfl rfl rfl
  replace f_v0 := f_v0.fr hw
  replace f_v1 := f_v1.fr hw
  replace hO := hO.fr hw
  replace hA := hA.fr hw.size
  replace hF := hF.trans hw
  clear hs hF' hw
  refine seqR_nil ?_
  refine HT.seq ?_
  refine HT.seq ?_
  obtain ⟨x3, q4, hr⟩ := cl_some hr
  obtain ⟨x5, q6, hr⟩ := bd_some hr
  refine HT.text (l := ⟨_, true, .raw v1⟩ :: ⟨_, true, .raw (.bool x3)⟩ :: ⟨_, true, .raw (.bool (!x3))⟩ :: ⟨_, true, .raw (.bool (!x3))⟩ :: ⟨_, (true && ((!x3) == false)), .raw (.int .i64 x1)⟩ :: ⟨_, (true && ((!x3) == false)), .raw (.bool (decide (x1 < (0 : Int))))⟩ :: ⟨_, true, .raw (.bool x5)⟩ :: []) (tl := []) (by kernel_rfl) (by kernel_rfl) (by kernel_rfl) ?_ ?_
  · exact
      Obls.cons (Obl.plain rfl rfl fun R' w' hw hs hd => by have a0 : R' 1 = v1 := (hs 1 rfl).trans h1; exact of_move a0) <|
      Obls.cons (Obl.plain rfl rfl fun R' w' hw hs hd => by have a0 : R' 12 = v1 := hd 0 _ _ _ rfl rfl rfl rfl rfl; have ra0 := (f_v1.fr hw).eq a0; exact of_call Try.call77 (M_impl_IsTokenSet_ok (q4 rfl) (hA.fr hw.size) ra0)) <|
      Obls.cons (Obl.plain rfl rfl fun R' w' hw hs hd => by have a0 : R' 13 = .bool x3 := hd 0 _ _ _ rfl rfl rfl rfl rfl; exact of_not a0) <|
      Obls.cons (Obl.plain rfl rfl fun R' w' hw hs hd => by have a0 : R' 14 = .bool (!x3) := hd 0 _ _ _ rfl rfl rfl rfl rfl; exact of_move a0) <|
      Obls.cons (Obl.grd 3 false _ _ _ rfl rfl rfl rfl rfl (by kernel_rfl) fun hg R' w' hw hs hd => by have a0 : R' 7 = .int .i64 x1 := (hs 7 rfl).trans h7; exact of_move a0) <|
      Obls.cons (Obl.grd 3 false _ _ _ rfl rfl rfl rfl rfl (by kernel_rfl) fun hg R' w' hw hs hd => by have a0 : R' 16 = .int .i64 x1 := hd 0 _ _ _ rfl rfl rfl rfl hg; exact of_lss a0 rfl) <|
      Obls.cons (Obl.plain rfl rfl fun R' w' hw hs hd => by have a0 : R' 15 = .bool (!x3) := hd 0 _ _ _ rfl rfl rfl rfl rfl; exact of_pick (!x3) a0 (fun hc => by show _ = Value.bool x5; rw [q6, hc]; exact rfl) (fun hc => by have a2 : R' 17 = .bool (decide (x1 < (0 : Int))) := hd 1 _ _ _ rfl rfl rfl rfl (g_and rfl (beq_of hc)); show _ = Value.bool x5; rw [q6, hc]; exact a2)) <|
      Obls.nil
  intro R w hw hs hF'
  replace h0 : R 0 = v0 := (hs 0 rfl).trans h0
  replace h1 : R 1 = v1 := (hs 1 rfl).trans h1
  replace h7 : R 7 = .int .i64 x1 := (hs 7 rfl).trans h7
  have h18 : R 18 = .bool x5 := hF' 6 _ _ rfl rfl rfl
  replace f_v0 := f_v0.fr hw
  replace f_v1 := f_v1.fr hw
  replace hO := hO.fr hw
  replace hA := hA.fr hw.size
  replace hF := hF.trans hw
  clear hs hF' hw
  refine seqR_nil ?_
  refine HT.cond x5 h18 (fun c7 => ?_) (fun c7 => ?_)
  · have hr := cnd_t c7 hr
    refine HT.seq ?_
    refine HT.text (l := ⟨_, true, .raw (.slice none 0 0)⟩ :: []) (tl := []) (by kernel_rfl) (by kernel_rfl) (by kernel_rfl) ?_ ?_
    · exact
        Obls.cons (Obl.plain rfl rfl fun R' w' hw hs hd => by exact of_assign rfl) <|
        Obls.nil
    intro R w hw hs hF'
    obtain ⟨u8, n_u8⟩ : ∃ u, u = Value.slice none 0 0 := ⟨_, rfl⟩
    have h6 : R 6 = u8 := (hF' 0 _ _ rfl rfl rfl).trans n_u8.symm
    replace hO := hO.fr hw
    replace hA := hA.fr hw.size
    replace hF := hF.trans hw
    clear hs hF' hw
    refine seqR_nil ?_
    replace hO := hO.nilcons (u := u8) n_u8 w0.heap.size 9 eStr
    refine HT.ret ?_
    obtain rfl := Option.some.inj hr
    exact ⟨.inr rfl, [R 6], ⟨rfl, trivial⟩, (own_post (hO.ok 0 _ rfl) hAA h6), hF⟩
  · have hr := cnd_f c7 hr
    refine HT.skip ?_
    refine HT.seq ?_
    obtain ⟨x9, q10, hr⟩ := cl_some hr
    obtain ⟨e11, hr⟩ := ck_some hr
    obtain ⟨x12, q13, hr⟩ := cl_some hr
    refine HT.textR [] (⟨_, true, [], none, true, fun A => .raw v0⟩ :: ⟨_, true, [], none, true, fun A => .raw v1⟩ :: ⟨_, true, [], none, true, fun A => .rep (eSl eStr) A x9⟩ :: ⟨_, true, [], none, true, fun A => .raw (.int .i64 x1)⟩ :: ⟨_, true, [], none, true, fun A => .rep (eSl eStr) A (subL x9 0 x1)⟩ :: ⟨_, true, [], some (.vec w0.heap.size 9 eStr x12), true, fun A => .any⟩ :: ⟨_, true, [5], some (.vec w0.heap.size 9 eStr x12), true, fun A => .any⟩ :: []) (by kernel_rfl) (by kernel_rfl) (Wf.mk' (by kernel_rfl) (UAll.cons ust_raw (UAll.cons ust_raw (UAll.cons ust_rep (UAll.cons ust_raw (UAll.cons ust_rep (UAll.cons ust_any (UAll.cons ust_any (UAll.nil)))))))) (by kernel_rfl) (by kernel_rfl)) hO hA ?_ ?_
    · exact
        OblsR.cons (OblR.plain rfl rfl rfl rfl fun A' R' w' ho hd => by have a0 : R' 0 = v0 := (ho.old 0 rfl).trans h0; exact of_move a0) <|
        OblsR.cons (OblR.plain rfl rfl rfl rfl fun A' R' w' ho hd => by have a0 : R' 1 = v1 := (ho.old 1 rfl).trans h1; exact of_move a0) <|
        OblsR.cons (OblR.plain rfl rfl rfl rfl fun A' R' w' ho hd => by have a0 : R' 19 = v0 := hd 0 _ _ _ rfl rfl rfl rfl rfl; have ra0 := (f_v0.stp ho.stp).eq a0; have a1 : R' 20 = v1 := hd 1 _ _ _ rfl rfl rfl rfl rfl; have ra1 := (f_v1.stp ho.stp).eq a1; exact of_call Try.call18 (M_impl_OrderTokens_okR (q10 rfl) ho.av ra0 ra1)) <|
        OblsR.cons (OblR.plain rfl rfl rfl rfl fun A' R' w' ho hd => by have a0 : R' 7 = .int .i64 x1 := (ho.old 7 rfl).trans h7; exact of_move a0) <|
        OblsR.cons (OblR.plain rfl rfl rfl rfl fun A' R' w' ho hd => by have a0 : Rep (eSl eStr) A' w' (R' 21) x9 := hd 0 _ _ _ rfl rfl rfl rfl rfl; have a1 : R' 22 = .int .i64 x1 := hd 1 _ _ _ rfl rfl rfl rfl rfl; exact of_slice_sl_hi a0 a1 Try.underlying23 Try.sizeOf9 e11) <|
        OblsR.cons (OblR.made _ rfl rfl rfl rfl fun A' R' w' ho hd => by have a0 : Rep (eSl eStr) A' w' (R' 23) (subL x9 0 x1) := hd 0 _ _ _ rfl rfl rfl rfl rfl; exact made_call Try.call61 (M_slices_Clone_string_string_ok (q13 rfl) ho.av a0) (Nat.le_trans hF.size ho.ch.size)) <|
        OblsR.cons (OblR.took 5 _ _ rfl rfl rfl rfl rfl fun A' R' w' ho hd u hok hav hin hop hds => by exact took_assign (hop _ _ rfl rfl rfl rfl).symm hok hav) <|
        OblsR.nil
    intro done ρ σ A R w hdn hI
    obtain ⟨u14, e_u14⟩ : ∃ u, ρ 6 = u := ⟨_, rfl⟩
    have h6 : R 6 = u14 := (hI.opvR hdn 6 6 rfl rfl rfl rfl rfl).symm.trans e_u14
    replace hAA := hI.low' hAA hA0 (hO.ge (trivial))
    replace hF : Fr w0 w := hF.tr hI.ch (hO.ge (trivial))
    replace hO : IniOK [ob u14 (.vec w0.heap.size 9 eStr x12)] A w := hI.left hdn [(6, ob u14 (.vec w0.heap.size 9 eStr x12))] ⟨rfl, rfl, e_u14, rfl, rfl, trivial⟩
    replace hA := hI.avok
    clear hI
    refine HT.ret ?_
    obtain rfl := Option.some.inj hr
    exact ⟨.inr rfl, [R 6], ⟨rfl, trivial⟩, (own_post (hO.ok 0 _ rfl) hAA h6), hF⟩
theorem M_impl_PrefixTokens_okR {fu : Nat} {A0 : Av} {p0 : List T_impl_TokenCount} {p1 : List (List UInt8)} {p2 : Int} {r : List (List UInt8)} (hr : M_impl_PrefixTokens fu p0 p1 p2 = some r) {w : World} {v0 : Value} {v1 : Value} {v2 : Value} (hA : AvOK A0 w) (h0 : Rep (eSl E_impl_TokenCount) A0 w v0 p0) (h1 : Rep (eSl eStr) A0 w v1 p1) (h2 : v2 = .int .i64 p2) :
    Calls Try.prog 32 #[v0, v1, v2] w fun e w' => ∃ v, e = .returned v ∧ (Rep (eSl eStr) A0 w' v r ∧ Fr w w') := by
  refine Calls.mono (M_impl_PrefixTokens_ok hr hA h0 h1 h2) ?_
  rintro e w' ⟨v, he, hv, hf⟩
  exact ⟨v, he, vec_rep hv (fun b o h => .inl h) hA, hf⟩
def M_slices_Compact_string_string_L1 (fu : Nat) (y5 : Int) (x13 : Nat) : Nat → Int → Int → (List (List UInt8)) → Option (Int × (List (List UInt8)))
  | 0, _, _, _ => none
  | k + 1, y18, y19, y20 =>
    bif (decide (y19 < (x13 : Int))) then (
      ck (inR y19 x13) <|
      ck (decide (0 ≤ y5)) <|
      ck (inR (y5 + y19) y20.length) <|
      ck (i64B (y19 - (1 : Int))) <|
      ck (inR (y19 - (1 : Int)) x13) <|
      ck (decide (0 ≤ y5)) <|
      ck (inR (y5 + (y19 - (1 : Int))) y20.length) <|
      bif (!((gtD y20 (y5 + y19)) == (gtD y20 (y5 + (y19 - (1 : Int)))))) then (
        ck (inR y19 x13) <|
        ck (decide (0 ≤ y5)) <|
        ck (inR (y5 + y19) y20.length) <|
        ck (inR y18 y20.length) <|
        ck (i64B (y18 + (1 : Int))) <|
        ck (i64B (y19 + (1 : Int))) <|
        M_slices_Compact_string_string_L1 fu y5 x13 k (y18 + (1 : Int)) (y19 + (1 : Int)) (y20.set y18.toNat (gtD y20 (y5 + y19)))
      ) else (
        ck (i64B (y19 + (1 : Int))) <|
        M_slices_Compact_string_string_L1 fu y5 x13 k y18 (y19 + (1 : Int)) y20
      )
    ) else (
      some (y18, y20)
    )
def M_slices_Compact_string_string_L0 (fu : Nat) : Nat → Int → (List (List UInt8)) → Option (Ex (List (List UInt8)) (List (List UInt8)))
  | 0, _, _ => none
  | k + 1, y5, y6 =>
    bif (decide (y5 < (y6.length : Int))) then (
      ck (inR y5 y6.length) <|
      ck (i64B (y5 - (1 : Int))) <|
      ck (inR (y5 - (1 : Int)) y6.length) <|
      bif ((gtD y6 y5) == (gtD y6 (y5 - (1 : Int)))) then (
        ck (subR y5 (y6.length : Int) y6.length) <|
        bd ((y6.length : Int).toNat - y5.toNat) fun x13 =>
        cl true (M_slices_Compact_string_string_L1 fu y5 x13 fu y5 (1 : Int) y6) fun s17 =>
        ck (subR s17.1 (s17.2.length : Int) s17.2.length) <|
        bd ((s17.2.length : Int).toNat - s17.1.toNat) fun x40 =>
        ck (subR s17.1 s17.2.length s17.2.length) <|
        ck (x40 == s17.2.length - s17.1.toNat) <|
        ck (subR 0 s17.1 (s17.2.take s17.1.toNat ++ List.replicate (s17.2.length - s17.1.toNat) ([] : List UInt8)).length) <|
        some (Ex.ret (subL (s17.2.take s17.1.toNat ++ List.replicate (s17.2.length - s17.1.toNat) ([] : List UInt8)) 0 s17.1))
      ) else (
        ck (i64B (y5 + (1 : Int))) <|
        M_slices_Compact_string_string_L0 fu k (y5 + (1 : Int)) y6
      )
    ) else (
      some (Ex.go y6)
    )
def M_slices_Compact_string_string (fu : Nat) (p0 : List (List UInt8)) : Option (List (List UInt8)) :=
  bif (decide ((p0.length : Int) < (2 : Int))) then (
    some p0
  ) else (
    cl true (M_slices_Compact_string_string_L0 fu fu (1 : Int) p0) fun rl2 =>
    exM rl2 (fun r => some r) fun s4 =>
    some s4
  )
set_option maxRecDepth 100000 in
set_option maxHeartbeats 4000000 in
theorem M_slices_Compact_string_string_ok {fu : Nat} {A0 : Av} {p0 : List (List UInt8)} {r : List (List UInt8)} (hr : M_slices_Compact_string_string fu p0 = some r) {w : World} {v0 : Value} {B0 : Nat} (hA : AvOK A0 w) (hN : ∀ b o, A0 b o → ¬ ownsB v0 b) (h0 : (Res.vec B0 9 eStr p0).ok A0 v0 w) :
    Calls Try.prog 104 #[v0] w fun e w' => ∃ v, e = .returned v ∧ Took (addA A0 v0) true v0 (.vec B0 9 eStr r) (fun _ => .any) w v w' := by
  unfold M_slices_Compact_string_string at hr
  obtain ⟨w0, hw0⟩ : ∃ w0, w0 = w := ⟨_, rfl⟩
  have hF : Ch (ownsB v0) w0 w := hw0 ▸ Ch.refl _ _
  have hA0 : ∀ b o, A0 b o → b < w0.heap.size := fun b o h => hw0 ▸ hA b o h
  have hA00 : AvOK A0 w0 := hA0
  rw [show Took (addA A0 v0) true v0 (.vec B0 9 eStr r) (fun _ => .any) w = Took (addA A0 v0) true v0 (.vec B0 9 eStr r) (fun _ => .any) w0 from hw0 ▸ rfl]
  clear hw0
  obtain ⟨A, hAe⟩ : ∃ A, A = addA A0 v0 := ⟨_, rfl⟩
  have hAA : ∀ b o, A0 b o → A b o := fun b o h => hAe ▸ .inl h
  replace hA : AvOK A w := hAe ▸ hA.one h0
  have hO : IniOK [ob v0 (.vec B0 9 eStr p0)] A w := hAe ▸ IniOK.one h0 (fun _ _ _ _ _ h => h)
  refine calls_of_HT2 [.tmp 2] Try.func104 Try.ntmps104 (by decide) rfl rfl (Nat.le_of_ble_eq_true rfl) ?_
  intro R hR
  replace h0 : R 0 = v0 := hR 0 _ rfl
  clear hR hAe
  refine HT.seq ?_
  refine HT.text (l := ⟨_, true, .any⟩ :: []) (tl := []) (by kernel_rfl) (by kernel_rfl) (by kernel_rfl) ?_ ?_
  · exact
      Obls.cons (Obl.plain rfl rfl fun R' w' hw hs hd => by exact of_assign trivial) <|
      Obls.nil
  intro R w hw hs hF'
  replace h0 : R 0 = v0 := (hs 0 rfl).trans h0
  replace hO := hO.fr hw
  replace hA := hA.fr hw.size
  replace hF := hF.tr (hw.ch noB) fun _ h => False.elim h
  clear hs hF' hw
  refine seqR_nil ?_
  refine HT.seq ?_
  refine HT.seq ?_
  refine HT.text (l := ⟨_, true, .raw v0⟩ :: ⟨_, true, .raw (.int .i64 (p0.length : Int))⟩ :: ⟨_, true, .raw (.bool (decide ((p0.length : Int) < (2 : Int))))⟩ :: []) (tl := []) (by kernel_rfl) (by kernel_rfl) (by kernel_rfl) ?_ ?_
  · exact
      Obls.cons (Obl.plain rfl rfl fun R' w' hw hs hd => by have a0 : R' 0 = v0 := (hs 0 rfl).trans h0; exact of_move a0) <|
      Obls.cons (Obl.plain rfl rfl fun R' w' hw hs hd => by have a0 : R' 6 = v0 := hd 0 _ _ _ rfl rfl rfl rfl rfl; exact of_len_vec (hO.ok 0 _ rfl).1 a0 Try.underlying23) <|
      Obls.cons (Obl.plain rfl rfl fun R' w' hw hs hd => by have a0 : R' 7 = .int .i64 (p0.length : Int) := hd 0 _ _ _ rfl rfl rfl rfl rfl; exact of_lss a0 rfl) <|
      Obls.nil
  intro R w hw hs hF'
  replace h0 : R 0 = v0 := (hs 0 rfl).trans h0
  have h8 : R 8 = .bool (decide ((p0.length : Int) < (2 : Int))) := hF' 2 _ _ rfl rfl rfl
  replace hO := hO.fr hw
  replace hA := hA.fr hw.size
  replace hF := hF.tr (hw.ch noB) fun _ h => False.elim h
  clear hs hF' hw
  refine seqR_nil ?_
  refine HT.cond (decide ((p0.length : Int) < (2 : Int))) h8 (fun c1 => ?_) (fun c1 => ?_)
  · have hr := cnd_t c1 hr
    refine HT.seq ?_
    refine HT.text (l := ⟨_, true, .raw v0⟩ :: ⟨_, true, .raw v0⟩ :: []) (tl := []) (by kernel_rfl) (by kernel_rfl) (by kernel_rfl) ?_ ?_
    · exact
        Obls.cons (Obl.plain rfl rfl fun R' w' hw hs hd => by have a0 : R' 0 = v0 := (hs 0 rfl).trans h0; exact of_move a0) <|
        Obls.cons (Obl.plain rfl rfl fun R' w' hw hs hd => by have a0 : R' 9 = v0 := hd 0 _ _ _ rfl rfl rfl rfl rfl; exact of_assign a0) <|
        Obls.nil
    intro R w hw hs hF'
    have h2 : R 2 = v0 := hF' 1 _ _ rfl rfl rfl
    replace hO := hO.fr hw
    replace hA := hA.fr hw.size
    replace hF := hF.tr (hw.ch noB) fun _ h => False.elim h
    clear hs hF' hw
    refine seqR_nil ?_
    refine HT.ret ?_
    obtain rfl := Option.some.inj hr
    exact ⟨.inr rfl, [R 2], ⟨rfl, trivial⟩, by show Took _ true _ _ _ w0 (R 2) w; rw [h2]; exact took_post (fun k h o => .inr h) hF (hO.ok 0 _ rfl).1 (hO.own_ge (⟨.inr (fun k h => .inr h), trivial⟩) (i := 0) rfl) (fun _ _ _ _ _ h => h)⟩
  · have hr := cnd_f c1 hr
    refine HT.skip ?_
    refine HT.seq ?_
    refine HT.seq ?_
    refine HT.text (l := ⟨_, true, .raw (.int .i64 (1 : Int))⟩ :: []) (tl := []) (by kernel_rfl) (by kernel_rfl) (by kernel_rfl) ?_ ?_
    · exact
        Obls.cons (Obl.plain rfl rfl fun R' w' hw hs hd => by exact of_assign rfl) <|
        Obls.nil
    intro R w hw hs hF'
    replace h0 : R 0 = v0 := (hs 0 rfl).trans h0
    have h3 : R 3 = .int .i64 (1 : Int) := hF' 0 _ _ rfl rfl rfl
    replace hO := hO.fr hw
    replace hA := hA.fr hw.size
    replace hF := hF.tr (hw.ch noB) fun _ h => False.elim h
    clear hs hF' hw
    refine seqR_nil ?_
    obtain ⟨rl2, q3, hr⟩ := cl_some hr
    replace q3 := q3 rfl
    refine HT.cut0 (fun R w => ∃ A : Av, ∃ (s4 : (List (List UInt8))), rl2 = Ex.go s4 ∧ AvOK A w ∧ Ch (ownsB v0) w0 w ∧ (∀ b o, A0 b o → A b o) ∧ IniOK [ob v0 (.vec B0 9 eStr s4)] A w ∧ R 0 = v0) ?_ ?_
    · refine HT.block ?_
      refine HT.loop (fun k R w => ∃ A : Av, ∃ (y5 : Int) (y6 : List (List UInt8)), M_slices_Compact_string_string_L0 fu k y5 y6 = some rl2 ∧ AvOK A w ∧ Ch (ownsB v0) w0 w ∧ (∀ b o, A0 b o → A b o) ∧ IniOK [ob v0 (.vec B0 9 eStr y6)] A w ∧ R 0 = v0 ∧ R 3 = .int .i64 y5) fu ⟨_, _, _, q3, hA, hF, hAA, hO, h0, h3⟩ ?_
      have hr0 := hr; clear hr q3
      rintro k R w ⟨A, y5, y6, hr, hA, hF, hAA, hO, h0, h3⟩
      rcases k with _ | k
      · cases (show none = some _ from hr)
      rw [M_slices_Compact_string_string_L0] at hr
      refine HT.seq ?_
      refine HT.seq ?_
      refine HT.text (l := ⟨_, true, .raw (.int .i64 y5)⟩ :: ⟨_, true, .raw v0⟩ :: ⟨_, true, .raw (.int .i64 (y6.length : Int))⟩ :: ⟨_, true, .raw (.bool (decide (y5 < (y6.length : Int))))⟩ :: []) (tl := []) (by kernel_rfl) (by kernel_rfl) (by kernel_rfl) ?_ ?_
      · exact
          Obls.cons (Obl.plain rfl rfl fun R' w' hw hs hd => by have a0 : R' 3 = .int .i64 y5 := (hs 3 rfl).trans h3; exact of_move a0) <|
          Obls.cons (Obl.plain rfl rfl fun R' w' hw hs hd => by have a0 : R' 0 = v0 := (hs 0 rfl).trans h0; exact of_move a0) <|
          Obls.cons (Obl.plain rfl rfl fun R' w' hw hs hd => by have a0 : R' 11 = v0 := hd 0 _ _ _ rfl rfl rfl rfl rfl; exact of_len_vec (hO.ok 0 _ rfl).1 a0 Try.underlying23) <|
          Obls.cons (Obl.plain rfl rfl fun R' w' hw hs hd => by have a0 : R' 10 = .int .i64 y5 := hd 0 _ _ _ rfl rfl rfl rfl rfl; have a1 : R' 12 = .int .i64 (y6.length : Int) := hd 1 _ _ _ rfl rfl rfl rfl rfl; exact of_lss a0 a1) <|
          Obls.nil
      intro R w hw hs hF'
      replace h0 : R 0 = v0 := (hs 0 rfl).trans h0
      replace h3 : R 3 = .int .i64 y5 := (hs 3 rfl).trans h3
      have h13 : R 13 = .bool (decide (y5 < (y6.length : Int))) := hF' 3 _ _ rfl rfl rfl
      replace hO := hO.fr hw
      replace hA := hA.fr hw.size
      replace hF := hF.tr (hw.ch noB) fun _ h => False.elim h
      clear hs hF' hw
      refine seqR_nil ?_
      refine HT.cond (decide (y5 < (y6.length : Int))) h13 (fun c7 => ?_) (fun c7 => ?_)
      · have hr := cnd_t c7 hr
        refine HT.skip ?_
        refine HT.seq ?_
        refine HT.block ?_
        refine HT.seq ?_
        obtain ⟨e8, hr⟩ := ck_some hr
        obtain ⟨e9, hr⟩ := ck_some hr
        obtain ⟨e10, hr⟩ := ck_some hr
        refine HT.draw (by kernel_rfl) (l := ⟨_, true, .raw v0⟩ :: ⟨_, true, .raw (.int .i64 y5)⟩ :: ⟨_, true, .raw (vptr v0 (y5.toNat * 1))⟩ :: ⟨_, true, .rep eStr A (gtD y6 y5)⟩ :: ⟨_, true, .raw v0⟩ :: ⟨_, true, .raw (.int .i64 y5)⟩ :: ⟨_, true, .raw (.int .i64 (y5 - (1 : Int)))⟩ :: ⟨_, true, .raw (vptr v0 ((y5 - (1 : Int)).toNat * 1))⟩ :: ⟨_, true, .rep eStr A (gtD y6 (y5 - (1 : Int)))⟩ :: ⟨_, true, .raw (.bool ((gtD y6 y5) == (gtD y6 (y5 - (1 : Int)))))⟩ :: []) (tl := []) (by kernel_rfl) (by kernel_rfl) (by kernel_rfl) (by kernel_rfl) ?_ ?_
        · exact
            Obls.cons (Obl.plain rfl rfl fun R' w' hw hs hd => by have a0 : R' 0 = v0 := (hs 0 rfl).trans h0; exact of_move a0) <|
            Obls.cons (Obl.plain rfl rfl fun R' w' hw hs hd => by have a0 : R' 3 = .int .i64 y5 := (hs 3 rfl).trans h3; exact of_move a0) <|
            Obls.cons (Obl.plain rfl rfl fun R' w' hw hs hd => by have a0 : R' 16 = v0 := hd 0 _ _ _ rfl rfl rfl rfl rfl; have a1 : R' 17 = .int .i64 y5 := hd 1 _ _ _ rfl rfl rfl rfl rfl; exact of_indexAddr_vec (hO.ok 0 _ rfl).1 a0 a1 Try.underlying23 Try.sizeOf9 e8 rfl) <|
            Obls.cons (Obl.plain rfl rfl fun R' w' hw hs hd => by have a0 : R' 18 = (vptr v0 (y5.toNat * 1)) := hd 0 _ _ _ rfl rfl rfl rfl rfl; exact (of_load_vec ((hO.fr hw).ok 0 _ rfl).1 a0 e8 rfl (Fld.id _) rfl Try.isAgg9 Try.sizeOf9)) <|
            Obls.cons (Obl.plain rfl rfl fun R' w' hw hs hd => by have a0 : R' 0 = v0 := (hs 0 rfl).trans h0; exact of_move a0) <|
            Obls.cons (Obl.plain rfl rfl fun R' w' hw hs hd => by have a0 : R' 3 = .int .i64 y5 := (hs 3 rfl).trans h3; exact of_move a0) <|
            Obls.cons (Obl.plain rfl rfl fun R' w' hw hs hd => by have a0 : R' 21 = .int .i64 y5 := hd 0 _ _ _ rfl rfl rfl rfl rfl; exact of_sub a0 rfl e9) <|
            Obls.cons (Obl.plain rfl rfl fun R' w' hw hs hd => by have a0 : R' 20 = v0 := hd 0 _ _ _ rfl rfl rfl rfl rfl; have a1 : R' 22 = .int .i64 (y5 - (1 : Int)) := hd 1 _ _ _ rfl rfl rfl rfl rfl; exact of_indexAddr_vec (hO.ok 0 _ rfl).1 a0 a1 Try.underlying23 Try.sizeOf9 e10 rfl) <|
            Obls.cons (Obl.plain rfl rfl fun R' w' hw hs hd => by have a0 : R' 23 = (vptr v0 ((y5 - (1 : Int)).toNat * 1)) := hd 0 _ _ _ rfl rfl rfl rfl rfl; exact (of_load_vec ((hO.fr hw).ok 0 _ rfl).1 a0 e10 rfl (Fld.id _) rfl Try.isAgg9 Try.sizeOf9)) <|
            Obls.cons (Obl.plain rfl rfl fun R' w' hw hs hd => by have a0 : Rep eStr A w' (R' 19) (gtD y6 y5) := hd 0 _ _ _ rfl rfl rfl rfl rfl; have a1 : Rep eStr A w' (R' 24) (gtD y6 (y5 - (1 : Int))) := hd 1 _ _ _ rfl rfl rfl rfl rfl; exact of_seql a0 a1) <|
            Obls.nil
        intro R w hw hs hF'
        replace h0 : R 0 = v0 := (hs 0 rfl).trans h0
        replace h3 : R 3 = .int .i64 y5 := (hs 3 rfl).trans h3
        have h25 : R 25 = .bool ((gtD y6 y5) == (gtD y6 (y5 - (1 : Int)))) := hF' 9 _ _ rfl rfl rfl
        replace hO := hO.fr hw
        replace hA := hA.fr hw.size
        replace hF := hF.tr (hw.ch noB) fun _ h => False.elim h
        clear hs hF' hw
        refine seqR_nil ?_
        refine HT.cond ((gtD y6 y5) == (gtD y6 (y5 - (1 : Int)))) h25 (fun c11 => ?_) (fun c11 => ?_)
        · have hr := cnd_t c11 hr
          refine HT.seq ?_
          obtain ⟨e12, hr⟩ := ck_some hr
          obtain ⟨x13, q14, hr⟩ := bd_some hr
          refine HT.text (l := ⟨_, true, .raw v0⟩ :: ⟨_, true, .raw (.int .i64 y5)⟩ :: ⟨_, true, .raw (vsub v0 y5.toNat x13 1)⟩ :: ⟨_, true, .raw (vsub v0 y5.toNat x13 1)⟩ :: []) (tl := []) (by kernel_rfl) (by kernel_rfl) (by kernel_rfl) ?_ ?_
          · exact
              Obls.cons (Obl.plain rfl rfl fun R' w' hw hs hd => by have a0 : R' 0 = v0 := (hs 0 rfl).trans h0; exact of_move a0) <|
              Obls.cons (Obl.plain rfl rfl fun R' w' hw hs hd => by have a0 : R' 3 = .int .i64 y5 := (hs 3 rfl).trans h3; exact of_move a0) <|
              Obls.cons (Obl.plain rfl rfl fun R' w' hw hs hd => by have a0 : R' 26 = v0 := hd 0 _ _ _ rfl rfl rfl rfl rfl; have a1 : R' 27 = .int .i64 y5 := hd 1 _ _ _ rfl rfl rfl rfl rfl; exact (q14 ▸ of_view (hO.ok 0 _ rfl).1 a0 a1 Try.underlying23 Try.sizeOf9 e12)) <|
              Obls.cons (Obl.plain rfl rfl fun R' w' hw hs hd => by have a0 : R' 28 = (vsub v0 y5.toNat x13 1) := hd 0 _ _ _ rfl rfl rfl rfl rfl; exact of_assign a0) <|
              Obls.nil
          intro R w hw hs hF'
          replace h0 : R 0 = v0 := (hs 0 rfl).trans h0
          replace h3 : R 3 = .int .i64 y5 := (hs 3 rfl).trans h3
          have h4 : R 4 = (vsub v0 y5.toNat x13 1) := hF' 3 _ _ rfl rfl rfl
          replace hO := hO.fr hw
          replace hA := hA.fr hw.size
          replace hF := hF.tr (hw.ch noB) fun _ h => False.elim h
          clear hs hF' hw
          refine seqR_nil ?_
          refine HT.seq ?_
          refine HT.seq ?_
          refine HT.text (l := ⟨_, true, .raw (.int .i64 (1 : Int))⟩ :: []) (tl := []) (by kernel_rfl) (by kernel_rfl) (by kernel_rfl) ?_ ?_
          · exact
              Obls.cons (Obl.plain rfl rfl fun R' w' hw hs hd => by exact of_assign rfl) <|
              Obls.nil
          intro R w hw hs hF'
          replace h0 : R 0 = v0 := (hs 0 rfl).trans h0
          replace h3 : R 3 = .int .i64 y5 := (hs 3 rfl).trans h3
          replace h4 : R 4 = (vsub v0 y5.toNat x13 1) := (hs 4 rfl).trans h4
          have h5 : R 5 = .int .i64 (1 : Int) := hF' 0 _ _ rfl rfl rfl
          replace hO := hO.fr hw
          replace hA := hA.fr hw.size
          replace hF := hF.tr (hw.ch noB) fun _ h => False.elim h
          clear hs hF' hw
          refine seqR_nil ?_
          obtain ⟨rl15, q16, hr⟩ := cl_some hr
          replace q16 := q16 rfl
          refine HT.cut0 (fun R w => ∃ A : Av, ∃ (s17 : Int × (List (List UInt8))), rl15 = s17 ∧ AvOK A w ∧ Ch (ownsB v0) w0 w ∧ (∀ b o, A0 b o → A b o) ∧ IniOK [ob v0 (.vec B0 9 eStr s17.2)] A w ∧ R 0 = v0 ∧ R 3 = .int .i64 s17.1) ?_ ?_
          · refine HT.block ?_
            refine HT.loop (fun k R w => ∃ A : Av, ∃ (y18 : Int) (y19 : Int) (y20 : List (List UInt8)), M_slices_Compact_string_string_L1 fu y5 x13 k y18 y19 y20 = some rl15 ∧ AvOK A w ∧ Ch (ownsB v0) w0 w ∧ (∀ b o, A0 b o → A b o) ∧ IniOK [ob v0 (.vec B0 9 eStr y20)] A w ∧ R 0 = v0 ∧ R 3 = .int .i64 y18 ∧ R 4 = (vsub v0 y5.toNat x13 1) ∧ R 5 = .int .i64 y19) fu ⟨_, _, _, _, q16, hA, hF, hAA, hO, h0, h3, h4, h5⟩ ?_
            have hr1 := hr; clear hr q16
            rintro k R w ⟨A, y18, y19, y20, hr, hA, hF, hAA, hO, h0, h3, h4, h5⟩
            rcases k with _ | k
            · cases (show none = some _ from hr)
            rw [M_slices_Compact_string_string_L1] at hr
            refine HT.seq ?_
            refine HT.seq ?_
            refine HT.text (l := ⟨_, true, .raw (.int .i64 y19)⟩ :: ⟨_, true, .raw (vsub v0 y5.toNat x13 1)⟩ :: ⟨_, true, .raw (.int .i64 (x13 : Int))⟩ :: ⟨_, true, .raw (.bool (decide (y19 < (x13 : Int))))⟩ :: []) (tl := []) (by kernel_rfl) (by kernel_rfl) (by kernel_rfl) ?_ ?_
            · exact
                Obls.cons (Obl.plain rfl rfl fun R' w' hw hs hd => by have a0 : R' 5 = .int .i64 y19 := (hs 5 rfl).trans h5; exact of_move a0) <|
                Obls.cons (Obl.plain rfl rfl fun R' w' hw hs hd => by have a0 : R' 4 = (vsub v0 y5.toNat x13 1) := (hs 4 rfl).trans h4; exact of_move a0) <|
                Obls.cons (Obl.plain rfl rfl fun R' w' hw hs hd => by have a0 : R' 30 = (vsub v0 y5.toNat x13 1) := hd 0 _ _ _ rfl rfl rfl rfl rfl; exact of_len_view (hO.ok 0 _ rfl).1 a0 Try.underlying23) <|
                Obls.cons (Obl.plain rfl rfl fun R' w' hw hs hd => by have a0 : R' 29 = .int .i64 y19 := hd 0 _ _ _ rfl rfl rfl rfl rfl; have a1 : R' 31 = .int .i64 (x13 : Int) := hd 1 _ _ _ rfl rfl rfl rfl rfl; exact of_lss a0 a1) <|
                Obls.nil
            intro R w hw hs hF'
            replace h0 : R 0 = v0 := (hs 0 rfl).trans h0
            replace h3 : R 3 = .int .i64 y18 := (hs 3 rfl).trans h3
            replace h4 : R 4 = (vsub v0 y5.toNat x13 1) := (hs 4 rfl).trans h4
            replace h5 : R 5 = .int .i64 y19 := (hs 5 rfl).trans h5
            have h32 : R 32 = .bool (decide (y19 < (x13 : Int))) := hF' 3 _ _ rfl rfl rfl
            replace hO := hO.fr hw
            replace hA := hA.fr hw.size
            replace hF := hF.tr (hw.ch noB) fun _ h => False.elim h
            clear hs hF' hw
            refine seqR_nil ?_
            refine HT.cond (decide (y19 < (x13 : Int))) h32 (fun c21 => ?_) (fun c21 => ?_)
            · have hr := cnd_t c21 hr
              refine HT.skip ?_
              refine HT.seq ?_
              refine HT.block ?_
              refine HT.seq ?_
              obtain ⟨e22, hr⟩ := ck_some hr
              obtain ⟨e23, hr⟩ := ck_some hr
              obtain ⟨e24, hr⟩ := ck_some hr
              obtain ⟨e25, hr⟩ := ck_some hr
              obtain ⟨e26, hr⟩ := ck_some hr
              obtain ⟨e27, hr⟩ := ck_some hr
              obtain ⟨e28, hr⟩ := ck_some hr
              refine HT.draw (by kernel_rfl) (l := ⟨_, true, .raw (vsub v0 y5.toNat x13 1)⟩ :: ⟨_, true, .raw (.int .i64 y19)⟩ :: ⟨_, true, .raw (vptr v0 ((y5 + y19).toNat * 1))⟩ :: ⟨_, true, .rep eStr A (gtD y20 (y5 + y19))⟩ :: ⟨_, true, .raw (vsub v0 y5.toNat x13 1)⟩ :: ⟨_, true, .raw (.int .i64 y19)⟩ :: ⟨_, true, .raw (.int .i64 (y19 - (1 : Int)))⟩ :: ⟨_, true, .raw (vptr v0 ((y5 + (y19 - (1 : Int))).toNat * 1))⟩ :: ⟨_, true, .rep eStr A (gtD y20 (y5 + (y19 - (1 : Int))))⟩ :: ⟨_, true, .raw (.bool (!((gtD y20 (y5 + y19)) == (gtD y20 (y5 + (y19 - (1 : Int)))))))⟩ :: []) (tl := []) (by kernel_rfl) (by kernel_rfl) (by kernel_rfl) (by kernel_rfl) ?_ ?_
              · exact
                  Obls.cons (Obl.plain rfl rfl fun R' w' hw hs hd => by have a0 : R' 4 = (vsub v0 y5.toNat x13 1) := (hs 4 rfl).trans h4; exact of_move a0) <|
                  Obls.cons (Obl.plain rfl rfl fun R' w' hw hs hd => by have a0 : R' 5 = .int .i64 y19 := (hs 5 rfl).trans h5; exact of_move a0) <|
                  Obls.cons (Obl.plain rfl rfl fun R' w' hw hs hd => by have a0 : R' 35 = (vsub v0 y5.toNat x13 1) := hd 0 _ _ _ rfl rfl rfl rfl rfl; have a1 : R' 36 = .int .i64 y19 := hd 1 _ _ _ rfl rfl rfl rfl rfl; exact of_indexAddr_view (hO.ok 0 _ rfl).1 a0 a1 Try.underlying23 Try.sizeOf9 e22 e23 e24 rfl) <|
                  Obls.cons (Obl.plain rfl rfl fun R' w' hw hs hd => by have a0 : R' 37 = (vptr v0 ((y5 + y19).toNat * 1)) := hd 0 _ _ _ rfl rfl rfl rfl rfl; exact (of_load_vec ((hO.fr hw).ok 0 _ rfl).1 a0 e24 rfl (Fld.id _) rfl Try.isAgg9 Try.sizeOf9)) <|
                  Obls.cons (Obl.plain rfl rfl fun R' w' hw hs hd => by have a0 : R' 4 = (vsub v0 y5.toNat x13 1) := (hs 4 rfl).trans h4; exact of_move a0) <|
                  Obls.cons (Obl.plain rfl rfl fun R' w' hw hs hd => by have a0 : R' 5 = .int .i64 y19 := (hs 5 rfl).trans h5; exact of_move a0) <|
                  Obls.cons (Obl.plain rfl rfl fun R' w' hw hs hd => by have a0 : R' 40 = .int .i64 y19 := hd 0 _ _ _ rfl rfl rfl rfl rfl; exact of_sub a0 rfl e25) <|
                  Obls.cons (Obl.plain rfl rfl fun R' w' hw hs hd => by have a0 : R' 39 = (vsub v0 y5.toNat x13 1) := hd 0 _ _ _ rfl rfl rfl rfl rfl; have a1 : R' 41 = .int .i64 (y19 - (1 : Int)) := hd 1 _ _ _ rfl rfl rfl rfl rfl; exact of_indexAddr_view (hO.ok 0 _ rfl).1 a0 a1 Try.underlying23 Try.sizeOf9 e26 e27 e28 rfl) <|
                  Obls.cons (Obl.plain rfl rfl fun R' w' hw hs hd => by have a0 : R' 42 = (vptr v0 ((y5 + (y19 - (1 : Int))).toNat * 1)) := hd 0 _ _ _ rfl rfl rfl rfl rfl; exact (of_load_vec ((hO.fr hw).ok 0 _ rfl).1 a0 e28 rfl (Fld.id _) rfl Try.isAgg9 Try.sizeOf9)) <|
                  Obls.cons (Obl.plain rfl rfl fun R' w' hw hs hd => by have a0 : Rep eStr A w' (R' 38) (gtD y20 (y5 + y19)) := hd 0 _ _ _ rfl rfl rfl rfl rfl; have a1 : Rep eStr A w' (R' 43) (gtD y20 (y5 + (y19 - (1 : Int)))) := hd 1 _ _ _ rfl rfl rfl rfl rfl; exact of_sneq a0 a1) <|
                  Obls.nil
              intro R w hw hs hF'
              replace h0 : R 0 = v0 := (hs 0 rfl).trans h0
              replace h3 : R 3 = .int .i64 y18 := (hs 3 rfl).trans h3
              replace h4 : R 4 = (vsub v0 y5.toNat x13 1) := (hs 4 rfl).trans h4
              replace h5 : R 5 = .int .i64 y19 := (hs 5 rfl).trans h5
              have h44 : R 44 = .bool (!((gtD y20 (y5 + y19)) == (gtD y20 (y5 + (y19 - (1 : Int)))))) := hF' 9 _ _ rfl rfl rfl
              replace hO := hO.fr hw
              replace hA := hA.fr hw.size
              replace hF := hF.tr (hw.ch noB) fun _ h => False.elim h
              clear hs hF' hw
              refine seqR_nil ?_
              refine HT.cond (!((gtD y20 (y5 + y19)) == (gtD y20 (y5 + (y19 - (1 : Int)))))) h44 (fun c29 => ?_) (fun c29 => ?_)
              · have hr := cnd_t c29 hr
                refine HT.seq ?_
                obtain ⟨e30, hr⟩ := ck_some hr
                obtain ⟨e31, hr⟩ := ck_some hr
                obtain ⟨e32, hr⟩ := ck_some hr
                obtain ⟨e33, hr⟩ := ck_some hr
                refine HT.textR [ob v0 (.vec B0 9 eStr y20)] (⟨_, true, [], none, true, fun A => .raw v0⟩ :: ⟨_, true, [], none, true, fun A => .raw (.int .i64 y18)⟩ :: ⟨_, true, [], none, true, fun A => .raw (vsub v0 y5.toNat x13 1)⟩ :: ⟨_, true, [], none, true, fun A => .raw (.int .i64 y19)⟩ :: ⟨_, true, [], none, true, fun A => .raw (vptr v0 ((y5 + y19).toNat * 1))⟩ :: ⟨_, true, [], none, true, fun A => .rep eStr A (gtD y20 (y5 + y19))⟩ :: ⟨_, true, [], none, true, fun A => .raw (vptr v0 (y18.toNat * 1))⟩ :: ⟨_, true, [0], some (.vec B0 9 eStr (y20.set y18.toNat (gtD y20 (y5 + y19)))), false, fun A => .any⟩ :: []) (by kernel_rfl) (by kernel_rfl) (Wf.mk' (by kernel_rfl) (UAll.cons ust_raw (UAll.cons ust_raw (UAll.cons ust_raw (UAll.cons ust_raw (UAll.cons ust_raw (UAll.cons ust_rep (UAll.cons ust_raw (UAll.cons ust_any (UAll.nil))))))))) (by kernel_rfl) (by kernel_rfl)) hO hA ?_ ?_
                · exact
                    OblsR.cons (OblR.plain rfl rfl rfl rfl fun A' R' w' ho hd => by have a0 : R' 0 = v0 := (ho.old 0 rfl).trans h0; exact of_move a0) <|
                    OblsR.cons (OblR.plain rfl rfl rfl rfl fun A' R' w' ho hd => by have a0 : R' 3 = .int .i64 y18 := (ho.old 3 rfl).trans h3; exact of_move a0) <|
                    OblsR.cons (OblR.plain rfl rfl rfl rfl fun A' R' w' ho hd => by have a0 : R' 4 = (vsub v0 y5.toNat x13 1) := (ho.old 4 rfl).trans h4; exact of_move a0) <|
                    OblsR.cons (OblR.plain rfl rfl rfl rfl fun A' R' w' ho hd => by have a0 : R' 5 = .int .i64 y19 := (ho.old 5 rfl).trans h5; exact of_move a0) <|
                    OblsR.cons (OblR.plain rfl rfl rfl rfl fun A' R' w' ho hd => by have a0 : R' 47 = (vsub v0 y5.toNat x13 1) := hd 0 _ _ _ rfl rfl rfl rfl rfl; have a1 : R' 48 = .int .i64 y19 := hd 1 _ _ _ rfl rfl rfl rfl rfl; exact of_indexAddr_view (hO.ok 0 _ rfl).1 a0 a1 Try.underlying23 Try.sizeOf9 e30 e31 e32 rfl) <|
                    OblsR.cons (OblR.plain rfl rfl rfl rfl fun A' R' w' ho hd => by have a0 : R' 49 = (vptr v0 ((y5 + y19).toNat * 1)) := hd 0 _ _ _ rfl rfl rfl rfl rfl; exact (of_load_vec (ho.rd 0 _ rfl rfl) a0 e32 rfl (Fld.id _) rfl Try.isAgg9 Try.sizeOf9)) <|
                    OblsR.cons (OblR.plain rfl rfl rfl rfl fun A' R' w' ho hd => by have a0 : R' 45 = v0 := hd 0 _ _ _ rfl rfl rfl rfl rfl; have a1 : R' 46 = .int .i64 y18 := hd 1 _ _ _ rfl rfl rfl rfl rfl; exact of_indexAddr_vec (hO.ok 0 _ rfl).1 a0 a1 Try.underlying23 Try.sizeOf9 e33 rfl) <|
                    OblsR.cons (OblR.took 0 _ _ rfl rfl rfl rfl rfl fun A' R' w' ho hd u hok hav hin hop hds => by have a0 : R' 51 = (vptr v0 (y18.toNat * 1)) := hd 0 _ _ _ rfl rfl rfl rfl rfl; have a1 : Rep eStr A' w' (R' 50) (gtD y20 (y5 + y19)) := hd 1 _ _ _ rfl rfl rfl rfl rfl; obtain rfl := hin _ rfl; exact took_vstore a1 hok hav a0 e33 rfl (FldS.id _) Try.sizeOf9 rfl) <|
                    OblsR.nil
                intro done ρ σ A R w hdn hI
                replace h0 : R 0 = v0 := (hI.reg rfl).trans h0
                replace h3 : R 3 = .int .i64 y18 := (hI.reg rfl).trans h3
                replace h4 : R 4 = (vsub v0 y5.toNat x13 1) := (hI.reg rfl).trans h4
                replace h5 : R 5 = .int .i64 y19 := (hI.reg rfl).trans h5
                have z34 := hI.inivR 0 rfl
                have z35 := (hI.opnR hdn 8 7 rfl rfl rfl rfl rfl).trans z34
                replace hAA := hI.lowK hAA hA0 hN (hO.geK (⟨.inr (fun k h => .inr h), trivial⟩))
                replace hF : Ch (ownsB v0) w0 w := hF.tr hI.ch (hO.geK (⟨.inr (fun k h => .inr h), trivial⟩))
                replace hO : IniOK [ob v0 (.vec B0 9 eStr (y20.set y18.toNat (gtD y20 (y5 + y19))))] A w := hI.left hdn [(8, ob v0 (.vec B0 9 eStr (y20.set y18.toNat (gtD y20 (y5 + y19)))))] ⟨rfl, rfl, z35, rfl, rfl, trivial⟩
                replace hA := hI.avok
                clear hI
                obtain ⟨e36, hr⟩ := ck_some hr
                refine HT.text (l := ⟨_, true, .raw (.int .i64 y18)⟩ :: ⟨_, true, .raw (.int .i64 (y18 + (1 : Int)))⟩ :: ⟨_, true, .raw (.int .i64 (y18 + (1 : Int)))⟩ :: []) (tl := []) (by kernel_rfl) (by kernel_rfl) (by kernel_rfl) ?_ ?_
                · exact
                    Obls.cons (Obl.plain rfl rfl fun R' w' hw hs hd => by have a0 : R' 3 = .int .i64 y18 := (hs 3 rfl).trans h3; exact of_move a0) <|
                    Obls.cons (Obl.plain rfl rfl fun R' w' hw hs hd => by have a0 : R' 52 = .int .i64 y18 := hd 0 _ _ _ rfl rfl rfl rfl rfl; exact of_add a0 rfl e36) <|
                    Obls.cons (Obl.plain rfl rfl fun R' w' hw hs hd => by have a0 : R' 53 = .int .i64 (y18 + (1 : Int)) := hd 0 _ _ _ rfl rfl rfl rfl rfl; exact of_assign a0) <|
                    Obls.nil
                intro R w hw hs hF'
                replace h0 : R 0 = v0 := (hs 0 rfl).trans h0
                replace h4 : R 4 = (vsub v0 y5.toNat x13 1) := (hs 4 rfl).trans h4
                replace h5 : R 5 = .int .i64 y19 := (hs 5 rfl).trans h5
                have h3 : R 3 = .int .i64 (y18 + (1 : Int)) := hF' 2 _ _ rfl rfl rfl
                replace hO := hO.fr hw
                replace hA := hA.fr hw.size
                replace hF := hF.tr (hw.ch noB) fun _ h => False.elim h
                clear hs hF' hw
                refine seqR_nil ?_
                obtain ⟨e37, hr⟩ := ck_some hr
                refine HT.text (l := ⟨_, true, .raw (.int .i64 y19)⟩ :: ⟨_, true, .raw (.int .i64 (y19 + (1 : Int)))⟩ :: ⟨_, true, .raw (.int .i64 (y19 + (1 : Int)))⟩ :: []) (tl := []) (by kernel_rfl) (by kernel_rfl) (by kernel_rfl) ?_ ?_
                · exact
                    Obls.cons (Obl.plain rfl rfl fun R' w' hw hs hd => by have a0 : R' 5 = .int .i64 y19 := (hs 5 rfl).trans h5; exact of_move a0) <|
                    Obls.cons (Obl.plain rfl rfl fun R' w' hw hs hd => by have a0 : R' 33 = .int .i64 y19 := hd 0 _ _ _ rfl rfl rfl rfl rfl; exact of_add a0 rfl e37) <|
                    Obls.cons (Obl.plain rfl rfl fun R' w' hw hs hd => by have a0 : R' 34 = .int .i64 (y19 + (1 : Int)) := hd 0 _ _ _ rfl rfl rfl rfl rfl; exact of_assign a0) <|
                    Obls.nil
                intro R w hw hs hF'
                replace h0 : R 0 = v0 := (hs 0 rfl).trans h0
                replace h3 : R 3 = .int .i64 (y18 + (1 : Int)) := (hs 3 rfl).trans h3
                replace h4 : R 4 = (vsub v0 y5.toNat x13 1) := (hs 4 rfl).trans h4
                have h5 : R 5 = .int .i64 (y19 + (1 : Int)) := hF' 2 _ _ rfl rfl rfl
                replace hO := hO.fr hw
                replace hA := hA.fr hw.size
                replace hF := hF.tr (hw.ch noB) fun _ h => False.elim h
                clear hs hF' hw
                refine seqR_nil ?_
                exact Exists.intro k (And.intro (Nat.lt_succ_self k) ⟨_, _, _, _, hr, hA, hF, hAA, hO, h0, h3, h4, h5⟩)
              · have hr := cnd_f c29 hr
                refine HT.skip ?_
                obtain ⟨e38, hr⟩ := ck_some hr
                refine HT.text (l := ⟨_, true, .raw (.int .i64 y19)⟩ :: ⟨_, true, .raw (.int .i64 (y19 + (1 : Int)))⟩ :: ⟨_, true, .raw (.int .i64 (y19 + (1 : Int)))⟩ :: []) (tl := []) (by kernel_rfl) (by kernel_rfl) (by kernel_rfl) ?_ ?_
                · exact
                    Obls.cons (Obl.plain rfl rfl fun R' w' hw hs hd => by have a0 : R' 5 = .int .i64 y19 := (hs 5 rfl).trans h5; exact of_move a0) <|
                    Obls.cons (Obl.plain rfl rfl fun R' w' hw hs hd => by have a0 : R' 33 = .int .i64 y19 := hd 0 _ _ _ rfl rfl rfl rfl rfl; exact of_add a0 rfl e38) <|
                    Obls.cons (Obl.plain rfl rfl fun R' w' hw hs hd => by have a0 : R' 34 = .int .i64 (y19 + (1 : Int)) := hd 0 _ _ _ rfl rfl rfl rfl rfl; exact of_assign a0) <|
                    Obls.nil
                intro R w hw hs hF'
                replace h0 : R 0 = v0 := (hs 0 rfl).trans h0
                replace h3 : R 3 = .int .i64 y18 := (hs 3 rfl).trans h3
                replace h4 : R 4 = (vsub v0 y5.toNat x13 1) := (hs 4 rfl).trans h4
                have h5 : R 5 = .int .i64 (y19 + (1 : Int)) := hF' 2 _ _ rfl rfl rfl
                replace hO := hO.fr hw
                replace hA := hA.fr hw.size
                replace hF := hF.tr (hw.ch noB) fun _ h => False.elim h
                clear hs hF' hw
                refine seqR_nil ?_
                exact Exists.intro k (And.intro (Nat.lt_succ_self k) ⟨_, _, _, _, hr, hA, hF, hAA, hO, h0, h3, h4, h5⟩)
            · have hr := cnd_f c21 hr
              refine HT.exit ?_
              obtain rfl := Option.some.inj hr
              exact Exists.intro _ ⟨_, rfl, hA, hF, hAA, hO, h0, h3⟩
          rintro R w ⟨A, s17, es, hA, hF, hAA, hO, h0, h3⟩
          obtain rfl := es.symm
          refine HT.seq ?_
          obtain ⟨e39, hr⟩ := ck_some hr
          obtain ⟨x40, q41, hr⟩ := bd_some hr
          obtain ⟨e42, hr⟩ := ck_some hr
          obtain ⟨e43, hr⟩ := ck_some hr
          refine HT.textR [ob v0 (.vec B0 9 eStr s17.2)] (⟨_, true, [], none, true, fun A => .raw v0⟩ :: ⟨_, true, [], none, true, fun A => .raw (.int .i64 s17.1)⟩ :: ⟨_, true, [], none, true, fun A => .raw (vsub v0 s17.1.toNat x40 1)⟩ :: ⟨_, true, [0], some (.vec B0 9 eStr (s17.2.take s17.1.toNat ++ List.replicate (s17.2.length - s17.1.toNat) ([] : List UInt8))), false, fun A => .any⟩ :: []) (by kernel_rfl) (by kernel_rfl) (Wf.mk' (by kernel_rfl) (UAll.cons ust_raw (UAll.cons ust_raw (UAll.cons ust_raw (UAll.cons ust_any (UAll.nil))))) (by kernel_rfl) (by kernel_rfl)) hO hA ?_ ?_
          · exact
              OblsR.cons (OblR.plain rfl rfl rfl rfl fun A' R' w' ho hd => by have a0 : R' 0 = v0 := (ho.old 0 rfl).trans h0; exact of_move a0) <|
              OblsR.cons (OblR.plain rfl rfl rfl rfl fun A' R' w' ho hd => by have a0 : R' 3 = .int .i64 s17.1 := (ho.old 3 rfl).trans h3; exact of_move a0) <|
              OblsR.cons (OblR.plain rfl rfl rfl rfl fun A' R' w' ho hd => by have a0 : R' 54 = v0 := hd 0 _ _ _ rfl rfl rfl rfl rfl; have a1 : R' 55 = .int .i64 s17.1 := hd 1 _ _ _ rfl rfl rfl rfl rfl; exact (q41 ▸ of_view (hO.ok 0 _ rfl).1 a0 a1 Try.underlying23 Try.sizeOf9 e39)) <|
              OblsR.cons (OblR.took 0 _ _ rfl rfl rfl rfl rfl fun A' R' w' ho hd u hok hav hin hop hds => by have a0 : R' 56 = (vsub v0 s17.1.toNat x40 1) := hd 0 _ _ _ rfl rfl rfl rfl rfl; obtain rfl := hin _ rfl; exact took_clear a0 hok hav Try.underlying23 rfl Try.zeroValue9 (fun A w => (rep1_str rfl (by decide))) e42 e43 rfl) <|
              OblsR.nil
          intro done ρ σ A R w hdn hI
          replace h0 : R 0 = v0 := (hI.reg rfl).trans h0
          replace h3 : R 3 = .int .i64 s17.1 := (hI.reg rfl).trans h3
          have z44 := hI.inivR 0 rfl
          have z45 := (hI.opnR hdn 4 3 rfl rfl rfl rfl rfl).trans z44
          replace hAA := hI.lowK hAA hA0 hN (hO.geK (⟨.inr (fun k h => .inr h), trivial⟩))
          replace hF : Ch (ownsB v0) w0 w := hF.tr hI.ch (hO.geK (⟨.inr (fun k h => .inr h), trivial⟩))
          replace hO : IniOK [ob v0 (.vec B0 9 eStr (s17.2.take s17.1.toNat ++ List.replicate (s17.2.length - s17.1.toNat) ([] : List UInt8)))] A w := hI.left hdn [(4, ob v0 (.vec B0 9 eStr (s17.2.take s17.1.toNat ++ List.replicate (s17.2.length - s17.1.toNat) ([] : List UInt8))))] ⟨rfl, rfl, z45, rfl, rfl, trivial⟩
          replace hA := hI.avok
          clear hI
          refine HT.seq ?_
          obtain ⟨e46, hr⟩ := ck_some hr
          refine HT.textR [ob v0 (.vec B0 9 eStr (s17.2.take s17.1.toNat ++ List.replicate (s17.2.length - s17.1.toNat) ([] : List UInt8)))] (⟨_, true, [], none, true, fun A => .raw v0⟩ :: ⟨_, true, [], none, true, fun A => .raw (.int .i64 s17.1)⟩ :: ⟨_, true, [0], some (.vec B0 9 eStr (subL (s17.2.take s17.1.toNat ++ List.replicate (s17.2.length - s17.1.toNat) ([] : List UInt8)) 0 s17.1)), true, fun A => .any⟩ :: ⟨_, true, [3], some (.vec B0 9 eStr (subL (s17.2.take s17.1.toNat ++ List.replicate (s17.2.length - s17.1.toNat) ([] : List UInt8)) 0 s17.1)), true, fun A => .any⟩ :: []) (by kernel_rfl) (by kernel_rfl) (Wf.mk' (by kernel_rfl) (UAll.cons ust_raw (UAll.cons ust_raw (UAll.cons ust_any (UAll.cons ust_any (UAll.nil))))) (by kernel_rfl) (by kernel_rfl)) hO hA ?_ ?_
          · exact
              OblsR.cons (OblR.plain rfl rfl rfl rfl fun A' R' w' ho hd => by have a0 : R' 0 = v0 := (ho.old 0 rfl).trans h0; exact of_move a0) <|
              OblsR.cons (OblR.plain rfl rfl rfl rfl fun A' R' w' ho hd => by have a0 : R' 3 = .int .i64 s17.1 := (ho.old 3 rfl).trans h3; exact of_move a0) <|
              OblsR.cons (OblR.took 0 _ _ rfl rfl rfl rfl rfl fun A' R' w' ho hd u hok hav hin hop hds => by have a0 : R' 57 = v0 := hd 0 _ _ _ rfl rfl rfl rfl rfl; have a1 : R' 58 = .int .i64 s17.1 := hd 1 _ _ _ rfl rfl rfl rfl rfl; exact took_prefix (a0.trans (hin _ rfl).symm) hok hav a1 Try.underlying23 Try.sizeOf9 e46 rfl) <|
              OblsR.cons (OblR.took 3 _ _ rfl rfl rfl rfl rfl fun A' R' w' ho hd u hok hav hin hop hds => by exact took_assign (hop _ _ rfl rfl rfl rfl).symm hok hav) <|
              OblsR.nil
          intro done ρ σ A R w hdn hI
          obtain ⟨u47, e_u47⟩ : ∃ u, ρ 4 = u := ⟨_, rfl⟩
          have h2 : R 2 = u47 := (hI.opvR hdn 4 3 rfl rfl rfl rfl rfl).symm.trans e_u47
          have hK_u47 : ∀ k, ownsB u47 k → w0.heap.size ≤ k ∨ (ownsB v0) k := hI.geK hdn 4 rfl rfl rfl e_u47 (hO.geK (⟨.inr (fun k h => .inr h), trivial⟩)) hF.size
          replace hAA := hI.lowK hAA hA0 hN (hO.geK (⟨.inr (fun k h => .inr h), trivial⟩))
          replace hF : Ch (ownsB v0) w0 w := hF.tr hI.ch (hO.geK (⟨.inr (fun k h => .inr h), trivial⟩))
          replace hO : IniOK [ob u47 (.vec B0 9 eStr (subL (s17.2.take s17.1.toNat ++ List.replicate (s17.2.length - s17.1.toNat) ([] : List UInt8)) 0 s17.1))] A w := hI.left hdn [(4, ob u47 (.vec B0 9 eStr (subL (s17.2.take s17.1.toNat ++ List.replicate (s17.2.length - s17.1.toNat) ([] : List UInt8)) 0 s17.1)))] ⟨rfl, rfl, e_u47, rfl, rfl, trivial⟩
          replace hA := hI.avok
          clear hI
          refine HT.ret ?_
          obtain rfl := Option.some.inj hr
          have hr := hr0
          replace hr : some _ = some _ := hr
          obtain rfl := Option.some.inj hr
          exact ⟨.inr rfl, [R 2], ⟨rfl, trivial⟩, by show Took _ true _ _ _ w0 (R 2) w; rw [h2]; exact took_post (fun k h o => .inr h) hF (hO.ok 0 _ rfl).1 (hO.own_ge (⟨.inr hK_u47, trivial⟩) (i := 0) rfl) (fun _ _ _ _ _ h => h)⟩
        · have hr := cnd_f c11 hr
          refine HT.skip ?_
          obtain ⟨e48, hr⟩ := ck_some hr
          refine HT.text (l := ⟨_, true, .raw (.int .i64 y5)⟩ :: ⟨_, true, .raw (.int .i64 (y5 + (1 : Int)))⟩ :: ⟨_, true, .raw (.int .i64 (y5 + (1 : Int)))⟩ :: []) (tl := []) (by kernel_rfl) (by kernel_rfl) (by kernel_rfl) ?_ ?_
          · exact
              Obls.cons (Obl.plain rfl rfl fun R' w' hw hs hd => by have a0 : R' 3 = .int .i64 y5 := (hs 3 rfl).trans h3; exact of_move a0) <|
              Obls.cons (Obl.plain rfl rfl fun R' w' hw hs hd => by have a0 : R' 14 = .int .i64 y5 := hd 0 _ _ _ rfl rfl rfl rfl rfl; exact of_add a0 rfl e48) <|
              Obls.cons (Obl.plain rfl rfl fun R' w' hw hs hd => by have a0 : R' 15 = .int .i64 (y5 + (1 : Int)) := hd 0 _ _ _ rfl rfl rfl rfl rfl; exact of_assign a0) <|
              Obls.nil
          intro R w hw hs hF'
          replace h0 : R 0 = v0 := (hs 0 rfl).trans h0
          have h3 : R 3 = .int .i64 (y5 + (1 : Int)) := hF' 2 _ _ rfl rfl rfl
          replace hO := hO.fr hw
          replace hA := hA.fr hw.size
          replace hF := hF.tr (hw.ch noB) fun _ h => False.elim h
          clear hs hF' hw
          refine seqR_nil ?_
          exact Exists.intro k (And.intro (Nat.lt_succ_self k) ⟨_, _, _, hr, hA, hF, hAA, hO, h0, h3⟩)
      · have hr := cnd_f c7 hr
        refine HT.exit ?_
        obtain rfl := Option.some.inj hr
        exact Exists.intro _ ⟨_, rfl, hA, hF, hAA, hO, h0⟩
    rintro R w ⟨A, s4, rfl, hA, hF, hAA, hO, h0⟩
    have hr := exM_go hr
    refine HT.seq ?_
    refine HT.text (l := ⟨_, true, .raw v0⟩ :: ⟨_, true, .raw v0⟩ :: []) (tl := []) (by kernel_rfl) (by kernel_rfl) (by kernel_rfl) ?_ ?_
    · exact
        Obls.cons (Obl.plain rfl rfl fun R' w' hw hs hd => by have a0 : R' 0 = v0 := (hs 0 rfl).trans h0; exact of_move a0) <|
        Obls.cons (Obl.plain rfl rfl fun R' w' hw hs hd => by have a0 : R' 60 = v0 := hd 0 _ _ _ rfl rfl rfl rfl rfl; exact of_assign a0) <|
        Obls.nil
    intro R w hw hs hF'
    have h2 : R 2 = v0 := hF' 1 _ _ rfl rfl rfl
    replace hO := hO.fr hw
    replace hA := hA.fr hw.size
    replace hF := hF.tr (hw.ch noB) fun _ h => False.elim h
    clear hs hF' hw
    refine seqR_nil ?_
    refine HT.ret ?_
    obtain rfl := Option.some.inj hr
    exact ⟨.inr rfl, [R 2], ⟨rfl, trivial⟩, by show Took _ true _ _ _ w0 (R 2) w; rw [h2]; exact took_post (fun k h o => .inr h) hF (hO.ok 0 _ rfl).1 (hO.own_ge (⟨.inr (fun k h => .inr h), trivial⟩) (i := 0) rfl) (fun _ _ _ _ _ h => h)⟩
def M_impl_sortedSet (fu : Nat) (p0 : List (List UInt8)) : Option (List (List UInt8)) :=
  cl true (M_slices_Clone_string_string fu p0) fun x1 =>
  cl true (M_sortS fu x1) fun x4 =>
  cl true (M_slices_Compact_string_string fu x4) fun x8 =>
  some x8
set_option maxRecDepth 100000 in
set_option maxHeartbeats 4000000 in
theorem M_impl_sortedSet_ok {fu : Nat} {A0 : Av} {p0 : List (List UInt8)} {r : List (List UInt8)} (hr : M_impl_sortedSet fu p0 = some r) {w : World} {v0 : Value} (hA : AvOK A0 w) (h0 : Rep (eSl eStr) A0 w v0 p0) :
    Calls Try.prog 72 #[v0] w fun e w' => ∃ v, e = .returned v ∧ ((Res.vec w.heap.size 9 eStr r).ok (addA A0 v) v w' ∧ Fr w w') := by
  unfold M_impl_sortedSet at hr
  obtain ⟨w0, hw0⟩ : ∃ w0, w0 = w := ⟨_, rfl⟩
  have hF : Fr w0 w := hw0 ▸ Fr.refl _
  have hA0 : ∀ b o, A0 b o → b < w0.heap.size := fun b o h => hw0 ▸ hA b o h
  have hA00 : AvOK A0 w0 := hA0
  rw [show w.heap.size = w0.heap.size from hw0 ▸ rfl]
  rw [show Fr w = Fr w0 from hw0 ▸ rfl]
  clear hw0
  obtain ⟨A, hAe⟩ : ∃ A, A = A0 := ⟨_, rfl⟩
  have hAA : ∀ b o, A0 b o → A b o := fun b o h => hAe ▸ h
  replace hA : AvOK A w := hAe ▸ hA
  have hO : IniOK [] A w := IniOK.nil
  refine calls_of_HT2 [.tmp 2] Try.func72 Try.ntmps72 (by decide) rfl rfl (Nat.le_of_ble_eq_true rfl) ?_
  intro R hR
  have f_v0 : Rep (eSl eStr) A w v0 p0 := hAe ▸ h0
  replace h0 : R 0 = v0 := hR 0 _ rfl
  clear hR hAe
  refine HT.seq ?_
  refine HT.text (l := ⟨_, true, .any⟩ :: []) (tl := []) (by kernel_rfl) (by kernel_rfl) (by kernel_rfl) ?_ ?_
  · exact
      Obls.cons (Obl.plain rfl rfl fun R' w' hw hs hd => by exact of_assign trivial) <|
      Obls.nil
  intro R w hw hs hF'
  replace h0 : R 0 = v0 := (hs 0 rfl).trans h0
  replace f_v0 := f_v0.fr hw
  replace hO := hO.fr hw
  replace hA := hA.fr hw.size
  replace hF := hF.trans hw
  clear hs hF' hw
  refine seqR_nil ?_
  refine HT.seq ?_
  obtain ⟨x1, q2, hr⟩ := cl_some hr
  refine HT.textR [] (⟨_, true, [], none, true, fun A => .raw v0⟩ :: ⟨_, true, [], some (.vec w0.heap.size 9 eStr x1), true, fun A => .any⟩ :: ⟨_, true, [1], some (.vec w0.heap.size 9 eStr x1), true, fun A => .any⟩ :: []) (by kernel_rfl) (by kernel_rfl) (Wf.mk' (by kernel_rfl) (UAll.cons ust_raw (UAll.cons ust_any (UAll.cons ust_any (UAll.nil)))) (by kernel_rfl) (by kernel_rfl)) hO hA ?_ ?_
  · exact
      OblsR.cons (OblR.plain rfl rfl rfl rfl fun A' R' w' ho hd => by have a0 : R' 0 = v0 := (ho.old 0 rfl).trans h0; exact of_move a0) <|
      OblsR.cons (OblR.made _ rfl rfl rfl rfl fun A' R' w' ho hd => by have a0 : R' 4 = v0 := hd 0 _ _ _ rfl rfl rfl rfl rfl; have ra0 := (f_v0.stp ho.stp).eq a0; exact made_call Try.call61 (M_slices_Clone_string_string_ok (q2 rfl) ho.av ra0) (Nat.le_trans hF.size ho.ch.size)) <|
      OblsR.cons (OblR.took 1 _ _ rfl rfl rfl rfl rfl fun A' R' w' ho hd u hok hav hin hop hds => by exact took_assign (hop _ _ rfl rfl rfl rfl).symm hok hav) <|
      OblsR.nil
  intro done ρ σ A R w hdn hI
  obtain ⟨u3, e_u3⟩ : ∃ u, ρ 2 = u := ⟨_, rfl⟩
  have h3 : R 3 = u3 := (hI.opvR hdn 2 2 rfl rfl rfl rfl rfl).symm.trans e_u3
  replace hAA := hI.low' hAA hA0 (hO.ge (trivial))
  replace hF : Fr w0 w := hF.tr hI.ch (hO.ge (trivial))
  replace hO : IniOK [ob u3 (.vec w0.heap.size 9 eStr x1)] A w := hI.left hdn [(2, ob u3 (.vec w0.heap.size 9 eStr x1))] ⟨rfl, rfl, e_u3, rfl, rfl, trivial⟩
  replace hA := hI.avok
  clear hI
  refine HT.seq ?_
  obtain ⟨x4, q5, hr⟩ := cl_some hr
  refine HT.textR [ob u3 (.vec w0.heap.size 9 eStr x1)] (⟨_, true, [], none, true, fun A => .raw u3⟩ :: ⟨_, true, [0], some (.vec w0.heap.size 9 eStr x4), false, fun A => .any⟩ :: []) (by kernel_rfl) (by kernel_rfl) (Wf.mk' (by kernel_rfl) (UAll.cons ust_raw (UAll.cons ust_any (UAll.nil))) (by kernel_rfl) (by kernel_rfl)) hO hA ?_ ?_
  · exact
      OblsR.cons (OblR.plain rfl rfl rfl rfl fun A' R' w' ho hd => by have a0 : R' 3 = u3 := (ho.old 3 rfl).trans h3; exact of_move a0) <|
      OblsR.cons (OblR.took 0 _ _ rfl rfl rfl rfl rfl fun A' R' w' ho hd u hok hav hin hop hds => by have a0 : R' 6 = u3 := hd 0 _ _ _ rfl rfl rfl rfl rfl; have hu0 : evalR R' (.tmp 6) = u := a0.trans (hin _ rfl).symm; exact took_call Try.call73 hav (fun _ _ _ _ _ h => h) (by simp only [List.map, hu0]; exact Calls.mono (M_sortS_ok (q5 rfl) (ho.av.sub _) (fun b o h => h.2) (Vec.flat hok (fun _ _ _ _ _ h => h))) (fun _ _ ⟨v, h1, h2, h3, h4⟩ => ⟨v, h1, trivial, h3, h4⟩))) <|
      OblsR.nil
  intro done ρ σ A R w hdn hI
  replace h3 : R 3 = u3 := (hI.reg rfl).trans h3
  have z6 := hI.inivR 0 rfl
  have z7 := (hI.opnR hdn 2 1 rfl rfl rfl rfl rfl).trans z6
  replace hAA := hI.low' hAA hA0 (hO.ge (⟨rfl, trivial⟩))
  replace hF : Fr w0 w := hF.tr hI.ch (hO.ge (⟨rfl, trivial⟩))
  replace hO : IniOK [ob u3 (.vec w0.heap.size 9 eStr x4)] A w := hI.left hdn [(2, ob u3 (.vec w0.heap.size 9 eStr x4))] ⟨rfl, rfl, z7, rfl, rfl, trivial⟩
  replace hA := hI.avok
  clear hI
  refine HT.seq ?_
  obtain ⟨x8, q9, hr⟩ := cl_some hr
  refine HT.textR [ob u3 (.vec w0.heap.size 9 eStr x4)] (⟨_, true, [], none, true, fun A => .raw u3⟩ :: ⟨_, true, [0], some (.vec w0.heap.size 9 eStr x8), true, fun A => .any⟩ :: ⟨_, true, [2], some (.vec w0.heap.size 9 eStr x8), true, fun A => .any⟩ :: []) (by kernel_rfl) (by kernel_rfl) (Wf.mk' (by kernel_rfl) (UAll.cons ust_raw (UAll.cons ust_any (UAll.cons ust_any (UAll.nil)))) (by kernel_rfl) (by kernel_rfl)) hO hA ?_ ?_
  · exact
      OblsR.cons (OblR.plain rfl rfl rfl rfl fun A' R' w' ho hd => by have a0 : R' 3 = u3 := (ho.old 3 rfl).trans h3; exact of_move a0) <|
      OblsR.cons (OblR.took 0 _ _ rfl rfl rfl rfl rfl fun A' R' w' ho hd u hok hav hin hop hds => by have a0 : R' 8 = u3 := hd 0 _ _ _ rfl rfl rfl rfl rfl; have hu0 : evalR R' (.tmp 8) = u := a0.trans (hin _ rfl).symm; exact took_callm Try.call104 hav (by simp only [List.map, hu0]; exact M_slices_Compact_string_string_ok (q9 rfl) (ho.av.sub _) (fun b o h => h.2) (Vec.flat hok (fun _ _ _ _ _ h => h)))) <|
      OblsR.cons (OblR.took 2 _ _ rfl rfl rfl rfl rfl fun A' R' w' ho hd u hok hav hin hop hds => by exact took_assign (hop _ _ rfl rfl rfl rfl).symm hok hav) <|
      OblsR.nil
  intro done ρ σ A R w hdn hI
  obtain ⟨u10, e_u10⟩ : ∃ u, ρ 3 = u := ⟨_, rfl⟩
  have h2 : R 2 = u10 := (hI.opvR hdn 3 2 rfl rfl rfl rfl rfl).symm.trans e_u10
  replace hAA := hI.low' hAA hA0 (hO.ge (⟨rfl, trivial⟩))
  replace hF : Fr w0 w := hF.tr hI.ch (hO.ge (⟨rfl, trivial⟩))
  replace hO : IniOK [ob u10 (.vec w0.heap.size 9 eStr x8)] A w := hI.left hdn [(3, ob u10 (.vec w0.heap.size 9 eStr x8))] ⟨rfl, rfl, e_u10, rfl, rfl, trivial⟩
  replace hA := hI.avok
  clear hI
  refine HT.ret ?_
  obtain rfl := Option.some.inj hr
  exact ⟨.inr rfl, [R 2], ⟨rfl, trivial⟩, (own_post (hO.ok 0 _ rfl) hAA h2), hF⟩
theorem M_impl_sortedSet_okR {fu : Nat} {A0 : Av} {p0 : List (List UInt8)} {r : List (List UInt8)} (hr : M_impl_sortedSet fu p0 = some r) {w : World} {v0 : Value} (hA : AvOK A0 w) (h0 : Rep (eSl eStr) A0 w v0 p0) :
    Calls Try.prog 72 #[v0] w fun e w' => ∃ v, e = .returned v ∧ (Rep (eSl eStr) A0 w' v r ∧ Fr w w') := by
  refine Calls.mono (M_impl_sortedSet_ok hr hA h0) ?_
  rintro e w' ⟨v, he, hv, hf⟩
  exact ⟨v, he, vec_rep hv (fun b o h => .inl h) hA, hf⟩
def M_slices_Index_string_string_L0 (fu : Nat) (p0 : List (List UInt8)) (p1 : List UInt8) : Nat → Int → Option (Ex Int Unit)
  | 0, _ => none
  | k + 1, y4 =>
    bif (decide (y4 < (p0.length : Int))) then (
      ck (inR y4 p0.length) <|
      bif (p1 == (gtD p0 y4)) then (
        some (Ex.ret y4)
      ) else (
        ck (i64B (y4 + (1 : Int))) <|
        M_slices_Index_string_string_L0 fu p0 p1 k (y4 + (1 : Int))
      )
    ) else (
      some (Ex.go ())
    )
def M_slices_Index_string_string (fu : Nat) (p0 : List (List UInt8)) (p1 : List UInt8) : Option Int :=
  cl true (M_slices_Index_string_string_L0 fu p0 p1 fu (0 : Int)) fun rl1 =>
  exM rl1 (fun r => some r) fun s3 =>
  some (-1 : Int)
set_option maxRecDepth 100000 in
set_option maxHeartbeats 4000000 in
theorem M_slices_Index_string_string_ok {fu : Nat} {A : Av} {p0 : List (List UInt8)} {p1 : List UInt8} {r : Int} (hr : M_slices_Index_string_string fu p0 p1 = some r) {w : World} {v0 : Value} {v1 : Value} (hA : AvOK A w) (h0 : Rep (eSl eStr) A w v0 p0) (h1 : Rep eStr A w v1 p1) :
    Calls Try.prog 155 #[v0, v1] w fun e w' => ∃ v, e = .returned v ∧ (v = .int .i64 r ∧ Fr w w') := by
  unfold M_slices_Index_string_string at hr
  obtain ⟨w0, hw0⟩ : ∃ w0, w0 = w := ⟨_, rfl⟩
  have hF : Fr w0 w := hw0 ▸ Fr.refl _
  rw [show Fr w = Fr w0 from hw0 ▸ rfl]
  clear hw0
  refine calls_of_HT2 [.tmp 4] Try.func155 Try.ntmps155 (by decide) rfl rfl (Nat.le_of_ble_eq_true rfl) ?_
  intro R hR
  have f_v0 := h0
  replace h0 : R 0 = v0 := hR 0 _ rfl
  have f_v1 := h1
  replace h1 : R 1 = v1 := hR 1 _ rfl
  clear hR
  refine HT.seq ?_
  refine HT.text (l := ⟨_, true, .raw (.int .i64 (0 : Int))⟩ :: []) (tl := []) (by kernel_rfl) (by kernel_rfl) (by kernel_rfl) ?_ ?_
  · exact
      Obls.cons (Obl.plain rfl rfl fun R' w' hw hs hd => by exact of_assign rfl) <|
      Obls.nil
  intro R w hw hs hF'
  replace h0 : R 0 = v0 := (hs 0 rfl).trans h0
  replace h1 : R 1 = v1 := (hs 1 rfl).trans h1
  replace f_v0 := f_v0.fr hw
  replace f_v1 := f_v1.fr hw
  replace hA := hA.fr hw.size
  replace hF := hF.trans hw
  clear hs hF' hw
  refine seqR_nil ?_
  refine HT.seq ?_
  refine HT.seq ?_
  refine HT.text (l := ⟨_, true, .raw v0⟩ :: ⟨_, true, .raw (.int .i64 (p0.length : Int))⟩ :: ⟨_, true, .raw (.int .i64 (0 : Int))⟩ :: []) (tl := []) (by kernel_rfl) (by kernel_rfl) (by kernel_rfl) ?_ ?_
  · exact
      Obls.cons (Obl.plain rfl rfl fun R' w' hw hs hd => by have a0 : R' 0 = v0 := (hs 0 rfl).trans h0; exact of_move a0) <|
      Obls.cons (Obl.plain rfl rfl fun R' w' hw hs hd => by have a0 : R' 6 = v0 := hd 0 _ _ _ rfl rfl rfl rfl rfl; have ra0 := (f_v0.fr hw).eq a0; exact of_len_sl (aT := #[]) ra0 Try.underlying23) <|
      Obls.cons (Obl.plain rfl rfl fun R' w' hw hs hd => by exact of_move rfl) <|
      Obls.nil
  intro R w hw hs hF'
  replace h0 : R 0 = v0 := (hs 0 rfl).trans h0
  replace h1 : R 1 = v1 := (hs 1 rfl).trans h1
  have h7 : R 7 = .int .i64 (p0.length : Int) := hF' 1 _ _ rfl rfl rfl
  have h8 : R 8 = .int .i64 (0 : Int) := hF' 2 _ _ rfl rfl rfl
  replace f_v0 := f_v0.fr hw
  replace f_v1 := f_v1.fr hw
  replace hA := hA.fr hw.size
  replace hF := hF.trans hw
  clear hs hF' hw
  refine seqR_nil ?_
  obtain ⟨rl1, q2, hr⟩ := cl_some hr
  replace q2 := q2 rfl
  refine HT.cut0 (fun R w => ∃ (s3 : Unit), rl1 = Ex.go s3 ∧ AvOK A w ∧ Fr w0 w) ?_ ?_
  · refine HT.block ?_
    refine HT.loop (fun k R w => ∃ (y4 : Int), M_slices_Index_string_string_L0 fu p0 p1 k y4 = some rl1 ∧ AvOK A w ∧ Fr w0 w ∧ R 0 = v0 ∧ R 1 = v1 ∧ R 7 = .int .i64 (p0.length : Int) ∧ R 8 = .int .i64 y4 ∧ Rep (eSl eStr) A w v0 p0 ∧ Rep eStr A w v1 p1) fu ⟨_, q2, hA, hF, h0, h1, h7, h8, f_v0, f_v1⟩ ?_
    have hr0 := hr; clear hr q2
    rintro k R w ⟨y4, hr, hA, hF, h0, h1, h7, h8, f_v0, f_v1⟩
    rcases k with _ | k
    · cases (show none = some _ from hr)
    rw [M_slices_Index_string_string_L0] at hr
    refine HT.seq ?_
    refine HT.text (l := ⟨_, true, .raw (.bool (decide (y4 < (p0.length : Int))))⟩ :: []) (tl := []) (by kernel_rfl) (by kernel_rfl) (by kernel_rfl) ?_ ?_
    · exact
        Obls.cons (Obl.plain rfl rfl fun R' w' hw hs hd => by have a0 : R' 8 = .int .i64 y4 := (hs 8 rfl).trans h8; have a1 : R' 7 = .int .i64 (p0.length : Int) := (hs 7 rfl).trans h7; exact of_lss a0 a1) <|
        Obls.nil
    intro R w hw hs hF'
    replace h0 : R 0 = v0 := (hs 0 rfl).trans h0
    replace h1 : R 1 = v1 := (hs 1 rfl).trans h1
    replace h7 : R 7 = .int .i64 (p0.length : Int) := (hs 7 rfl).trans h7
    replace h8 : R 8 = .int .i64 y4 := (hs 8 rfl).trans h8
    have h9 : R 9 = .bool (decide (y4 < (p0.length : Int))) := hF' 0 _ _ rfl rfl rfl
    replace f_v0 := f_v0.fr hw
    replace f_v1 := f_v1.fr hw
    replace hA := hA.fr hw.size
    replace hF := hF.trans hw
    clear hs hF' hw
    refine seqR_nil ?_
    refine HT.seq ?_
    refine HT.cond (decide (y4 < (p0.length : Int))) h9 (fun c5 => ?_) (fun c5 => ?_)
    · have hr := cnd_t c5 hr
      refine HT.skip ?_
      refine HT.seq ?_
      refine HT.block ?_
      refine HT.seq ?_
      refine HT.text (l := ⟨_, true, .raw (.int .i64 y4)⟩ :: ⟨_, true, .raw (.int .i64 y4)⟩ :: []) (tl := []) (by kernel_rfl) (by kernel_rfl) (by kernel_rfl) ?_ ?_
      · exact
          Obls.cons (Obl.plain rfl rfl fun R' w' hw hs hd => by have a0 : R' 8 = .int .i64 y4 := (hs 8 rfl).trans h8; exact of_move a0) <|
          Obls.cons (Obl.plain rfl rfl fun R' w' hw hs hd => by have a0 : R' 10 = .int .i64 y4 := hd 0 _ _ _ rfl rfl rfl rfl rfl; exact of_assign a0) <|
          Obls.nil
      intro R w hw hs hF'
      replace h0 : R 0 = v0 := (hs 0 rfl).trans h0
      replace h1 : R 1 = v1 := (hs 1 rfl).trans h1
      replace h7 : R 7 = .int .i64 (p0.length : Int) := (hs 7 rfl).trans h7
      replace h8 : R 8 = .int .i64 y4 := (hs 8 rfl).trans h8
      have h5 : R 5 = .int .i64 y4 := hF' 1 _ _ rfl rfl rfl
      replace f_v0 := f_v0.fr hw
      replace f_v1 := f_v1.fr hw
      replace hA := hA.fr hw.size
      replace hF := hF.trans hw
      clear hs hF' hw
      refine seqR_nil ?_
      refine HT.seq ?_
      obtain ⟨e6, hr⟩ := ck_some hr
      refine HT.text (l := ⟨_, true, .raw v1⟩ :: ⟨_, true, .raw v0⟩ :: ⟨_, true, .raw (.int .i64 y4)⟩ :: ⟨_, true, .qtr eStr A (gtD p0 y4)⟩ :: ⟨_, true, .rep eStr A (gtD p0 y4)⟩ :: ⟨_, true, .raw (.bool (p1 == (gtD p0 y4)))⟩ :: []) (tl := []) (by kernel_rfl) (by kernel_rfl) (by kernel_rfl) ?_ ?_
      · exact
          Obls.cons (Obl.plain rfl rfl fun R' w' hw hs hd => by have a0 : R' 1 = v1 := (hs 1 rfl).trans h1; exact of_move a0) <|
          Obls.cons (Obl.plain rfl rfl fun R' w' hw hs hd => by have a0 : R' 0 = v0 := (hs 0 rfl).trans h0; exact of_move a0) <|
          Obls.cons (Obl.plain rfl rfl fun R' w' hw hs hd => by have a0 : R' 5 = .int .i64 y4 := (hs 5 rfl).trans h5; exact of_move a0) <|
          Obls.cons (Obl.plain rfl rfl fun R' w' hw hs hd => by have a0 : R' 12 = v0 := hd 0 _ _ _ rfl rfl rfl rfl rfl; have a1 : R' 13 = .int .i64 y4 := hd 1 _ _ _ rfl rfl rfl rfl rfl; have ra0 := (f_v0.fr hw).eq a0; exact of_indexAddr ra0 a1 Try.underlying23 Try.sizeOf9 e6) <|
          Obls.cons (Obl.plain rfl rfl fun R' w' hw hs hd => by have a0 : QRep eStr A w' (R' 14) (gtD p0 y4) := hd 0 _ _ _ rfl rfl rfl rfl rfl; exact (of_load a0.ptr Try.isAgg9 Try.sizeOf9)) <|
          Obls.cons (Obl.plain rfl rfl fun R' w' hw hs hd => by have a0 : R' 11 = v1 := hd 0 _ _ _ rfl rfl rfl rfl rfl; have ra0 := (f_v1.fr hw).eq a0; have a1 : Rep eStr A w' (R' 15) (gtD p0 y4) := hd 1 _ _ _ rfl rfl rfl rfl rfl; exact of_seql ra0 a1) <|
          Obls.nil
      intro R w hw hs hF'
      replace h0 : R 0 = v0 := (hs 0 rfl).trans h0
      replace h1 : R 1 = v1 := (hs 1 rfl).trans h1
      replace h5 : R 5 = .int .i64 y4 := (hs 5 rfl).trans h5
      replace h7 : R 7 = .int .i64 (p0.length : Int) := (hs 7 rfl).trans h7
      replace h8 : R 8 = .int .i64 y4 := (hs 8 rfl).trans h8
      have h16 : R 16 = .bool (p1 == (gtD p0 y4)) := hF' 5 _ _ rfl rfl rfl
      replace f_v0 := f_v0.fr hw
      replace f_v1 := f_v1.fr hw
      replace hA := hA.fr hw.size
      replace hF := hF.trans hw
      clear hs hF' hw
      refine seqR_nil ?_
      refine HT.cond (p1 == (gtD p0 y4)) h16 (fun c7 => ?_) (fun c7 => ?_)
      · have hr := cnd_t c7 hr
        refine HT.seq ?_
        refine HT.text (l := ⟨_, true, .raw (.int .i64 y4)⟩ :: ⟨_, true, .raw (.int .i64 y4)⟩ :: []) (tl := []) (by kernel_rfl) (by kernel_rfl) (by kernel_rfl) ?_ ?_
        · exact
            Obls.cons (Obl.plain rfl rfl fun R' w' hw hs hd => by have a0 : R' 5 = .int .i64 y4 := (hs 5 rfl).trans h5; exact of_move a0) <|
            Obls.cons (Obl.plain rfl rfl fun R' w' hw hs hd => by have a0 : R' 17 = .int .i64 y4 := hd 0 _ _ _ rfl rfl rfl rfl rfl; exact of_assign a0) <|
            Obls.nil
        intro R w hw hs hF'
        have h4 : R 4 = .int .i64 y4 := hF' 1 _ _ rfl rfl rfl
        replace hA := hA.fr hw.size
        replace hF := hF.trans hw
        clear hs hF' hw
        refine seqR_nil ?_
        refine HT.ret ?_
        obtain rfl := Option.some.inj hr
        have hr := hr0
        replace hr : some _ = some _ := hr
        obtain rfl := Option.some.inj hr
        exact ⟨.inr rfl, [R 4], ⟨rfl, trivial⟩, h4, hF⟩
      · have hr := cnd_f c7 hr
        refine HT.skip ?_
        obtain ⟨e8, hr⟩ := ck_some hr
        refine HT.text (l := ⟨_, true, .raw (.int .i64 (y4 + (1 : Int)))⟩ :: ⟨_, true, .raw (.int .i64 (y4 + (1 : Int)))⟩ :: []) (tl := []) (by kernel_rfl) (by kernel_rfl) (by kernel_rfl) ?_ ?_
        · exact
            Obls.cons (Obl.plain rfl rfl fun R' w' hw hs hd => by have a0 : R' 8 = .int .i64 y4 := (hs 8 rfl).trans h8; exact of_add a0 rfl e8) <|
            Obls.cons (Obl.plain rfl rfl fun R' w' hw hs hd => by have a0 : R' 18 = .int .i64 (y4 + (1 : Int)) := hd 0 _ _ _ rfl rfl rfl rfl rfl; exact of_move a0) <|
            Obls.nil
        intro R w hw hs hF'
        replace h0 : R 0 = v0 := (hs 0 rfl).trans h0
        replace h1 : R 1 = v1 := (hs 1 rfl).trans h1
        replace h7 : R 7 = .int .i64 (p0.length : Int) := (hs 7 rfl).trans h7
        have h8 : R 8 = .int .i64 (y4 + (1 : Int)) := hF' 1 _ _ rfl rfl rfl
        replace f_v0 := f_v0.fr hw
        replace f_v1 := f_v1.fr hw
        replace hA := hA.fr hw.size
        replace hF := hF.trans hw
        clear hs hF' hw
        refine seqR_nil ?_
        exact Exists.intro k (And.intro (Nat.lt_succ_self k) ⟨_, hr, hA, hF, h0, h1, h7, h8, f_v0, f_v1⟩)
    · have hr := cnd_f c5 hr
      refine HT.exit ?_
      obtain rfl := Option.some.inj hr
      exact Exists.intro _ ⟨rfl, hA, hF⟩
  rintro R w ⟨s3, rfl, hA, hF⟩
  have hr := exM_go hr
  refine HT.seq ?_
  refine HT.text (l := ⟨_, true, .raw (.int .i64 (-1 : Int))⟩ :: []) (tl := []) (by kernel_rfl) (by kernel_rfl) (by kernel_rfl) ?_ ?_
  · exact
      Obls.cons (Obl.plain rfl rfl fun R' w' hw hs hd => by exact of_assign rfl) <|
      Obls.nil
  intro R w hw hs hF'
  have h4 : R 4 = .int .i64 (-1 : Int) := hF' 0 _ _ rfl rfl rfl
  replace hA := hA.fr hw.size
  replace hF := hF.trans hw
  clear hs hF' hw
  refine seqR_nil ?_
  refine HT.ret ?_
  obtain rfl := Option.some.inj hr
  exact ⟨.inr rfl, [R 4], ⟨rfl, trivial⟩, h4, hF⟩
def M_slices_Contains_string_string (fu : Nat) (p0 : List (List UInt8)) (p1 : List UInt8) : Option Bool :=
  cl true (M_slices_Index_string_string fu p0 p1) fun x1 =>
  some (decide ((0 : Int) ≤ x1))
set_option maxRecDepth 100000 in
set_option maxHeartbeats 4000000 in
theorem M_slices_Contains_string_string_ok {fu : Nat} {A : Av} {p0 : List (List UInt8)} {p1 : List UInt8} {r : Bool} (hr : M_slices_Contains_string_string fu p0 p1 = some r) {w : World} {v0 : Value} {v1 : Value} (hA : AvOK A w) (h0 : Rep (eSl eStr) A w v0 p0) (h1 : Rep eStr A w v1 p1) :
    Calls Try.prog 128 #[v0, v1] w fun e w' => ∃ v, e = .returned v ∧ (v = .bool r ∧ Fr w w') := by
  unfold M_slices_Contains_string_string at hr
  obtain ⟨w0, hw0⟩ : ∃ w0, w0 = w := ⟨_, rfl⟩
  have hF : Fr w0 w := hw0 ▸ Fr.refl _
  rw [show Fr w = Fr w0 from hw0 ▸ rfl]
  clear hw0
  refine calls_of_HT2 [.tmp 4] Try.func128 Try.ntmps128 (by decide) rfl rfl (Nat.le_of_ble_eq_true rfl) ?_
  intro R hR
  have f_v0 := h0
  replace h0 : R 0 = v0 := hR 0 _ rfl
  have f_v1 := h1
  replace h1 : R 1 = v1 := hR 1 _ rfl
  clear hR
  refine HT.seq ?_
  refine HT.text (l := ⟨_, true, .raw (.bool false)⟩ :: []) (tl := []) (by kernel_rfl) (by kernel_rfl) (by kernel_rfl) ?_ ?_
  · exact
      Obls.cons (Obl.plain rfl rfl fun R' w' hw hs hd => by exact of_assign rfl) <|
      Obls.nil
  intro R w hw hs hF'
  replace h0 : R 0 = v0 := (hs 0 rfl).trans h0
  replace h1 : R 1 = v1 := (hs 1 rfl).trans h1
  replace f_v0 := f_v0.fr hw
  replace f_v1 := f_v1.fr hw
  replace hA := hA.fr hw.size
  replace hF := hF.trans hw
  clear hs hF' hw
  refine seqR_nil ?_
  refine HT.seq ?_
  obtain ⟨x1, q2, hr⟩ := cl_some hr
  refine HT.text (l := ⟨_, true, .raw v0⟩ :: ⟨_, true, .raw v1⟩ :: ⟨_, true, .raw (.int .i64 x1)⟩ :: ⟨_, true, .raw (.bool (decide ((0 : Int) ≤ x1)))⟩ :: ⟨_, true, .raw (.bool (decide ((0 : Int) ≤ x1)))⟩ :: []) (tl := []) (by kernel_rfl) (by kernel_rfl) (by kernel_rfl) ?_ ?_
  · exact
      Obls.cons (Obl.plain rfl rfl fun R' w' hw hs hd => by have a0 : R' 0 = v0 := (hs 0 rfl).trans h0; exact of_move a0) <|
      Obls.cons (Obl.plain rfl rfl fun R' w' hw hs hd => by have a0 : R' 1 = v1 := (hs 1 rfl).trans h1; exact of_move a0) <|
      Obls.cons (Obl.plain rfl rfl fun R' w' hw hs hd => by have a0 : R' 5 = v0 := hd 0 _ _ _ rfl rfl rfl rfl rfl; have ra0 := (f_v0.fr hw).eq a0; have a1 : R' 6 = v1 := hd 1 _ _ _ rfl rfl rfl rfl rfl; have ra1 := (f_v1.fr hw).eq a1; exact of_call Try.call155 (M_slices_Index_string_string_ok (q2 rfl) (hA.fr hw.size) ra0 ra1)) <|
      Obls.cons (Obl.plain rfl rfl fun R' w' hw hs hd => by have a0 : R' 7 = .int .i64 x1 := hd 0 _ _ _ rfl rfl rfl rfl rfl; exact of_geq a0 rfl) <|
      Obls.cons (Obl.plain rfl rfl fun R' w' hw hs hd => by have a0 : R' 8 = .bool (decide ((0 : Int) ≤ x1)) := hd 0 _ _ _ rfl rfl rfl rfl rfl; exact of_assign a0) <|
      Obls.nil
  intro R w hw hs hF'
  have h4 : R 4 = .bool (decide ((0 : Int) ≤ x1)) := hF' 4 _ _ rfl rfl rfl
  replace hA := hA.fr hw.size
  replace hF := hF.trans hw
  clear hs hF' hw
  refine seqR_nil ?_
  refine HT.ret ?_
  obtain rfl := Option.some.inj hr
  exact ⟨.inr rfl, [R 4], ⟨rfl, trivial⟩, h4, hF⟩
def M_impl_CommonTokens_1 (fu : Nat) (p0 : List UInt8) (p1 : List (List UInt8)) : Option Bool :=
  cl true (M_slices_Contains_string_string fu p1 p0) fun x1 =>
  some (!x1)
set_option maxRecDepth 100000 in
set_option maxHeartbeats 4000000 in
theorem M_impl_CommonTokens_1_ok {fu : Nat} {A : Av} {p0 : List UInt8} {p1 : List (List UInt8)} {r : Bool} (hr : M_impl_CommonTokens_1 fu p0 p1 = some r) {w : World} {v0 : Value} {v1 : Value} (hA : AvOK A w) (h0 : Rep eStr A w v0 p0) (h1 : PRep (eSl eStr) A w v1 p1) :
    Calls Try.prog 127 #[v0, v1] w fun e w' => ∃ v, e = .returned v ∧ (v = .bool r ∧ Fr w w') := by
  unfold M_impl_CommonTokens_1 at hr
  obtain ⟨w0, hw0⟩ : ∃ w0, w0 = w := ⟨_, rfl⟩
  have hF : Fr w0 w := hw0 ▸ Fr.refl _
  rw [show Fr w = Fr w0 from hw0 ▸ rfl]
  have f_v1 : CRep (eSl eStr) A w w0.heap.size v1 p1 := by subst hw0; exact CRep.mk' h1
  clear hw0
  refine calls_of_HT2 [.tmp 3] Try.func127 Try.ntmps127 (by decide) rfl rfl (Nat.le_of_ble_eq_true rfl) ?_
  intro R hR
  have f_v0 := h0
  replace h0 : R 0 = v0 := hR 0 _ rfl
  replace h1 : R 1 = v1 := hR 1 _ rfl
  clear hR
  refine HT.seq ?_
  refine HT.text (l := ⟨_, true, .raw (.bool false)⟩ :: []) (tl := []) (by kernel_rfl) (by kernel_rfl) (by kernel_rfl) ?_ ?_
  · exact
      Obls.cons (Obl.plain rfl rfl fun R' w' hw hs hd => by exact of_assign rfl) <|
      Obls.nil
  intro R w hw hs hF'
  replace h0 : R 0 = v0 := (hs 0 rfl).trans h0
  replace h1 : R 1 = v1 := (hs 1 rfl).trans h1
  replace f_v1 := f_v1.fr hw
  replace f_v0 := f_v0.fr hw
  replace hA := hA.fr hw.size
  replace hF := hF.trans hw
  clear hs hF' hw
  refine seqR_nil ?_
  refine HT.seq ?_
  obtain ⟨x1, q2, hr⟩ := cl_some hr
  refine HT.text (l := ⟨_, true, .rep (eSl eStr) A p1⟩ :: ⟨_, true, .raw v0⟩ :: ⟨_, true, .raw (.bool x1)⟩ :: ⟨_, true, .raw (.bool (!x1))⟩ :: ⟨_, true, .raw (.bool (!x1))⟩ :: []) (tl := []) (by kernel_rfl) (by kernel_rfl) (by kernel_rfl) ?_ ?_
  · exact
      Obls.cons (Obl.plain rfl rfl fun R' w' hw hs hd => by have a0 : R' 1 = v1 := (hs 1 rfl).trans h1; exact (of_load ((f_v1.fr hw).ptr a0) Try.isAgg23 Try.sizeOf23)) <|
      Obls.cons (Obl.plain rfl rfl fun R' w' hw hs hd => by have a0 : R' 0 = v0 := (hs 0 rfl).trans h0; exact of_move a0) <|
      Obls.cons (Obl.plain rfl rfl fun R' w' hw hs hd => by have a0 : Rep (eSl eStr) A w' (R' 4) p1 := hd 0 _ _ _ rfl rfl rfl rfl rfl; have a1 : R' 5 = v0 := hd 1 _ _ _ rfl rfl rfl rfl rfl; have ra1 := (f_v0.fr hw).eq a1; exact of_call Try.call128 (M_slices_Contains_string_string_ok (q2 rfl) (hA.fr hw.size) a0 ra1)) <|
      Obls.cons (Obl.plain rfl rfl fun R' w' hw hs hd => by have a0 : R' 6 = .bool x1 := hd 0 _ _ _ rfl rfl rfl rfl rfl; exact of_not a0) <|
      Obls.cons (Obl.plain rfl rfl fun R' w' hw hs hd => by have a0 : R' 7 = .bool (!x1) := hd 0 _ _ _ rfl rfl rfl rfl rfl; exact of_assign a0) <|
      Obls.nil
  intro R w hw hs hF'
  have h3 : R 3 = .bool (!x1) := hF' 4 _ _ rfl rfl rfl
  replace hA := hA.fr hw.size
  replace hF := hF.trans hw
  clear hs hF' hw
  refine seqR_nil ?_
  refine HT.ret ?_
  obtain rfl := Option.some.inj hr
  exact ⟨.inr rfl, [R 3], ⟨rfl, trivial⟩, h3, hF⟩
def M_slices_IndexFunc_string_string_L0 (fu : Nat) (p0 : List (List UInt8)) (p1 : (List UInt8) → Option Bool) : Nat → Int → Option (Ex Int Unit)
  | 0, _ => none
  | k + 1, y4 =>
    bif (decide (y4 < (p0.length : Int))) then (
      ck (inR y4 p0.length) <|
      cl true (p1 (gtD p0 y4)) fun x7 =>
      bif x7 then (
        some (Ex.ret y4)
      ) else (
        ck (i64B (y4 + (1 : Int))) <|
        M_slices_IndexFunc_string_string_L0 fu p0 p1 k (y4 + (1 : Int))
      )
    ) else (
      some (Ex.go ())
    )
def M_slices_IndexFunc_string_string (fu : Nat) (p0 : List (List UInt8)) (p1 : (List UInt8) → Option Bool) : Option Int :=
  cl true (M_slices_IndexFunc_string_string_L0 fu p0 p1 fu (0 : Int)) fun rl1 =>
  exM rl1 (fun r => some r) fun s3 =>
  some (-1 : Int)
set_option maxRecDepth 100000 in
set_option maxHeartbeats 4000000 in
theorem M_slices_IndexFunc_string_string_ok {fu : Nat} {A : Av} {p0 : List (List UInt8)} {p1 : (List UInt8) → Option Bool} {r : Int} (hr : M_slices_IndexFunc_string_string fu p0 p1 = some r) {w : World} {v0 : Value} {v1 : Value} (hA : AvOK A w) (h0 : Rep (eSl eStr) A w v0 p0) (h1 : FnB1 Try.prog eStr (fun r => .raw (.bool r)) A w v1 p1) :
    Calls Try.prog 154 #[v0, v1] w fun e w' => ∃ v, e = .returned v ∧ (v = .int .i64 r ∧ Fr w w') := by
  unfold M_slices_IndexFunc_string_string at hr
  obtain ⟨w0, hw0⟩ : ∃ w0, w0 = w := ⟨_, rfl⟩
  have hF : Fr w0 w := hw0 ▸ Fr.refl _
  rw [show Fr w = Fr w0 from hw0 ▸ rfl]
  have f_v1 : FnB1 Try.prog eStr (fun r => .raw (.bool r)) A w0 v1 p1 := hw0 ▸ h1
  clear hw0
  refine calls_of_HT2 [.tmp 4] Try.func154 Try.ntmps154 (by decide) rfl rfl (Nat.le_of_ble_eq_true rfl) ?_
  intro R hR
  have f_v0 := h0
  replace h0 : R 0 = v0 := hR 0 _ rfl
  replace h1 : R 1 = v1 := hR 1 _ rfl
  clear hR
  refine HT.seq ?_
  refine HT.text (l := ⟨_, true, .raw (.int .i64 (0 : Int))⟩ :: []) (tl := []) (by kernel_rfl) (by kernel_rfl) (by kernel_rfl) ?_ ?_
  · exact
      Obls.cons (Obl.plain rfl rfl fun R' w' hw hs hd => by exact of_assign rfl) <|
      Obls.nil
  intro R w hw hs hF'
  replace h0 : R 0 = v0 := (hs 0 rfl).trans h0
  replace h1 : R 1 = v1 := (hs 1 rfl).trans h1
  replace f_v0 := f_v0.fr hw
  replace hA := hA.fr hw.size
  replace hF := hF.trans hw
  clear hs hF' hw
  refine seqR_nil ?_
  refine HT.seq ?_
  refine HT.seq ?_
  refine HT.text (l := ⟨_, true, .raw v0⟩ :: ⟨_, true, .raw (.int .i64 (p0.length : Int))⟩ :: ⟨_, true, .raw (.int .i64 (0 : Int))⟩ :: []) (tl := []) (by kernel_rfl) (by kernel_rfl) (by kernel_rfl) ?_ ?_
  · exact
      Obls.cons (Obl.plain rfl rfl fun R' w' hw hs hd => by have a0 : R' 0 = v0 := (hs 0 rfl).trans h0; exact of_move a0) <|
      Obls.cons (Obl.plain rfl rfl fun R' w' hw hs hd => by have a0 : R' 6 = v0 := hd 0 _ _ _ rfl rfl rfl rfl rfl; have ra0 := (f_v0.fr hw).eq a0; exact of_len_sl (aT := #[]) ra0 Try.underlying23) <|
      Obls.cons (Obl.plain rfl rfl fun R' w' hw hs hd => by exact of_move rfl) <|
      Obls.nil
  intro R w hw hs hF'
  replace h0 : R 0 = v0 := (hs 0 rfl).trans h0
  replace h1 : R 1 = v1 := (hs 1 rfl).trans h1
  have h7 : R 7 = .int .i64 (p0.length : Int) := hF' 1 _ _ rfl rfl rfl
  have h8 : R 8 = .int .i64 (0 : Int) := hF' 2 _ _ rfl rfl rfl
  replace f_v0 := f_v0.fr hw
  replace hA := hA.fr hw.size
  replace hF := hF.trans hw
  clear hs hF' hw
  refine seqR_nil ?_
  obtain ⟨rl1, q2, hr⟩ := cl_some hr
  replace q2 := q2 rfl
  refine HT.cut0 (fun R w => ∃ (s3 : Unit), rl1 = Ex.go s3 ∧ AvOK A w ∧ Fr w0 w) ?_ ?_
  · refine HT.block ?_
    refine HT.loop (fun k R w => ∃ (y4 : Int), M_slices_IndexFunc_string_string_L0 fu p0 p1 k y4 = some rl1 ∧ AvOK A w ∧ Fr w0 w ∧ R 0 = v0 ∧ R 1 = v1 ∧ R 7 = .int .i64 (p0.length : Int) ∧ R 8 = .int .i64 y4 ∧ Rep (eSl eStr) A w v0 p0) fu ⟨_, q2, hA, hF, h0, h1, h7, h8, f_v0⟩ ?_
    have hr0 := hr; clear hr q2
    rintro k R w ⟨y4, hr, hA, hF, h0, h1, h7, h8, f_v0⟩
    rcases k with _ | k
    · cases (show none = some _ from hr)
    rw [M_slices_IndexFunc_string_string_L0] at hr
    refine HT.seq ?_
    refine HT.text (l := ⟨_, true, .raw (.bool (decide (y4 < (p0.length : Int))))⟩ :: []) (tl := []) (by kernel_rfl) (by kernel_rfl) (by kernel_rfl) ?_ ?_
    · exact
        Obls.cons (Obl.plain rfl rfl fun R' w' hw hs hd => by have a0 : R' 8 = .int .i64 y4 := (hs 8 rfl).trans h8; have a1 : R' 7 = .int .i64 (p0.length : Int) := (hs 7 rfl).trans h7; exact of_lss a0 a1) <|
        Obls.nil
    intro R w hw hs hF'
    replace h0 : R 0 = v0 := (hs 0 rfl).trans h0
    replace h1 : R 1 = v1 := (hs 1 rfl).trans h1
    replace h7 : R 7 = .int .i64 (p0.length : Int) := (hs 7 rfl).trans h7
    replace h8 : R 8 = .int .i64 y4 := (hs 8 rfl).trans h8
    have h9 : R 9 = .bool (decide (y4 < (p0.length : Int))) := hF' 0 _ _ rfl rfl rfl
    replace f_v0 := f_v0.fr hw
    replace hA := hA.fr hw.size
    replace hF := hF.trans hw
    clear hs hF' hw
    refine seqR_nil ?_
    refine HT.seq ?_
    refine HT.cond (decide (y4 < (p0.length : Int))) h9 (fun c5 => ?_) (fun c5 => ?_)
    · have hr := cnd_t c5 hr
      refine HT.skip ?_
      refine HT.seq ?_
      refine HT.block ?_
      refine HT.seq ?_
      refine HT.text (l := ⟨_, true, .raw (.int .i64 y4)⟩ :: ⟨_, true, .raw (.int .i64 y4)⟩ :: []) (tl := []) (by kernel_rfl) (by kernel_rfl) (by kernel_rfl) ?_ ?_
      · exact
          Obls.cons (Obl.plain rfl rfl fun R' w' hw hs hd => by have a0 : R' 8 = .int .i64 y4 := (hs 8 rfl).trans h8; exact of_move a0) <|
          Obls.cons (Obl.plain rfl rfl fun R' w' hw hs hd => by have a0 : R' 10 = .int .i64 y4 := hd 0 _ _ _ rfl rfl rfl rfl rfl; exact of_assign a0) <|
          Obls.nil
      intro R w hw hs hF'
      replace h0 : R 0 = v0 := (hs 0 rfl).trans h0
      replace h1 : R 1 = v1 := (hs 1 rfl).trans h1
      replace h7 : R 7 = .int .i64 (p0.length : Int) := (hs 7 rfl).trans h7
      replace h8 : R 8 = .int .i64 y4 := (hs 8 rfl).trans h8
      have h5 : R 5 = .int .i64 y4 := hF' 1 _ _ rfl rfl rfl
      replace f_v0 := f_v0.fr hw
      replace hA := hA.fr hw.size
      replace hF := hF.trans hw
      clear hs hF' hw
      refine seqR_nil ?_
      refine HT.seq ?_
      obtain ⟨e6, hr⟩ := ck_some hr
      obtain ⟨x7, q8, hr⟩ := cl_some hr
      refine HT.text (l := ⟨_, true, .raw v1⟩ :: ⟨_, true, .raw v0⟩ :: ⟨_, true, .raw (.int .i64 y4)⟩ :: ⟨_, true, .qtr eStr A (gtD p0 y4)⟩ :: ⟨_, true, .rep eStr A (gtD p0 y4)⟩ :: ⟨_, true, .raw (.bool x7)⟩ :: []) (tl := []) (by kernel_rfl) (by kernel_rfl) (by kernel_rfl) ?_ ?_
      · exact
          Obls.cons (Obl.plain rfl rfl fun R' w' hw hs hd => by have a0 : R' 1 = v1 := (hs 1 rfl).trans h1; exact of_move a0) <|
          Obls.cons (Obl.plain rfl rfl fun R' w' hw hs hd => by have a0 : R' 0 = v0 := (hs 0 rfl).trans h0; exact of_move a0) <|
          Obls.cons (Obl.plain rfl rfl fun R' w' hw hs hd => by have a0 : R' 5 = .int .i64 y4 := (hs 5 rfl).trans h5; exact of_move a0) <|
          Obls.cons (Obl.plain rfl rfl fun R' w' hw hs hd => by have a0 : R' 12 = v0 := hd 0 _ _ _ rfl rfl rfl rfl rfl; have a1 : R' 13 = .int .i64 y4 := hd 1 _ _ _ rfl rfl rfl rfl rfl; have ra0 := (f_v0.fr hw).eq a0; exact of_indexAddr ra0 a1 Try.underlying23 Try.sizeOf9 e6) <|
          Obls.cons (Obl.plain rfl rfl fun R' w' hw hs hd => by have a0 : QRep eStr A w' (R' 14) (gtD p0 y4) := hd 0 _ _ _ rfl rfl rfl rfl rfl; exact (of_load a0.ptr Try.isAgg9 Try.sizeOf9)) <|
          Obls.cons (Obl.plain rfl rfl fun R' w' hw hs hd => by have a0 : R' 11 = v1 := hd 0 _ _ _ rfl rfl rfl rfl rfl; have a1 : Rep eStr A w' (R' 15) (gtD p0 y4) := hd 1 _ _ _ rfl rfl rfl rfl rfl; exact of_callv a0 (f_v1 _ _ (q8 rfl) _ _ ((hF.trans hw).ch _) (hA.fr hw.size) a1)) <|
          Obls.nil
      intro R w hw hs hF'
      replace h0 : R 0 = v0 := (hs 0 rfl).trans h0
      replace h1 : R 1 = v1 := (hs 1 rfl).trans h1
      replace h5 : R 5 = .int .i64 y4 := (hs 5 rfl).trans h5
      replace h7 : R 7 = .int .i64 (p0.length : Int) := (hs 7 rfl).trans h7
      replace h8 : R 8 = .int .i64 y4 := (hs 8 rfl).trans h8
      have h16 : R 16 = .bool x7 := hF' 5 _ _ rfl rfl rfl
      replace f_v0 := f_v0.fr hw
      replace hA := hA.fr hw.size
      replace hF := hF.trans hw
      clear hs hF' hw
      refine seqR_nil ?_
      refine HT.cond x7 h16 (fun c9 => ?_) (fun c9 => ?_)
      · have hr := cnd_t c9 hr
        refine HT.seq ?_
        refine HT.text (l := ⟨_, true, .raw (.int .i64 y4)⟩ :: ⟨_, true, .raw (.int .i64 y4)⟩ :: []) (tl := []) (by kernel_rfl) (by kernel_rfl) (by kernel_rfl) ?_ ?_
        · exact
            Obls.cons (Obl.plain rfl rfl fun R' w' hw hs hd => by have a0 : R' 5 = .int .i64 y4 := (hs 5 rfl).trans h5; exact of_move a0) <|
            Obls.cons (Obl.plain rfl rfl fun R' w' hw hs hd => by have a0 : R' 17 = .int .i64 y4 := hd 0 _ _ _ rfl rfl rfl rfl rfl; exact of_assign a0) <|
            Obls.nil
        intro R w hw hs hF'
        have h4 : R 4 = .int .i64 y4 := hF' 1 _ _ rfl rfl rfl
        replace hA := hA.fr hw.size
        replace hF := hF.trans hw
        clear hs hF' hw
        refine seqR_nil ?_
        refine HT.ret ?_
        obtain rfl := Option.some.inj hr
        have hr := hr0
        replace hr : some _ = some _ := hr
        obtain rfl := Option.some.inj hr
        exact ⟨.inr rfl, [R 4], ⟨rfl, trivial⟩, h4, hF⟩
      · have hr := cnd_f c9 hr
        refine HT.skip ?_
        obtain ⟨e10, hr⟩ := ck_some hr
        refine HT.text (l := ⟨_, true, .raw (.int .i64 (y4 + (1 : Int)))⟩ :: ⟨_, true, .raw (.int .i64 (y4 + (1 : Int)))⟩ :: []) (tl := []) (by kernel_rfl) (by kernel_rfl) (by kernel_rfl) ?_ ?_
        · exact
            Obls.cons (Obl.plain rfl rfl fun R' w' hw hs hd => by have a0 : R' 8 = .int .i64 y4 := (hs 8 rfl).trans h8; exact of_add a0 rfl e10) <|
            Obls.cons (Obl.plain rfl rfl fun R' w' hw hs hd => by have a0 : R' 18 = .int .i64 (y4 + (1 : Int)) := hd 0 _ _ _ rfl rfl rfl rfl rfl; exact of_move a0) <|
            Obls.nil
        intro R w hw hs hF'
        replace h0 : R 0 = v0 := (hs 0 rfl).trans h0
        replace h1 : R 1 = v1 := (hs 1 rfl).trans h1
        replace h7 : R 7 = .int .i64 (p0.length : Int) := (hs 7 rfl).trans h7
        have h8 : R 8 = .int .i64 (y4 + (1 : Int)) := hF' 1 _ _ rfl rfl rfl
        replace f_v0 := f_v0.fr hw
        replace hA := hA.fr hw.size
        replace hF := hF.trans hw
        clear hs hF' hw
        refine seqR_nil ?_
        exact Exists.intro k (And.intro (Nat.lt_succ_self k) ⟨_, hr, hA, hF, h0, h1, h7, h8, f_v0⟩)
    · have hr := cnd_f c5 hr
      refine HT.exit ?_
      obtain rfl := Option.some.inj hr
      exact Exists.intro _ ⟨rfl, hA, hF⟩
  rintro R w ⟨s3, rfl, hA, hF⟩
  have hr := exM_go hr
  refine HT.seq ?_
  refine HT.text (l := ⟨_, true, .raw (.int .i64 (-1 : Int))⟩ :: []) (tl := []) (by kernel_rfl) (by kernel_rfl) (by kernel_rfl) ?_ ?_
  · exact
      Obls.cons (Obl.plain rfl rfl fun R' w' hw hs hd => by exact of_assign rfl) <|
      Obls.nil
  intro R w hw hs hF'
  have h4 : R 4 = .int .i64 (-1 : Int) := hF' 0 _ _ rfl rfl rfl
  replace hA := hA.fr hw.size
  replace hF := hF.trans hw
  clear hs hF' hw
  refine seqR_nil ?_
  refine HT.ret ?_
  obtain rfl := Option.some.inj hr
  exact ⟨.inr rfl, [R 4], ⟨rfl, trivial⟩, h4, hF⟩
def M_slices_DeleteFunc_string_string_L0 (fu : Nat) (p1 : (List UInt8) → Option Bool) : Nat → Int → Int → (List (List UInt8)) → Option (Int × (List (List UInt8)))
  | 0, _, _, _ => none
  | k + 1, y8, y9, y10 =>
    bif (decide (y9 < (y10.length : Int))) then (
      ck (inR y9 y10.length) <|
      cl true (p1 (gtD y10 y9)) fun x14 =>
      bif (!x14) then (
        ck (inR y8 y10.length) <|
        ck (i64B (y8 + (1 : Int))) <|
        ck (i64B (y9 + (1 : Int))) <|
        M_slices_DeleteFunc_string_string_L0 fu p1 k (y8 + (1 : Int)) (y9 + (1 : Int)) (y10.set y8.toNat (gtD y10 y9))
      ) else (
        ck (i64B (y9 + (1 : Int))) <|
        M_slices_DeleteFunc_string_string_L0 fu p1 k y8 (y9 + (1 : Int)) y10
      )
    ) else (
      some (y8, y10)
    )
def M_slices_DeleteFunc_string_string (fu : Nat) (p0 : List (List UInt8)) (p1 : (List UInt8) → Option Bool) : Option (List (List UInt8)) :=
  cl true (M_slices_IndexFunc_string_string fu p0 p1) fun x1 =>
  bif (x1 == (-1 : Int)) then (
    some p0
  ) else (
    ck (i64B (x1 + (1 : Int))) <|
    cl true (M_slices_DeleteFunc_string_string_L0 fu p1 fu x1 (x1 + (1 : Int)) p0) fun s7 =>
    ck (subR s7.1 (s7.2.length : Int) s7.2.length) <|
    bd ((s7.2.length : Int).toNat - s7.1.toNat) fun x24 =>
    ck (subR s7.1 s7.2.length s7.2.length) <|
    ck (x24 == s7.2.length - s7.1.toNat) <|
    ck (subR 0 s7.1 (s7.2.take s7.1.toNat ++ List.replicate (s7.2.length - s7.1.toNat) ([] : List UInt8)).length) <|
    some (subL (s7.2.take s7.1.toNat ++ List.replicate (s7.2.length - s7.1.toNat) ([] : List UInt8)) 0 s7.1)
  )
set_option maxRecDepth 100000 in
set_option maxHeartbeats 4000000 in
theorem M_slices_DeleteFunc_string_string_ok {fu : Nat} {A0 : Av} {p0 : List (List UInt8)} {p1 : (List UInt8) → Option Bool} {r : List (List UInt8)} (hr : M_slices_DeleteFunc_string_string fu p0 p1 = some r) {w : World} {v0 : Value} {v1 : Value} {B0 : Nat} (hA : AvOK A0 w) (hN : ∀ b o, A0 b o → ¬ ownsB v0 b) (h0 : (Res.vec B0 9 eStr p0).ok A0 v0 w) (h1 : FnK1 Try.prog eStr (fun r => .raw (.bool r)) A0 (ownsB v0) w v1 p1) :
    Calls Try.prog 126 #[v0, v1] w fun e w' => ∃ v, e = .returned v ∧ Took (addA A0 v0) true v0 (.vec B0 9 eStr r) (fun _ => .any) w v w' := by
  unfold M_slices_DeleteFunc_string_string at hr
  obtain ⟨w0, hw0⟩ : ∃ w0, w0 = w := ⟨_, rfl⟩
  have hF : Ch (ownsB v0) w0 w := hw0 ▸ Ch.refl _ _
  have hA0 : ∀ b o, A0 b o → b < w0.heap.size := fun b o h => hw0 ▸ hA b o h
  have hA00 : AvOK A0 w0 := hA0
  rw [show Took (addA A0 v0) true v0 (.vec B0 9 eStr r) (fun _ => .any) w = Took (addA A0 v0) true v0 (.vec B0 9 eStr r) (fun _ => .any) w0 from hw0 ▸ rfl]
  have f_v1 : FnK1 Try.prog eStr (fun r => .raw (.bool r)) A0 (ownsB v0) w0 v1 p1 := hw0 ▸ h1
  clear hw0
  obtain ⟨A, hAe⟩ : ∃ A, A = addA A0 v0 := ⟨_, rfl⟩
  have hAA : ∀ b o, A0 b o → A b o := fun b o h => hAe ▸ .inl h
  replace hA : AvOK A w := hAe ▸ hA.one h0
  have hO : IniOK [ob v0 (.vec B0 9 eStr p0)] A w := hAe ▸ IniOK.one h0 (fun _ _ _ _ _ h => h)
  refine calls_of_HT2 [.tmp 4] Try.func126 Try.ntmps126 (by decide) rfl rfl (Nat.le_of_ble_eq_true rfl) ?_
  intro R hR
  replace h0 : R 0 = v0 := hR 0 _ rfl
  replace h1 : R 1 = v1 := hR 1 _ rfl
  clear hR hAe
  refine HT.seq ?_
  refine HT.text (l := ⟨_, true, .any⟩ :: []) (tl := []) (by kernel_rfl) (by kernel_rfl) (by kernel_rfl) ?_ ?_
  · exact
      Obls.cons (Obl.plain rfl rfl fun R' w' hw hs hd => by exact of_assign trivial) <|
      Obls.nil
  intro R w hw hs hF'
  replace h0 : R 0 = v0 := (hs 0 rfl).trans h0
  replace h1 : R 1 = v1 := (hs 1 rfl).trans h1
  replace hO := hO.fr hw
  replace hA := hA.fr hw.size
  replace hF := hF.tr (hw.ch noB) fun _ h => False.elim h
  clear hs hF' hw
  refine seqR_nil ?_
  refine HT.seq ?_
  obtain ⟨x1, q2, hr⟩ := cl_some hr
  refine HT.text (l := ⟨_, true, .raw v0⟩ :: ⟨_, true, .raw v1⟩ :: ⟨_, true, .raw (.int .i64 x1)⟩ :: ⟨_, true, .raw (.int .i64 x1)⟩ :: []) (tl := []) (by kernel_rfl) (by kernel_rfl) (by kernel_rfl) ?_ ?_
  · exact
      Obls.cons (Obl.plain rfl rfl fun R' w' hw hs hd => by have a0 : R' 0 = v0 := (hs 0 rfl).trans h0; exact of_move a0) <|
      Obls.cons (Obl.plain rfl rfl fun R' w' hw hs hd => by have a0 : R' 1 = v1 := (hs 1 rfl).trans h1; exact of_move a0) <|
      Obls.cons (Obl.plain rfl rfl fun R' w' hw hs hd => by have a0 : R' 8 = v0 := hd 0 _ _ _ rfl rfl rfl rfl rfl; have ra0 := (vec_repK ((hO.fr hw).ok 0 _ rfl).1 hAA hA0 hN (fun k h => .inr h)).eq a0; have a1 : R' 9 = v1 := hd 1 _ _ _ rfl rfl rfl rfl rfl; exact of_call Try.call154 (M_slices_IndexFunc_string_string_ok (q2 rfl) (hA00.fr ((Nat.le_trans hF.size hw.size))) ra0 ((f_v1.on (hF.tr (hw.ch noB) fun _ h => False.elim h) (fun _ _ h => False.elim h) (fun _ _ h => h)).eq a1))) <|
      Obls.cons (Obl.plain rfl rfl fun R' w' hw hs hd => by have a0 : R' 10 = .int .i64 x1 := hd 0 _ _ _ rfl rfl rfl rfl rfl; exact of_assign a0) <|
      Obls.nil
  intro R w hw hs hF'
  replace h0 : R 0 = v0 := (hs 0 rfl).trans h0
  replace h1 : R 1 = v1 := (hs 1 rfl).trans h1
  have h5 : R 5 = .int .i64 x1 := hF' 3 _ _ rfl rfl rfl
  replace hO := hO.fr hw
  replace hA := hA.fr hw.size
  replace hF := hF.tr (hw.ch noB) fun _ h => False.elim h
  clear hs hF' hw
  refine seqR_nil ?_
  refine HT.seq ?_
  refine HT.seq ?_
  refine HT.text (l := ⟨_, true, .raw (.int .i64 x1)⟩ :: ⟨_, true, .raw (.bool (x1 == (-1 : Int)))⟩ :: []) (tl := []) (by kernel_rfl) (by kernel_rfl) (by kernel_rfl) ?_ ?_
  · exact
      Obls.cons (Obl.plain rfl rfl fun R' w' hw hs hd => by have a0 : R' 5 = .int .i64 x1 := (hs 5 rfl).trans h5; exact of_move a0) <|
      Obls.cons (Obl.plain rfl rfl fun R' w' hw hs hd => by have a0 : R' 11 = .int .i64 x1 := hd 0 _ _ _ rfl rfl rfl rfl rfl; exact of_eql a0 rfl) <|
      Obls.nil
  intro R w hw hs hF'
  replace h0 : R 0 = v0 := (hs 0 rfl).trans h0
  replace h1 : R 1 = v1 := (hs 1 rfl).trans h1
  replace h5 : R 5 = .int .i64 x1 := (hs 5 rfl).trans h5
  have h12 : R 12 = .bool (x1 == (-1 : Int)) := hF' 1 _ _ rfl rfl rfl
  replace hO := hO.fr hw
  replace hA := hA.fr hw.size
  replace hF := hF.tr (hw.ch noB) fun _ h => False.elim h
  clear hs hF' hw
  refine seqR_nil ?_
  refine HT.cond (x1 == (-1 : Int)) h12 (fun c3 => ?_) (fun c3 => ?_)
  · have hr := cnd_t c3 hr
    refine HT.seq ?_
    refine HT.text (l := ⟨_, true, .raw v0⟩ :: ⟨_, true, .raw v0⟩ :: []) (tl := []) (by kernel_rfl) (by kernel_rfl) (by kernel_rfl) ?_ ?_
    · exact
        Obls.cons (Obl.plain rfl rfl fun R' w' hw hs hd => by have a0 : R' 0 = v0 := (hs 0 rfl).trans h0; exact of_move a0) <|
        Obls.cons (Obl.plain rfl rfl fun R' w' hw hs hd => by have a0 : R' 13 = v0 := hd 0 _ _ _ rfl rfl rfl rfl rfl; exact of_assign a0) <|
        Obls.nil
    intro R w hw hs hF'
    have h4 : R 4 = v0 := hF' 1 _ _ rfl rfl rfl
    replace hO := hO.fr hw
    replace hA := hA.fr hw.size
    replace hF := hF.tr (hw.ch noB) fun _ h => False.elim h
    clear hs hF' hw
    refine seqR_nil ?_
    refine HT.ret ?_
    obtain rfl := Option.some.inj hr
    exact ⟨.inr rfl, [R 4], ⟨rfl, trivial⟩, by show Took _ true _ _ _ w0 (R 4) w; rw [h4]; exact took_post (fun k h o => .inr h) hF (hO.ok 0 _ rfl).1 (hO.own_ge (⟨.inr (fun k h => .inr h), trivial⟩) (i := 0) rfl) (fun _ _ _ _ _ h => h)⟩
  · have hr := cnd_f c3 hr
    refine HT.skip ?_
    refine HT.seq ?_
    refine HT.seq ?_
    obtain ⟨e4, hr⟩ := ck_some hr
    refine HT.text (l := ⟨_, true, .raw (.int .i64 x1)⟩ :: ⟨_, true, .raw (.int .i64 (x1 + (1 : Int)))⟩ :: ⟨_, true, .raw (.int .i64 (x1 + (1 : Int)))⟩ :: []) (tl := []) (by kernel_rfl) (by kernel_rfl) (by kernel_rfl) ?_ ?_
    · exact
        Obls.cons (Obl.plain rfl rfl fun R' w' hw hs hd => by have a0 : R' 5 = .int .i64 x1 := (hs 5 rfl).trans h5; exact of_move a0) <|
        Obls.cons (Obl.plain rfl rfl fun R' w' hw hs hd => by have a0 : R' 14 = .int .i64 x1 := hd 0 _ _ _ rfl rfl rfl rfl rfl; exact of_add a0 rfl e4) <|
        Obls.cons (Obl.plain rfl rfl fun R' w' hw hs hd => by have a0 : R' 15 = .int .i64 (x1 + (1 : Int)) := hd 0 _ _ _ rfl rfl rfl rfl rfl; exact of_assign a0) <|
        Obls.nil
    intro R w hw hs hF'
    replace h0 : R 0 = v0 := (hs 0 rfl).trans h0
    replace h1 : R 1 = v1 := (hs 1 rfl).trans h1
    replace h5 : R 5 = .int .i64 x1 := (hs 5 rfl).trans h5
    have h6 : R 6 = .int .i64 (x1 + (1 : Int)) := hF' 2 _ _ rfl rfl rfl
    replace hO := hO.fr hw
    replace hA := hA.fr hw.size
    replace hF := hF.tr (hw.ch noB) fun _ h => False.elim h
    clear hs hF' hw
    refine seqR_nil ?_
    obtain ⟨rl5, q6, hr⟩ := cl_some hr
    replace q6 := q6 rfl
    refine HT.cut0 (fun R w => ∃ A : Av, ∃ (s7 : Int × (List (List UInt8))), rl5 = s7 ∧ AvOK A w ∧ Ch (ownsB v0) w0 w ∧ (∀ b o, A0 b o → A b o) ∧ IniOK [ob v0 (.vec B0 9 eStr s7.2)] A w ∧ R 0 = v0 ∧ R 5 = .int .i64 s7.1) ?_ ?_
    · refine HT.block ?_
      refine HT.loop (fun k R w => ∃ A : Av, ∃ (y8 : Int) (y9 : Int) (y10 : List (List UInt8)), M_slices_DeleteFunc_string_string_L0 fu p1 k y8 y9 y10 = some rl5 ∧ AvOK A w ∧ Ch (ownsB v0) w0 w ∧ (∀ b o, A0 b o → A b o) ∧ IniOK [ob v0 (.vec B0 9 eStr y10)] A w ∧ R 0 = v0 ∧ R 1 = v1 ∧ R 5 = .int .i64 y8 ∧ R 6 = .int .i64 y9) fu ⟨_, _, _, _, q6, hA, hF, hAA, hO, h0, h1, h5, h6⟩ ?_
      have hr0 := hr; clear hr q6
      rintro k R w ⟨A, y8, y9, y10, hr, hA, hF, hAA, hO, h0, h1, h5, h6⟩
      rcases k with _ | k
      · cases (show none = some _ from hr)
      rw [M_slices_DeleteFunc_string_string_L0] at hr
      refine HT.seq ?_
      refine HT.seq ?_
      refine HT.text (l := ⟨_, true, .raw (.int .i64 y9)⟩ :: ⟨_, true, .raw v0⟩ :: ⟨_, true, .raw (.int .i64 (y10.length : Int))⟩ :: ⟨_, true, .raw (.bool (decide (y9 < (y10.length : Int))))⟩ :: []) (tl := []) (by kernel_rfl) (by kernel_rfl) (by kernel_rfl) ?_ ?_
      · exact
          Obls.cons (Obl.plain rfl rfl fun R' w' hw hs hd => by have a0 : R' 6 = .int .i64 y9 := (hs 6 rfl).trans h6; exact of_move a0) <|
          Obls.cons (Obl.plain rfl rfl fun R' w' hw hs hd => by have a0 : R' 0 = v0 := (hs 0 rfl).trans h0; exact of_move a0) <|
          Obls.cons (Obl.plain rfl rfl fun R' w' hw hs hd => by have a0 : R' 17 = v0 := hd 0 _ _ _ rfl rfl rfl rfl rfl; exact of_len_vec (hO.ok 0 _ rfl).1 a0 Try.underlying23) <|
          Obls.cons (Obl.plain rfl rfl fun R' w' hw hs hd => by have a0 : R' 16 = .int .i64 y9 := hd 0 _ _ _ rfl rfl rfl rfl rfl; have a1 : R' 18 = .int .i64 (y10.length : Int) := hd 1 _ _ _ rfl rfl rfl rfl rfl; exact of_lss a0 a1) <|
          Obls.nil
      intro R w hw hs hF'
      replace h0 : R 0 = v0 := (hs 0 rfl).trans h0
      replace h1 : R 1 = v1 := (hs 1 rfl).trans h1
      replace h5 : R 5 = .int .i64 y8 := (hs 5 rfl).trans h5
      replace h6 : R 6 = .int .i64 y9 := (hs 6 rfl).trans h6
      have h19 : R 19 = .bool (decide (y9 < (y10.length : Int))) := hF' 3 _ _ rfl rfl rfl
      replace hO := hO.fr hw
      replace hA := hA.fr hw.size
      replace hF := hF.tr (hw.ch noB) fun _ h => False.elim h
      clear hs hF' hw
      refine seqR_nil ?_
      refine HT.cond (decide (y9 < (y10.length : Int))) h19 (fun c11 => ?_) (fun c11 => ?_)
      · have hr := cnd_t c11 hr
        refine HT.skip ?_
        refine HT.seq ?_
        refine HT.block ?_
        refine HT.seq ?_
        obtain ⟨e12, hr⟩ := ck_some hr
        refine HT.text (l := ⟨_, true, .raw v0⟩ :: ⟨_, true, .raw (.int .i64 y9)⟩ :: ⟨_, true, .raw (vptr v0 (y9.toNat * 1))⟩ :: ⟨_, true, .rep eStr A (gtD y10 y9)⟩ :: ⟨_, true, .rep eStr A (gtD y10 y9)⟩ :: []) (tl := []) (by kernel_rfl) (by kernel_rfl) (by kernel_rfl) ?_ ?_
        · exact
            Obls.cons (Obl.plain rfl rfl fun R' w' hw hs hd => by have a0 : R' 0 = v0 := (hs 0 rfl).trans h0; exact of_move a0) <|
            Obls.cons (Obl.plain rfl rfl fun R' w' hw hs hd => by have a0 : R' 6 = .int .i64 y9 := (hs 6 rfl).trans h6; exact of_move a0) <|
            Obls.cons (Obl.plain rfl rfl fun R' w' hw hs hd => by have a0 : R' 22 = v0 := hd 0 _ _ _ rfl rfl rfl rfl rfl; have a1 : R' 23 = .int .i64 y9 := hd 1 _ _ _ rfl rfl rfl rfl rfl; exact of_indexAddr_vec (hO.ok 0 _ rfl).1 a0 a1 Try.underlying23 Try.sizeOf9 e12 rfl) <|
            Obls.cons (Obl.plain rfl rfl fun R' w' hw hs hd => by have a0 : R' 24 = (vptr v0 (y9.toNat * 1)) := hd 0 _ _ _ rfl rfl rfl rfl rfl; exact (of_load_vec ((hO.fr hw).ok 0 _ rfl).1 a0 e12 rfl (Fld.id _) rfl Try.isAgg9 Try.sizeOf9)) <|
            Obls.cons (Obl.plain rfl rfl fun R' w' hw hs hd => by have a0 : Rep eStr A w' (R' 25) (gtD y10 y9) := hd 0 _ _ _ rfl rfl rfl rfl rfl; exact of_assign a0) <|
            Obls.nil
        intro R w hw hs hF'
        replace h0 : R 0 = v0 := (hs 0 rfl).trans h0
        replace h1 : R 1 = v1 := (hs 1 rfl).trans h1
        replace h5 : R 5 = .int .i64 y8 := (hs 5 rfl).trans h5
        replace h6 : R 6 = .int .i64 y9 := (hs 6 rfl).trans h6
        obtain ⟨u13, h7, f_u13⟩ : ∃ u, R 7 = u ∧ Rep eStr A w u (gtD y10 y9) := ⟨_, rfl, hF' 4 _ _ rfl rfl rfl⟩
        replace hO := hO.fr hw
        replace hA := hA.fr hw.size
        replace hF := hF.tr (hw.ch noB) fun _ h => False.elim h
        clear hs hF' hw
        refine seqR_nil ?_
        refine HT.seq ?_
        obtain ⟨x14, q15, hr⟩ := cl_some hr
        refine HT.text (l := ⟨_, true, .raw v1⟩ :: ⟨_, true, .raw u13⟩ :: ⟨_, true, .raw (.bool x14)⟩ :: ⟨_, true, .raw (.bool (!x14))⟩ :: []) (tl := []) (by kernel_rfl) (by kernel_rfl) (by kernel_rfl) ?_ ?_
        · exact
            Obls.cons (Obl.plain rfl rfl fun R' w' hw hs hd => by have a0 : R' 1 = v1 := (hs 1 rfl).trans h1; exact of_move a0) <|
            Obls.cons (Obl.plain rfl rfl fun R' w' hw hs hd => by have a0 : R' 7 = u13 := (hs 7 rfl).trans h7; exact of_move a0) <|
            Obls.cons (Obl.plain rfl rfl fun R' w' hw hs hd => by have a0 : R' 26 = v1 := hd 0 _ _ _ rfl rfl rfl rfl rfl; have a1 : R' 27 = u13 := hd 1 _ _ _ rfl rfl rfl rfl rfl; have ra1 := (f_u13.fr hw).eq a1; exact of_callv a0 (f_v1 _ _ (q15 rfl) _ _ (hF.tr (hw.ch noB) fun _ h => False.elim h) (hA00.fr (Nat.le_trans hF.size hw.size)) (ra1.less hAA))) <|
            Obls.cons (Obl.plain rfl rfl fun R' w' hw hs hd => by have a0 : R' 28 = .bool x14 := hd 0 _ _ _ rfl rfl rfl rfl rfl; exact of_not a0) <|
            Obls.nil
        intro R w hw hs hF'
        replace h0 : R 0 = v0 := (hs 0 rfl).trans h0
        replace h1 : R 1 = v1 := (hs 1 rfl).trans h1
        replace h5 : R 5 = .int .i64 y8 := (hs 5 rfl).trans h5
        replace h6 : R 6 = .int .i64 y9 := (hs 6 rfl).trans h6
        replace h7 : R 7 = u13 := (hs 7 rfl).trans h7
        have h29 : R 29 = .bool (!x14) := hF' 3 _ _ rfl rfl rfl
        replace f_u13 := f_u13.fr hw
        replace hO := hO.fr hw
        replace hA := hA.fr hw.size
        replace hF := hF.tr (hw.ch noB) fun _ h => False.elim h
        clear hs hF' hw
        refine seqR_nil ?_
        refine HT.cond (!x14) h29 (fun c16 => ?_) (fun c16 => ?_)
        · have hr := cnd_t c16 hr
          refine HT.seq ?_
          obtain ⟨e17, hr⟩ := ck_some hr
          refine HT.textR [ob v0 (.vec B0 9 eStr y10)] (⟨_, true, [], none, true, fun A => .raw v0⟩ :: ⟨_, true, [], none, true, fun A => .raw (.int .i64 y8)⟩ :: ⟨_, true, [], none, true, fun A => .raw u13⟩ :: ⟨_, true, [], none, true, fun A => .raw (vptr v0 (y8.toNat * 1))⟩ :: ⟨_, true, [0], some (.vec B0 9 eStr (y10.set y8.toNat (gtD y10 y9))), false, fun A => .any⟩ :: []) (by kernel_rfl) (by kernel_rfl) (Wf.mk' (by kernel_rfl) (UAll.cons ust_raw (UAll.cons ust_raw (UAll.cons ust_raw (UAll.cons ust_raw (UAll.cons ust_any (UAll.nil)))))) (by kernel_rfl) (by kernel_rfl)) hO hA ?_ ?_
          · exact
              OblsR.cons (OblR.plain rfl rfl rfl rfl fun A' R' w' ho hd => by have a0 : R' 0 = v0 := (ho.old 0 rfl).trans h0; exact of_move a0) <|
              OblsR.cons (OblR.plain rfl rfl rfl rfl fun A' R' w' ho hd => by have a0 : R' 5 = .int .i64 y8 := (ho.old 5 rfl).trans h5; exact of_move a0) <|
              OblsR.cons (OblR.plain rfl rfl rfl rfl fun A' R' w' ho hd => by have a0 : R' 7 = u13 := (ho.old 7 rfl).trans h7; exact of_move a0) <|
              OblsR.cons (OblR.plain rfl rfl rfl rfl fun A' R' w' ho hd => by have a0 : R' 30 = v0 := hd 0 _ _ _ rfl rfl rfl rfl rfl; have a1 : R' 31 = .int .i64 y8 := hd 1 _ _ _ rfl rfl rfl rfl rfl; exact of_indexAddr_vec (hO.ok 0 _ rfl).1 a0 a1 Try.underlying23 Try.sizeOf9 e17 rfl) <|
              OblsR.cons (OblR.took 0 _ _ rfl rfl rfl rfl rfl fun A' R' w' ho hd u hok hav hin hop hds => by have a0 : R' 33 = (vptr v0 (y8.toNat * 1)) := hd 0 _ _ _ rfl rfl rfl rfl rfl; have a1 : R' 32 = u13 := hd 1 _ _ _ rfl rfl rfl rfl rfl; have ra1 := (f_u13.stp ho.stp).eq a1; obtain rfl := hin _ rfl; exact took_vstore ra1 hok hav a0 e17 rfl (FldS.id _) Try.sizeOf9 rfl) <|
              OblsR.nil
          intro done ρ σ A R w hdn hI
          replace h0 : R 0 = v0 := (hI.reg rfl).trans h0
          replace h1 : R 1 = v1 := (hI.reg rfl).trans h1
          replace h5 : R 5 = .int .i64 y8 := (hI.reg rfl).trans h5
          replace h6 : R 6 = .int .i64 y9 := (hI.reg rfl).trans h6
          have z18 := hI.inivR 0 rfl
          have z19 := (hI.opnR hdn 5 4 rfl rfl rfl rfl rfl).trans z18
          replace hAA := hI.lowK hAA hA0 hN (hO.geK (⟨.inr (fun k h => .inr h), trivial⟩))
          replace hF : Ch (ownsB v0) w0 w := hF.tr hI.ch (hO.geK (⟨.inr (fun k h => .inr h), trivial⟩))
          replace hO : IniOK [ob v0 (.vec B0 9 eStr (y10.set y8.toNat (gtD y10 y9)))] A w := hI.left hdn [(5, ob v0 (.vec B0 9 eStr (y10.set y8.toNat (gtD y10 y9))))] ⟨rfl, rfl, z19, rfl, rfl, trivial⟩
          replace hA := hI.avok
          clear hI
          obtain ⟨e20, hr⟩ := ck_some hr
          refine HT.text (l := ⟨_, true, .raw (.int .i64 y8)⟩ :: ⟨_, true, .raw (.int .i64 (y8 + (1 : Int)))⟩ :: ⟨_, true, .raw (.int .i64 (y8 + (1 : Int)))⟩ :: []) (tl := []) (by kernel_rfl) (by kernel_rfl) (by kernel_rfl) ?_ ?_
          · exact
              Obls.cons (Obl.plain rfl rfl fun R' w' hw hs hd => by have a0 : R' 5 = .int .i64 y8 := (hs 5 rfl).trans h5; exact of_move a0) <|
              Obls.cons (Obl.plain rfl rfl fun R' w' hw hs hd => by have a0 : R' 34 = .int .i64 y8 := hd 0 _ _ _ rfl rfl rfl rfl rfl; exact of_add a0 rfl e20) <|
              Obls.cons (Obl.plain rfl rfl fun R' w' hw hs hd => by have a0 : R' 35 = .int .i64 (y8 + (1 : Int)) := hd 0 _ _ _ rfl rfl rfl rfl rfl; exact of_assign a0) <|
              Obls.nil
          intro R w hw hs hF'
          replace h0 : R 0 = v0 := (hs 0 rfl).trans h0
          replace h1 : R 1 = v1 := (hs 1 rfl).trans h1
          replace h6 : R 6 = .int .i64 y9 := (hs 6 rfl).trans h6
          have h5 : R 5 = .int .i64 (y8 + (1 : Int)) := hF' 2 _ _ rfl rfl rfl
          replace hO := hO.fr hw
          replace hA := hA.fr hw.size
          replace hF := hF.tr (hw.ch noB) fun _ h => False.elim h
          clear hs hF' hw
          refine seqR_nil ?_
          obtain ⟨e21, hr⟩ := ck_some hr
          refine HT.text (l := ⟨_, true, .raw (.int .i64 y9)⟩ :: ⟨_, true, .raw (.int .i64 (y9 + (1 : Int)))⟩ :: ⟨_, true, .raw (.int .i64 (y9 + (1 : Int)))⟩ :: []) (tl := []) (by kernel_rfl) (by kernel_rfl) (by kernel_rfl) ?_ ?_
          · exact
              Obls.cons (Obl.plain rfl rfl fun R' w' hw hs hd => by have a0 : R' 6 = .int .i64 y9 := (hs 6 rfl).trans h6; exact of_move a0) <|
              Obls.cons (Obl.plain rfl rfl fun R' w' hw hs hd => by have a0 : R' 20 = .int .i64 y9 := hd 0 _ _ _ rfl rfl rfl rfl rfl; exact of_add a0 rfl e21) <|
              Obls.cons (Obl.plain rfl rfl fun R' w' hw hs hd => by have a0 : R' 21 = .int .i64 (y9 + (1 : Int)) := hd 0 _ _ _ rfl rfl rfl rfl rfl; exact of_assign a0) <|
              Obls.nil
          intro R w hw hs hF'
          replace h0 : R 0 = v0 := (hs 0 rfl).trans h0
          replace h1 : R 1 = v1 := (hs 1 rfl).trans h1
          replace h5 : R 5 = .int .i64 (y8 + (1 : Int)) := (hs 5 rfl).trans h5
          have h6 : R 6 = .int .i64 (y9 + (1 : Int)) := hF' 2 _ _ rfl rfl rfl
          replace hO := hO.fr hw
          replace hA := hA.fr hw.size
          replace hF := hF.tr (hw.ch noB) fun _ h => False.elim h
          clear hs hF' hw
          refine seqR_nil ?_
          exact Exists.intro k (And.intro (Nat.lt_succ_self k) ⟨_, _, _, _, hr, hA, hF, hAA, hO, h0, h1, h5, h6⟩)
        · have hr := cnd_f c16 hr
          refine HT.skip ?_
          obtain ⟨e22, hr⟩ := ck_some hr
          refine HT.text (l := ⟨_, true, .raw (.int .i64 y9)⟩ :: ⟨_, true, .raw (.int .i64 (y9 + (1 : Int)))⟩ :: ⟨_, true, .raw (.int .i64 (y9 + (1 : Int)))⟩ :: []) (tl := []) (by kernel_rfl) (by kernel_rfl) (by kernel_rfl) ?_ ?_
          · exact
              Obls.cons (Obl.plain rfl rfl fun R' w' hw hs hd => by have a0 : R' 6 = .int .i64 y9 := (hs 6 rfl).trans h6; exact of_move a0) <|
              Obls.cons (Obl.plain rfl rfl fun R' w' hw hs hd => by have a0 : R' 20 = .int .i64 y9 := hd 0 _ _ _ rfl rfl rfl rfl rfl; exact of_add a0 rfl e22) <|
              Obls.cons (Obl.plain rfl rfl fun R' w' hw hs hd => by have a0 : R' 21 = .int .i64 (y9 + (1 : Int)) := hd 0 _ _ _ rfl rfl rfl rfl rfl; exact of_assign a0) <|
              Obls.nil
          intro R w hw hs hF'
          replace h0 : R 0 = v0 := (hs 0 rfl).trans h0
          replace h1 : R 1 = v1 := (hs 1 rfl).trans h1
          replace h5 : R 5 = .int .i64 y8 := (hs 5 rfl).trans h5
          have h6 : R 6 = .int .i64 (y9 + (1 : Int)) := hF' 2 _ _ rfl rfl rfl
          replace hO := hO.fr hw
          replace hA := hA.fr hw.size
          replace hF := hF.tr (hw.ch noB) fun _ h => False.elim h
          clear hs hF' hw
          refine seqR_nil ?_
          exact Exists.intro k (And.intro (Nat.lt_succ_self k) ⟨_, _, _, _, hr, hA, hF, hAA, hO, h0, h1, h5, h6⟩)
      · have hr := cnd_f c11 hr
        refine HT.exit ?_
        obtain rfl := Option.some.inj hr
        exact Exists.intro _ ⟨_, rfl, hA, hF, hAA, hO, h0, h5⟩
    rintro R w ⟨A, s7, es, hA, hF, hAA, hO, h0, h5⟩
    obtain rfl := es.symm
    refine HT.seq ?_
    obtain ⟨e23, hr⟩ := ck_some hr
    obtain ⟨x24, q25, hr⟩ := bd_some hr
    obtain ⟨e26, hr⟩ := ck_some hr
    obtain ⟨e27, hr⟩ := ck_some hr
    refine HT.textR [ob v0 (.vec B0 9 eStr s7.2)] (⟨_, true, [], none, true, fun A => .raw v0⟩ :: ⟨_, true, [], none, true, fun A => .raw (.int .i64 s7.1)⟩ :: ⟨_, true, [], none, true, fun A => .raw (vsub v0 s7.1.toNat x24 1)⟩ :: ⟨_, true, [0], some (.vec B0 9 eStr (s7.2.take s7.1.toNat ++ List.replicate (s7.2.length - s7.1.toNat) ([] : List UInt8))), false, fun A => .any⟩ :: []) (by kernel_rfl) (by kernel_rfl) (Wf.mk' (by kernel_rfl) (UAll.cons ust_raw (UAll.cons ust_raw (UAll.cons ust_raw (UAll.cons ust_any (UAll.nil))))) (by kernel_rfl) (by kernel_rfl)) hO hA ?_ ?_
    · exact
        OblsR.cons (OblR.plain rfl rfl rfl rfl fun A' R' w' ho hd => by have a0 : R' 0 = v0 := (ho.old 0 rfl).trans h0; exact of_move a0) <|
        OblsR.cons (OblR.plain rfl rfl rfl rfl fun A' R' w' ho hd => by have a0 : R' 5 = .int .i64 s7.1 := (ho.old 5 rfl).trans h5; exact of_move a0) <|
        OblsR.cons (OblR.plain rfl rfl rfl rfl fun A' R' w' ho hd => by have a0 : R' 36 = v0 := hd 0 _ _ _ rfl rfl rfl rfl rfl; have a1 : R' 37 = .int .i64 s7.1 := hd 1 _ _ _ rfl rfl rfl rfl rfl; exact (q25 ▸ of_view (hO.ok 0 _ rfl).1 a0 a1 Try.underlying23 Try.sizeOf9 e23)) <|
        OblsR.cons (OblR.took 0 _ _ rfl rfl rfl rfl rfl fun A' R' w' ho hd u hok hav hin hop hds => by have a0 : R' 38 = (vsub v0 s7.1.toNat x24 1) := hd 0 _ _ _ rfl rfl rfl rfl rfl; obtain rfl := hin _ rfl; exact took_clear a0 hok hav Try.underlying23 rfl Try.zeroValue9 (fun A w => (rep1_str rfl (by decide))) e26 e27 rfl) <|
        OblsR.nil
    intro done ρ σ A R w hdn hI
    replace h0 : R 0 = v0 := (hI.reg rfl).trans h0
    replace h5 : R 5 = .int .i64 s7.1 := (hI.reg rfl).trans h5
    have z28 := hI.inivR 0 rfl
    have z29 := (hI.opnR hdn 4 3 rfl rfl rfl rfl rfl).trans z28
    replace hAA := hI.lowK hAA hA0 hN (hO.geK (⟨.inr (fun k h => .inr h), trivial⟩))
    replace hF : Ch (ownsB v0) w0 w := hF.tr hI.ch (hO.geK (⟨.inr (fun k h => .inr h), trivial⟩))
    replace hO : IniOK [ob v0 (.vec B0 9 eStr (s7.2.take s7.1.toNat ++ List.replicate (s7.2.length - s7.1.toNat) ([] : List UInt8)))] A w := hI.left hdn [(4, ob v0 (.vec B0 9 eStr (s7.2.take s7.1.toNat ++ List.replicate (s7.2.length - s7.1.toNat) ([] : List UInt8))))] ⟨rfl, rfl, z29, rfl, rfl, trivial⟩
    replace hA := hI.avok
    clear hI
    refine HT.seq ?_
    obtain ⟨e30, hr⟩ := ck_some hr
    refine HT.textR [ob v0 (.vec B0 9 eStr (s7.2.take s7.1.toNat ++ List.replicate (s7.2.length - s7.1.toNat) ([] : List UInt8)))] (⟨_, true, [], none, true, fun A => .raw v0⟩ :: ⟨_, true, [], none, true, fun A => .raw (.int .i64 s7.1)⟩ :: ⟨_, true, [0], some (.vec B0 9 eStr (subL (s7.2.take s7.1.toNat ++ List.replicate (s7.2.length - s7.1.toNat) ([] : List UInt8)) 0 s7.1)), true, fun A => .any⟩ :: ⟨_, true, [3], some (.vec B0 9 eStr (subL (s7.2.take s7.1.toNat ++ List.replicate (s7.2.length - s7.1.toNat) ([] : List UInt8)) 0 s7.1)), true, fun A => .any⟩ :: []) (by kernel_rfl) (by kernel_rfl) (Wf.mk' (by kernel_rfl) (UAll.cons ust_raw (UAll.cons ust_raw (UAll.cons ust_any (UAll.cons ust_any (UAll.nil))))) (by kernel_rfl) (by kernel_rfl)) hO hA ?_ ?_
    · exact
        OblsR.cons (OblR.plain rfl rfl rfl rfl fun A' R' w' ho hd => by have a0 : R' 0 = v0 := (ho.old 0 rfl).trans h0; exact of_move a0) <|
        OblsR.cons (OblR.plain rfl rfl rfl rfl fun A' R' w' ho hd => by have a0 : R' 5 = .int .i64 s7.1 := (ho.old 5 rfl).trans h5; exact of_move a0) <|
        OblsR.cons (OblR.took 0 _ _ rfl rfl rfl rfl rfl fun A' R' w' ho hd u hok hav hin hop hds => by have a0 : R' 39 = v0 := hd 0 _ _ _ rfl rfl rfl rfl rfl; have a1 : R' 40 = .int .i64 s7.1 := hd 1 _ _ _ rfl rfl rfl rfl rfl; exact took_prefix (a0.trans (hin _ rfl).symm) hok hav a1 Try.underlying23 Try.sizeOf9 e30 rfl) <|
        OblsR.cons (OblR.took 3 _ _ rfl rfl rfl rfl rfl fun A' R' w' ho hd u hok hav hin hop hds => by exact took_assign (hop _ _ rfl rfl rfl rfl).symm hok hav) <|
        OblsR.nil
    intro done ρ σ A R w hdn hI
    obtain ⟨u31, e_u31⟩ : ∃ u, ρ 4 = u := ⟨_, rfl⟩
    have h4 : R 4 = u31 := (hI.opvR hdn 4 3 rfl rfl rfl rfl rfl).symm.trans e_u31
    have hK_u31 : ∀ k, ownsB u31 k → w0.heap.size ≤ k ∨ (ownsB v0) k := hI.geK hdn 4 rfl rfl rfl e_u31 (hO.geK (⟨.inr (fun k h => .inr h), trivial⟩)) hF.size
    replace hAA := hI.lowK hAA hA0 hN (hO.geK (⟨.inr (fun k h => .inr h), trivial⟩))
    replace hF : Ch (ownsB v0) w0 w := hF.tr hI.ch (hO.geK (⟨.inr (fun k h => .inr h), trivial⟩))
    replace hO : IniOK [ob u31 (.vec B0 9 eStr (subL (s7.2.take s7.1.toNat ++ List.replicate (s7.2.length - s7.1.toNat) ([] : List UInt8)) 0 s7.1))] A w := hI.left hdn [(4, ob u31 (.vec B0 9 eStr (subL (s7.2.take s7.1.toNat ++ List.replicate (s7.2.length - s7.1.toNat) ([] : List UInt8)) 0 s7.1)))] ⟨rfl, rfl, e_u31, rfl, rfl, trivial⟩
    replace hA := hI.avok
    clear hI
    refine HT.ret ?_
    obtain rfl := Option.some.inj hr
    exact ⟨.inr rfl, [R 4], ⟨rfl, trivial⟩, by show Took _ true _ _ _ w0 (R 4) w; rw [h4]; exact took_post (fun k h o => .inr h) hF (hO.ok 0 _ rfl).1 (hO.own_ge (⟨.inr hK_u31, trivial⟩) (i := 0) rfl) (fun _ _ _ _ _ h => h)⟩
def M_impl_CommonTokens (fu : Nat) (p0 : List (List UInt8)) (p1 : List (List UInt8)) : Option (List (List UInt8)) :=
  cl true (M_impl_sortedSet fu p0) fun x2 =>
  cl true (M_slices_DeleteFunc_string_string fu x2 (fun x => M_impl_CommonTokens_1 fu x p1)) fun x4 =>
  some x4
set_option maxRecDepth 100000 in
set_option maxHeartbeats 4000000 in
theorem M_impl_CommonTokens_ok {fu : Nat} {A0 : Av} {p0 : List (List UInt8)} {p1 : List (List UInt8)} {r : List (List UInt8)} (hr : M_impl_CommonTokens fu p0 p1 = some r) {w : World} {v0 : Value} {v1 : Value} (hA : AvOK A0 w) (h0 : Rep (eSl eStr) A0 w v0 p0) (h1 : Rep (eSl eStr) A0 w v1 p1) :
    Calls Try.prog 99 #[v0, v1] w fun e w' => ∃ v, e = .returned v ∧ ((Res.vec w.heap.size 9 eStr r).ok (addA A0 v) v w' ∧ Fr w w') := by
  unfold M_impl_CommonTokens at hr
  obtain ⟨w0, hw0⟩ : ∃ w0, w0 = w := ⟨_, rfl⟩
  have hF : Fr w0 w := hw0 ▸ Fr.refl _
  have hA0 : ∀ b o, A0 b o → b < w0.heap.size := fun b o h => hw0 ▸ hA b o h
  have hA00 : AvOK A0 w0 := hA0
  rw [show w.heap.size = w0.heap.size from hw0 ▸ rfl]
  rw [show Fr w = Fr w0 from hw0 ▸ rfl]
  clear hw0
  obtain ⟨A, hAe⟩ : ∃ A, A = A0 := ⟨_, rfl⟩
  have hAA : ∀ b o, A0 b o → A b o := fun b o h => hAe ▸ h
  replace hA : AvOK A w := hAe ▸ hA
  have hO : IniOK [] A w := IniOK.nil
  refine calls_of_HT2 [.tmp 4] Try.func99 Try.ntmps99 (by decide) rfl rfl (Nat.le_of_ble_eq_true rfl) ?_
  intro R hR
  have f_v0 : Rep (eSl eStr) A w v0 p0 := hAe ▸ h0
  replace h0 : R 0 = v0 := hR 0 _ rfl
  have f_v1 : Rep (eSl eStr) A w v1 p1 := hAe ▸ h1
  replace h1 : R 1 = v1 := hR 1 _ rfl
  clear hR hAe
  refine HT.seq ?_
  refine HT.textR [] (⟨_, true, [], some (.box w0.heap.size 23 (eSl eStr) p1), true, fun A => .any⟩ :: ⟨_, true, [], none, true, fun A => .any⟩ :: []) (by kernel_rfl) (by kernel_rfl) (Wf.mk' (by kernel_rfl) (UAll.cons ust_any (UAll.cons ust_any (UAll.nil))) (by kernel_rfl) (by kernel_rfl)) hO hA ?_ ?_
  · exact
      OblsR.cons (OblR.made _ rfl rfl rfl rfl fun A' R' w' ho hd => by have a0 : R' 1 = v1 := (ho.old 1 rfl).trans h1; have ra0 := (f_v1.stp ho.stp).eq a0; exact made_box ra0 (Nat.le_trans hF.size ho.ch.size)) <|
      OblsR.cons (OblR.plain rfl rfl rfl rfl fun A' R' w' ho hd => by exact of_assign trivial) <|
      OblsR.nil
  intro done ρ σ A R w hdn hI
  replace h0 : R 0 = v0 := (hI.reg rfl).trans h0
  obtain ⟨b3_0, e_b3_0⟩ := hI.boxv hdn 0 rfl rfl
  have h3 : R 3 = (.pointer (some ⟨b3_0, 0, none⟩)) := (hI.opvR hdn 0 0 rfl rfl rfl rfl rfl).symm.trans e_b3_0
  replace f_v0 := f_v0.stp hI.stp
  replace hAA := hI.low' hAA hA0 (hO.ge (trivial))
  replace hF : Fr w0 w := hF.tr hI.ch (hO.ge (trivial))
  replace hO : IniOK [ob (.pointer (some ⟨b3_0, 0, none⟩)) (.box w0.heap.size 23 (eSl eStr) p1)] A w := hI.left hdn [(0, ob (.pointer (some ⟨b3_0, 0, none⟩)) (.box w0.heap.size 23 (eSl eStr) p1))] ⟨rfl, rfl, e_b3_0, rfl, rfl, trivial⟩
  replace hA := hI.avok
  clear hI
  refine HT.seq ?_
  obtain ⟨x2, q3, hr⟩ := cl_some hr
  obtain ⟨x4, q5, hr⟩ := cl_some hr
  refine HT.textR [ob (.pointer (some ⟨b3_0, 0, none⟩)) (.box w0.heap.size 23 (eSl eStr) p1)] (⟨_, true, [], none, true, fun A => .raw v0⟩ :: ⟨_, true, [], some (.vec w0.heap.size 9 eStr x2), true, fun A => .any⟩ :: ⟨_, true, [], none, true, fun A => .raw (.func (.func 127) #[] #[(.pointer (some ⟨b3_0, 0, none⟩))])⟩ :: ⟨_, true, [2], some (.vec w0.heap.size 9 eStr x4), true, fun A => .any⟩ :: ⟨_, true, [4], some (.vec w0.heap.size 9 eStr x4), true, fun A => .any⟩ :: []) (by kernel_rfl) (by kernel_rfl) (Wf.mk' (by kernel_rfl) (UAll.cons ust_raw (UAll.cons ust_any (UAll.cons ust_raw (UAll.cons ust_any (UAll.cons ust_any (UAll.nil)))))) (by kernel_rfl) (by kernel_rfl)) hO hA ?_ ?_
  · exact
      OblsR.cons (OblR.plain rfl rfl rfl rfl fun A' R' w' ho hd => by have a0 : R' 0 = v0 := (ho.old 0 rfl).trans h0; exact of_move a0) <|
      OblsR.cons (OblR.made _ rfl rfl rfl rfl fun A' R' w' ho hd => by have a0 : R' 5 = v0 := hd 0 _ _ _ rfl rfl rfl rfl rfl; have ra0 := (f_v0.stp ho.stp).eq a0; exact made_call Try.call72 (M_impl_sortedSet_ok (q3 rfl) ho.av ra0) (Nat.le_trans hF.size ho.ch.size)) <|
      OblsR.cons (OblR.plain rfl rfl rfl rfl fun A' R' w' ho hd => by have a0 : R' 3 = (.pointer (some ⟨b3_0, 0, none⟩)) := (ho.old 3 rfl).trans h3; exact of_makeFunc (c := [(.pointer (some ⟨b3_0, 0, none⟩))]) (by simp only [List.map, evalR]; rw [a0])) <|
      OblsR.cons (OblR.took 2 _ _ rfl rfl rfl rfl rfl fun A' R' w' ho hd u hok hav hin hop hds => by have a1 : R' 7 = (.func (.func 127) #[] #[(.pointer (some ⟨b3_0, 0, none⟩))]) := hd 1 _ _ _ rfl rfl rfl rfl rfl; have hu0 : evalR R' (.tmp 6) = u := (hop _ _ rfl rfl rfl rfl).symm; exact took_callm Try.call126 hav (by simp only [List.map, hu0]; exact M_slices_DeleteFunc_string_string_ok (q5 rfl) (ho.av.sub _) (fun b o h => h.2) (Vec.flat hok (fun _ _ _ _ _ h => h)) (fnk1_of [(.pointer (some ⟨b3_0, 0, none⟩))] a1 Try.call127 (fun x r hr' w'' a hF' hA' ha => M_impl_CommonTokens_1_ok hr' hA' ha (box_prepK (ho.rd 0 _ rfl rfl) hF' hav fun h => hds 0 _ rfl (by decide) rfl _ h rfl))))) <|
      OblsR.cons (OblR.took 4 _ _ rfl rfl rfl rfl rfl fun A' R' w' ho hd u hok hav hin hop hds => by exact took_assign (hop _ _ rfl rfl rfl rfl).symm hok hav) <|
      OblsR.nil
  intro done ρ σ A R w hdn hI
  have z6 := hI.inivR 0 rfl
  obtain ⟨u7, e_u7⟩ : ∃ u, ρ 5 = u := ⟨_, rfl⟩
  have h4 : R 4 = u7 := (hI.opvR hdn 5 4 rfl rfl rfl rfl rfl).symm.trans e_u7
  replace hAA := hI.low' hAA hA0 (hO.ge (⟨rfl, trivial⟩))
  replace hF : Fr w0 w := hF.tr hI.ch (hO.ge (⟨rfl, trivial⟩))
  replace hO : IniOK [ob u7 (.vec w0.heap.size 9 eStr x4)] A w := hI.left hdn [(5, ob u7 (.vec w0.heap.size 9 eStr x4))] ⟨rfl, rfl, e_u7, rfl, rfl, trivial⟩
  replace hA := hI.avok
  clear hI
  refine HT.ret ?_
  obtain rfl := Option.some.inj hr
  exact ⟨.inr rfl, [R 4], ⟨rfl, trivial⟩, (own_post (hO.ok 0 _ rfl) hAA h4), hF⟩
theorem M_impl_CommonTokens_okR {fu : Nat} {A0 : Av} {p0 : List (List UInt8)} {p1 : List (List UInt8)} {r : List (List UInt8)} (hr : M_impl_CommonTokens fu p0 p1 = some r) {w : World} {v0 : Value} {v1 : Value} (hA : AvOK A0 w) (h0 : Rep (eSl eStr) A0 w v0 p0) (h1 : Rep (eSl eStr) A0 w v1 p1) :
    Calls Try.prog 99 #[v0, v1] w fun e w' => ∃ v, e = .returned v ∧ (Rep (eSl eStr) A0 w' v r ∧ Fr w w') := by
  refine Calls.mono (M_impl_CommonTokens_ok hr hA h0 h1) ?_
  rintro e w' ⟨v, he, hv, hf⟩
  exact ⟨v, he, vec_rep hv (fun b o h => .inl h) hA, hf⟩
def M_impl_SharePrefix (fu : Nat) (p0 : List T_impl_TokenCount) (p1 : List (List UInt8)) (p2 : List (List UInt8)) (p3 : Int) : Option Bool :=
  cl true (M_impl_PrefixTokens fu p0 p1 p3) fun x1 =>
  cl true (M_impl_PrefixTokens fu p0 p2 p3) fun x3 =>
  cl true (M_impl_CommonTokens fu x1 x3) fun x5 =>
  some (decide ((0 : Int) < (x5.length : Int)))
set_option maxRecDepth 100000 in
set_option maxHeartbeats 4000000 in
theorem M_impl_SharePrefix_ok {fu : Nat} {A : Av} {p0 : List T_impl_TokenCount} {p1 : List (List UInt8)} {p2 : List (List UInt8)} {p3 : Int} {r : Bool} (hr : M_impl_SharePrefix fu p0 p1 p2 p3 = some r) {w : World} {v0 : Value} {v1 : Value} {v2 : Value} {v3 : Value} (hA : AvOK A w) (h0 : Rep (eSl E_impl_TokenCount) A w v0 p0) (h1 : Rep (eSl eStr) A w v1 p1) (h2 : Rep (eSl eStr) A w v2 p2) (h3 : v3 = .int .i64 p3) :
    Calls Try.prog 57 #[v0, v1, v2, v3] w fun e w' => ∃ v, e = .returned v ∧ (v = .bool r ∧ Fr w w') := by
  unfold M_impl_SharePrefix at hr
  obtain ⟨w0, hw0⟩ : ∃ w0, w0 = w := ⟨_, rfl⟩
  have hF : Fr w0 w := hw0 ▸ Fr.refl _
  rw [show Fr w = Fr w0 from hw0 ▸ rfl]
  clear hw0
  refine calls_of_HT2 [.tmp 8] Try.func57 Try.ntmps57 (by decide) rfl rfl (Nat.le_of_ble_eq_true rfl) ?_
  intro R hR
  have f_v0 := h0
  replace h0 : R 0 = v0 := hR 0 _ rfl
  have f_v1 := h1
  replace h1 : R 1 = v1 := hR 1 _ rfl
  have f_v2 := h2
  replace h2 : R 2 = v2 := hR 2 _ rfl
  replace h3 : R 3 = .int .i64 p3 := (hR 3 _ rfl).trans h3
  clear hR
  refine HT.seq ?_
  refine HT.text (l := ⟨_, true, .raw (.bool false)⟩ :: []) (tl := []) (by kernel_rfl) (by kernel_rfl) (by kernel_rfl) ?_ ?_
  · exact
      Obls.cons (Obl.plain rfl rfl fun R' w' hw hs hd => by exact of_assign rfl) <|
      Obls.nil
  intro R w hw hs hF'
  replace h0 : R 0 = v0 := (hs 0 rfl).trans h0
  replace h1 : R 1 = v1 := (hs 1 rfl).trans h1
  replace h2 : R 2 = v2 := (hs 2 rfl).trans h2
  replace h3 : R 3 = .int .i64 p3 := (hs 3 rfl).trans h3
  replace f_v0 := f_v0.fr hw
  replace f_v1 := f_v1.fr hw
  replace f_v2 := f_v2.fr hw
  replace hA := hA.fr hw.size
  replace hF := hF.trans hw
  clear hs hF' hw
  refine seqR_nil ?_
  refine HT.seq ?_
  obtain ⟨x1, q2, hr⟩ := cl_some hr
  obtain ⟨x3, q4, hr⟩ := cl_some hr
  obtain ⟨x5, q6, hr⟩ := cl_some hr
  refine HT.text (l := ⟨_, true, .raw v0⟩ :: ⟨_, true, .raw v1⟩ :: ⟨_, true, .raw (.int .i64 p3)⟩ :: ⟨_, true, .rep (eSl eStr) A x1⟩ :: ⟨_, true, .raw v0⟩ :: ⟨_, true, .raw v2⟩ :: ⟨_, true, .raw (.int .i64 p3)⟩ :: ⟨_, true, .rep (eSl eStr) A x3⟩ :: ⟨_, true, .rep (eSl eStr) A x5⟩ :: ⟨_, true, .raw (.int .i64 (x5.length : Int))⟩ :: ⟨_, true, .raw (.bool (decide ((0 : Int) < (x5.length : Int))))⟩ :: ⟨_, true, .raw (.bool (decide ((0 : Int) < (x5.length : Int))))⟩ :: []) (tl := []) (by kernel_rfl) (by kernel_rfl) (by kernel_rfl) ?_ ?_
  · exact
      Obls.cons (Obl.plain rfl rfl fun R' w' hw hs hd => by have a0 : R' 0 = v0 := (hs 0 rfl).trans h0; exact of_move a0) <|
      Obls.cons (Obl.plain rfl rfl fun R' w' hw hs hd => by have a0 : R' 1 = v1 := (hs 1 rfl).trans h1; exact of_move a0) <|
      Obls.cons (Obl.plain rfl rfl fun R' w' hw hs hd => by have a0 : R' 3 = .int .i64 p3 := (hs 3 rfl).trans h3; exact of_move a0) <|
      Obls.cons (Obl.plain rfl rfl fun R' w' hw hs hd => by have a0 : R' 9 = v0 := hd 0 _ _ _ rfl rfl rfl rfl rfl; have ra0 := (f_v0.fr hw).eq a0; have a1 : R' 10 = v1 := hd 1 _ _ _ rfl rfl rfl rfl rfl; have ra1 := (f_v1.fr hw).eq a1; have a2 : R' 11 = .int .i64 p3 := hd 2 _ _ _ rfl rfl rfl rfl rfl; exact of_call Try.call32 (M_impl_PrefixTokens_okR (q2 rfl) (hA.fr hw.size) ra0 ra1 a2)) <|
      Obls.cons (Obl.plain rfl rfl fun R' w' hw hs hd => by have a0 : R' 0 = v0 := (hs 0 rfl).trans h0; exact of_move a0) <|
      Obls.cons (Obl.plain rfl rfl fun R' w' hw hs hd => by have a0 : R' 2 = v2 := (hs 2 rfl).trans h2; exact of_move a0) <|
      Obls.cons (Obl.plain rfl rfl fun R' w' hw hs hd => by have a0 : R' 3 = .int .i64 p3 := (hs 3 rfl).trans h3; exact of_move a0) <|
      Obls.cons (Obl.plain rfl rfl fun R' w' hw hs hd => by have a0 : R' 13 = v0 := hd 0 _ _ _ rfl rfl rfl rfl rfl; have ra0 := (f_v0.fr hw).eq a0; have a1 : R' 14 = v2 := hd 1 _ _ _ rfl rfl rfl rfl rfl; have ra1 := (f_v2.fr hw).eq a1; have a2 : R' 15 = .int .i64 p3 := hd 2 _ _ _ rfl rfl rfl rfl rfl; exact of_call Try.call32 (M_impl_PrefixTokens_okR (q4 rfl) (hA.fr hw.size) ra0 ra1 a2)) <|
      Obls.cons (Obl.plain rfl rfl fun R' w' hw hs hd => by have a0 : Rep (eSl eStr) A w' (R' 12) x1 := hd 0 _ _ _ rfl rfl rfl rfl rfl; have a1 : Rep (eSl eStr) A w' (R' 16) x3 := hd 1 _ _ _ rfl rfl rfl rfl rfl; exact of_call Try.call99 (M_impl_CommonTokens_okR (q6 rfl) (hA.fr hw.size) a0 a1)) <|
      Obls.cons (Obl.plain rfl rfl fun R' w' hw hs hd => by have a0 : Rep (eSl eStr) A w' (R' 17) x5 := hd 0 _ _ _ rfl rfl rfl rfl rfl; exact of_len_sl (aT := #[]) a0 Try.underlying23) <|
      Obls.cons (Obl.plain rfl rfl fun R' w' hw hs hd => by have a0 : R' 18 = .int .i64 (x5.length : Int) := hd 0 _ _ _ rfl rfl rfl rfl rfl; exact of_gtr a0 rfl) <|
      Obls.cons (Obl.plain rfl rfl fun R' w' hw hs hd => by have a0 : R' 19 = .bool (decide ((0 : Int) < (x5.length : Int))) := hd 0 _ _ _ rfl rfl rfl rfl rfl; exact of_assign a0) <|
      Obls.nil
  intro R w hw hs hF'
  have h8 : R 8 = .bool (decide ((0 : Int) < (x5.length : Int))) := hF' 11 _ _ rfl rfl rfl
  replace hA := hA.fr hw.size
  replace hF := hF.trans hw
  clear hs hF' hw
  refine seqR_nil ?_
  refine HT.ret ?_
  obtain rfl := Option.some.inj hr
  exact ⟨.inr rfl, [R 8], ⟨rfl, trivial⟩, h8, hF⟩
def M_laws_eqTokenCount (fu : Nat) (p0 : T_impl_TokenCount) (p1 : T_impl_TokenCount) : Option Bool :=
  bif (!(p0.1 == p1.1)) then (
    some false
  ) else (
    bif (p0.2 != p1.2) then (
      some false
    ) else (
      some true
    )
  )
set_option maxRecDepth 100000 in
set_option maxHeartbeats 4000000 in
theorem M_laws_eqTokenCount_ok {fu : Nat} {A0 : Av} {p0 : T_impl_TokenCount} {p1 : T_impl_TokenCount} {r : Bool} (hr : M_laws_eqTokenCount fu p0 p1 = some r) {w : World} {v0 : Value} {v1 : Value} (hA : AvOK A0 w) (h0 : Rep E_impl_TokenCount A0 w v0 p0) (h1 : Rep E_impl_TokenCount A0 w v1 p1) :
    Calls Try.prog 68 #[v0, v1] w fun e w' => ∃ v, e = .returned v ∧ (v = .bool r ∧ Fr w w') := by
  unfold M_laws_eqTokenCount at hr
  obtain ⟨w0, hw0⟩ : ∃ w0, w0 = w := ⟨_, rfl⟩
  have hF : Fr w0 w := hw0 ▸ Fr.refl _
  have hA0 : ∀ b o, A0 b o → b < w0.heap.size := fun b o h => hw0 ▸ hA b o h
  have hA00 : AvOK A0 w0 := hA0
  rw [show Fr w = Fr w0 from hw0 ▸ rfl]
  clear hw0
  obtain ⟨A, hAe⟩ : ∃ A, A = A0 := ⟨_, rfl⟩
  have hAA : ∀ b o, A0 b o → A b o := fun b o h => hAe ▸ h
  replace hA : AvOK A w := hAe ▸ hA
  have hO : IniOK [] A w := IniOK.nil
  refine calls_of_HT2 [.tmp 4] Try.func68 Try.ntmps68 (by decide) rfl rfl (Nat.le_of_ble_eq_true rfl) ?_
  intro R hR
  have f_v0 : Rep E_impl_TokenCount A w v0 p0 := hAe ▸ h0
  replace h0 : R 0 = v0 := hR 0 _ rfl
  have f_v1 : Rep E_impl_TokenCount A w v1 p1 := hAe ▸ h1
  replace h1 : R 1 = v1 := hR 1 _ rfl
  clear hR hAe
  refine HT.seq ?_
  refine HT.textR [] (⟨_, true, [], some (.box w0.heap.size 76 E_impl_TokenCount p0), true, fun A => .any⟩ :: ⟨_, true, [], some (.box w0.heap.size 76 E_impl_TokenCount p1), true, fun A => .any⟩ :: ⟨_, true, [], none, true, fun A => .raw (.bool false)⟩ :: []) (by kernel_rfl) (by kernel_rfl) (Wf.mk' (by kernel_rfl) (UAll.cons ust_any (UAll.cons ust_any (UAll.cons ust_raw (UAll.nil)))) (by kernel_rfl) (by kernel_rfl)) hO hA ?_ ?_
  · exact
      OblsR.cons (OblR.made _ rfl rfl rfl rfl fun A' R' w' ho hd => by have a0 : R' 0 = v0 := (ho.old 0 rfl).trans h0; have ra0 := (f_v0.stp ho.stp).eq a0; exact made_box ra0 (Nat.le_trans hF.size ho.ch.size)) <|
      OblsR.cons (OblR.made _ rfl rfl rfl rfl fun A' R' w' ho hd => by have a0 : R' 1 = v1 := (ho.old 1 rfl).trans h1; have ra0 := (f_v1.stp ho.stp).eq a0; exact made_box ra0 (Nat.le_trans hF.size ho.ch.size)) <|
      OblsR.cons (OblR.plain rfl rfl rfl rfl fun A' R' w' ho hd => by exact of_assign rfl) <|
      OblsR.nil
  intro done ρ σ A R w hdn hI
  obtain ⟨b2_0, e_b2_0⟩ := hI.boxv hdn 0 rfl rfl
  have h2 : R 2 = (.pointer (some ⟨b2_0, 0, none⟩)) := (hI.opvR hdn 0 0 rfl rfl rfl rfl rfl).symm.trans e_b2_0
  obtain ⟨b3_1, e_b3_1⟩ := hI.boxv hdn 1 rfl rfl
  have h3 : R 3 = (.pointer (some ⟨b3_1, 0, none⟩)) := (hI.opvR hdn 1 1 rfl rfl rfl rfl rfl).symm.trans e_b3_1
  replace hAA := hI.low' hAA hA0 (hO.ge (trivial))
  replace hF : Fr w0 w := hF.tr hI.ch (hO.ge (trivial))
  replace hO : IniOK [ob (.pointer (some ⟨b2_0, 0, none⟩)) (.box w0.heap.size 76 E_impl_TokenCount p0), ob (.pointer (some ⟨b3_1, 0, none⟩)) (.box w0.heap.size 76 E_impl_TokenCount p1)] A w := hI.left hdn [(0, ob (.pointer (some ⟨b2_0, 0, none⟩)) (.box w0.heap.size 76 E_impl_TokenCount p0)), (1, ob (.pointer (some ⟨b3_1, 0, none⟩)) (.box w0.heap.size 76 E_impl_TokenCount p1))] ⟨rfl, rfl, e_b2_0, rfl, rfl, ⟨rfl, rfl, e_b3_1, rfl, rfl, trivial⟩⟩
  replace hA := hI.avok
  clear hI
  refine HT.seq ?_
  refine HT.seq ?_
  refine HT.text (l := ⟨_, true, .raw (.pointer (some ⟨b2_0, 0, none⟩))⟩ :: ⟨_, true, .rep eStr A p0.1⟩ :: ⟨_, true, .raw (.pointer (some ⟨b3_1, 0, none⟩))⟩ :: ⟨_, true, .rep eStr A p1.1⟩ :: ⟨_, true, .raw (.bool (!(p0.1 == p1.1)))⟩ :: []) (tl := []) (by kernel_rfl) (by kernel_rfl) (by kernel_rfl) ?_ ?_
  · exact
      Obls.cons (Obl.plain rfl rfl fun R' w' hw hs hd => by have a0 : R' 2 = (.pointer (some ⟨b2_0, 0, none⟩)) := (hs 2 rfl).trans h2; exact of_fieldAddr_raw a0 ff_76_0 Try.sizeOf9 (by decide) rfl) <|
      Obls.cons (Obl.plain rfl rfl fun R' w' hw hs hd => by have a0 : R' 5 = (.pointer (some ⟨b2_0, 0, none⟩)) := hd 0 _ _ _ rfl rfl rfl rfl rfl; exact (of_load_box ((hO.fr hw).ok 0 _ rfl).1 a0 fl_impl_TokenCount_0 rfl Try.isAgg9 Try.sizeOf9)) <|
      Obls.cons (Obl.plain rfl rfl fun R' w' hw hs hd => by have a0 : R' 3 = (.pointer (some ⟨b3_1, 0, none⟩)) := (hs 3 rfl).trans h3; exact of_fieldAddr_raw a0 ff_76_0 Try.sizeOf9 (by decide) rfl) <|
      Obls.cons (Obl.plain rfl rfl fun R' w' hw hs hd => by have a0 : R' 7 = (.pointer (some ⟨b3_1, 0, none⟩)) := hd 0 _ _ _ rfl rfl rfl rfl rfl; exact (of_load_box ((hO.fr hw).ok 1 _ rfl).1 a0 fl_impl_TokenCount_0 rfl Try.isAgg9 Try.sizeOf9)) <|
      Obls.cons (Obl.plain rfl rfl fun R' w' hw hs hd => by have a0 : Rep eStr A w' (R' 6) p0.1 := hd 0 _ _ _ rfl rfl rfl rfl rfl; have a1 : Rep eStr A w' (R' 8) p1.1 := hd 1 _ _ _ rfl rfl rfl rfl rfl; exact of_sneq a0 a1) <|
      Obls.nil
  intro R w hw hs hF'
  replace h2 : R 2 = (.pointer (some ⟨b2_0, 0, none⟩)) := (hs 2 rfl).trans h2
  replace h3 : R 3 = (.pointer (some ⟨b3_1, 0, none⟩)) := (hs 3 rfl).trans h3
  have h9 : R 9 = .bool (!(p0.1 == p1.1)) := hF' 4 _ _ rfl rfl rfl
  replace hO := hO.fr hw
  replace hA := hA.fr hw.size
  replace hF := hF.trans hw
  clear hs hF' hw
  refine seqR_nil ?_
  refine HT.cond (!(p0.1 == p1.1)) h9 (fun c3 => ?_) (fun c3 => ?_)
  · have hr := cnd_t c3 hr
    refine HT.seq ?_
    refine HT.text (l := ⟨_, true, .raw (.bool false)⟩ :: []) (tl := []) (by kernel_rfl) (by kernel_rfl) (by kernel_rfl) ?_ ?_
    · exact
        Obls.cons (Obl.plain rfl rfl fun R' w' hw hs hd => by exact of_assign rfl) <|
        Obls.nil
    intro R w hw hs hF'
    have h4 : R 4 = .bool false := hF' 0 _ _ rfl rfl rfl
    replace hO := hO.fr hw
    replace hO : IniOK [] A w := hO.sub [] trivial
    replace hA := hA.fr hw.size
    replace hF := hF.trans hw
    clear hs hF' hw
    refine seqR_nil ?_
    refine HT.ret ?_
    obtain rfl := Option.some.inj hr
    exact ⟨.inr rfl, [R 4], ⟨rfl, trivial⟩, h4, hF⟩
  · have hr := cnd_f c3 hr
    refine HT.skip ?_
    refine HT.seq ?_
    refine HT.seq ?_
    refine HT.text (l := ⟨_, true, .raw (.pointer (some ⟨b2_0, 1, none⟩))⟩ :: ⟨_, true, .raw (.int .i64 p0.2)⟩ :: ⟨_, true, .raw (.pointer (some ⟨b3_1, 1, none⟩))⟩ :: ⟨_, true, .raw (.int .i64 p1.2)⟩ :: ⟨_, true, .raw (.bool (p0.2 != p1.2))⟩ :: []) (tl := []) (by kernel_rfl) (by kernel_rfl) (by kernel_rfl) ?_ ?_
    · exact
        Obls.cons (Obl.plain rfl rfl fun R' w' hw hs hd => by have a0 : R' 2 = (.pointer (some ⟨b2_0, 0, none⟩)) := (hs 2 rfl).trans h2; exact of_fieldAddr_raw a0 ff_76_1 Try.sizeOf3 (by decide) rfl) <|
        Obls.cons (Obl.plain rfl rfl fun R' w' hw hs hd => by have a0 : R' 10 = (.pointer (some ⟨b2_0, 1, none⟩)) := hd 0 _ _ _ rfl rfl rfl rfl rfl; exact OpF.int (of_load_box ((hO.fr hw).ok 0 _ rfl).1 a0 fl_impl_TokenCount_1 rfl Try.isAgg3 Try.sizeOf3)) <|
        Obls.cons (Obl.plain rfl rfl fun R' w' hw hs hd => by have a0 : R' 3 = (.pointer (some ⟨b3_1, 0, none⟩)) := (hs 3 rfl).trans h3; exact of_fieldAddr_raw a0 ff_76_1 Try.sizeOf3 (by decide) rfl) <|
        Obls.cons (Obl.plain rfl rfl fun R' w' hw hs hd => by have a0 : R' 12 = (.pointer (some ⟨b3_1, 1, none⟩)) := hd 0 _ _ _ rfl rfl rfl rfl rfl; exact OpF.int (of_load_box ((hO.fr hw).ok 1 _ rfl).1 a0 fl_impl_TokenCount_1 rfl Try.isAgg3 Try.sizeOf3)) <|
        Obls.cons (Obl.plain rfl rfl fun R' w' hw hs hd => by have a0 : R' 11 = .int .i64 p0.2 := hd 0 _ _ _ rfl rfl rfl rfl rfl; have a1 : R' 13 = .int .i64 p1.2 := hd 1 _ _ _ rfl rfl rfl rfl rfl; exact of_neq a0 a1) <|
        Obls.nil
    intro R w hw hs hF'
    have h14 : R 14 = .bool (p0.2 != p1.2) := hF' 4 _ _ rfl rfl rfl
    replace hO := hO.fr hw
    replace hO : IniOK [] A w := hO.sub [] trivial
    replace hA := hA.fr hw.size
    replace hF := hF.trans hw
    clear hs hF' hw
    refine seqR_nil ?_
    refine HT.cond (p0.2 != p1.2) h14 (fun c4 => ?_) (fun c4 => ?_)
    · have hr := cnd_t c4 hr
      refine HT.seq ?_
      refine HT.text (l := ⟨_, true, .raw (.bool false)⟩ :: []) (tl := []) (by kernel_rfl) (by kernel_rfl) (by kernel_rfl) ?_ ?_
      · exact
          Obls.cons (Obl.plain rfl rfl fun R' w' hw hs hd => by exact of_assign rfl) <|
          Obls.nil
      intro R w hw hs hF'
      have h4 : R 4 = .bool false := hF' 0 _ _ rfl rfl rfl
      replace hO := hO.fr hw
      replace hA := hA.fr hw.size
      replace hF := hF.trans hw
      clear hs hF' hw
      refine seqR_nil ?_
      refine HT.ret ?_
      obtain rfl := Option.some.inj hr
      exact ⟨.inr rfl, [R 4], ⟨rfl, trivial⟩, h4, hF⟩
    · have hr := cnd_f c4 hr
      refine HT.skip ?_
      refine HT.seq ?_
      refine HT.text (l := ⟨_, true, .raw (.bool true)⟩ :: []) (tl := []) (by kernel_rfl) (by kernel_rfl) (by kernel_rfl) ?_ ?_
      · exact
          Obls.cons (Obl.plain rfl rfl fun R' w' hw hs hd => by exact of_assign rfl) <|
          Obls.nil
      intro R w hw hs hF'
      have h4 : R 4 = .bool true := hF' 0 _ _ rfl rfl rfl
      replace hO := hO.fr hw
      replace hA := hA.fr hw.size
      replace hF := hF.trans hw
      clear hs hF' hw
      refine seqR_nil ?_
      refine HT.ret ?_
      obtain rfl := Option.some.inj hr
      exact ⟨.inr rfl, [R 4], ⟨rfl, trivial⟩, h4, hF⟩
def M_laws_eqTokenCountS_L0 (fu : Nat) (p0 : List T_impl_TokenCount) (p1 : List T_impl_TokenCount) : Nat → Int → Option (Ex Bool Unit)
  | 0, _ => none
  | k + 1, y5 =>
    bif (decide (y5 < (p0.length : Int))) then (
      ck (inR y5 p0.length) <|
      ck (inR y5 p1.length) <|
      cl true (M_laws_eqTokenCount fu (gtD p0 y5) (gtD p1 y5)) fun x9 =>
      bif (!x9) then (
        some (Ex.ret false)
      ) else (
        ck (i64B (y5 + (1 : Int))) <|
        M_laws_eqTokenCountS_L0 fu p0 p1 k (y5 + (1 : Int))
      )
    ) else (
      some (Ex.go ())
    )
def M_laws_eqTokenCountS (fu : Nat) (p0 : List T_impl_TokenCount) (p1 : List T_impl_TokenCount) : Option Bool :=
  bif ((p0.length : Int) != (p1.length : Int)) then (
    some false
  ) else (
    cl true (M_laws_eqTokenCountS_L0 fu p0 p1 fu (0 : Int)) fun rl2 =>
    exM rl2 (fun r => some r) fun s4 =>
    some true
  )
set_option maxRecDepth 100000 in
set_option maxHeartbeats 4000000 in
theorem M_laws_eqTokenCountS_ok {fu : Nat} {A : Av} {p0 : List T_impl_TokenCount} {p1 : List T_impl_TokenCount} {r : Bool} (hr : M_laws_eqTokenCountS fu p0 p1 = some r) {w : World} {v0 : Value} {v1 : Value} (hA : AvOK A w) (h0 : Rep (eSl E_impl_TokenCount) A w v0 p0) (h1 : Rep (eSl E_impl_TokenCount) A w v1 p1) :
    Calls Try.prog 20 #[v0, v1] w fun e w' => ∃ v, e = .returned v ∧ (v = .bool r ∧ Fr w w') := by
  unfold M_laws_eqTokenCountS at hr
  obtain ⟨w0, hw0⟩ : ∃ w0, w0 = w := ⟨_, rfl⟩
  have hF : Fr w0 w := hw0 ▸ Fr.refl _
  rw [show Fr w = Fr w0 from hw0 ▸ rfl]
  clear hw0
  refine calls_of_HT2 [.tmp 4] Try.func20 Try.ntmps20 (by decide) rfl rfl (Nat.le_of_ble_eq_true rfl) ?_
  intro R hR
  have f_v0 := h0
  replace h0 : R 0 = v0 := hR 0 _ rfl
  have f_v1 := h1
  replace h1 : R 1 = v1 := hR 1 _ rfl
  clear hR
  refine HT.seq ?_
  refine HT.text (l := ⟨_, true, .raw (.bool false)⟩ :: []) (tl := []) (by kernel_rfl) (by kernel_rfl) (by kernel_rfl) ?_ ?_
  · exact
      Obls.cons (Obl.plain rfl rfl fun R' w' hw hs hd => by exact of_assign rfl) <|
      Obls.nil
  intro R w hw hs hF'
  replace h0 : R 0 = v0 := (hs 0 rfl).trans h0
  replace h1 : R 1 = v1 := (hs 1 rfl).trans h1
  replace f_v0 := f_v0.fr hw
  replace f_v1 := f_v1.fr hw
  replace hA := hA.fr hw.size
  replace hF := hF.trans hw
  clear hs hF' hw
  refine seqR_nil ?_
  refine HT.seq ?_
  refine HT.seq ?_
  refine HT.text (l := ⟨_, true, .raw v0⟩ :: ⟨_, true, .raw (.int .i64 (p0.length : Int))⟩ :: ⟨_, true, .raw v1⟩ :: ⟨_, true, .raw (.int .i64 (p1.length : Int))⟩ :: ⟨_, true, .raw (.bool ((p0.length : Int) != (p1.length : Int)))⟩ :: []) (tl := []) (by kernel_rfl) (by kernel_rfl) (by kernel_rfl) ?_ ?_
  · exact
      Obls.cons (Obl.plain rfl rfl fun R' w' hw hs hd => by have a0 : R' 0 = v0 := (hs 0 rfl).trans h0; exact of_move a0) <|
      Obls.cons (Obl.plain rfl rfl fun R' w' hw hs hd => by have a0 : R' 6 = v0 := hd 0 _ _ _ rfl rfl rfl rfl rfl; have ra0 := (f_v0.fr hw).eq a0; exact of_len_sl (aT := #[]) ra0 Try.underlying27) <|
      Obls.cons (Obl.plain rfl rfl fun R' w' hw hs hd => by have a0 : R' 1 = v1 := (hs 1 rfl).trans h1; exact of_move a0) <|
      Obls.cons (Obl.plain rfl rfl fun R' w' hw hs hd => by have a0 : R' 8 = v1 := hd 0 _ _ _ rfl rfl rfl rfl rfl; have ra0 := (f_v1.fr hw).eq a0; exact of_len_sl (aT := #[]) ra0 Try.underlying27) <|
      Obls.cons (Obl.plain rfl rfl fun R' w' hw hs hd => by have a0 : R' 7 = .int .i64 (p0.length : Int) := hd 0 _ _ _ rfl rfl rfl rfl rfl; have a1 : R' 9 = .int .i64 (p1.length : Int) := hd 1 _ _ _ rfl rfl rfl rfl rfl; exact of_neq a0 a1) <|
      Obls.nil
  intro R w hw hs hF'
  replace h0 : R 0 = v0 := (hs 0 rfl).trans h0
  replace h1 : R 1 = v1 := (hs 1 rfl).trans h1
  have h10 : R 10 = .bool ((p0.length : Int) != (p1.length : Int)) := hF' 4 _ _ rfl rfl rfl
  replace f_v0 := f_v0.fr hw
  replace f_v1 := f_v1.fr hw
  replace hA := hA.fr hw.size
  replace hF := hF.trans hw
  clear hs hF' hw
  refine seqR_nil ?_
  refine HT.cond ((p0.length : Int) != (p1.length : Int)) h10 (fun c1 => ?_) (fun c1 => ?_)
  · have hr := cnd_t c1 hr
    refine HT.seq ?_
    refine HT.text (l := ⟨_, true, .raw (.bool false)⟩ :: []) (tl := []) (by kernel_rfl) (by kernel_rfl) (by kernel_rfl) ?_ ?_
    · exact
        Obls.cons (Obl.plain rfl rfl fun R' w' hw hs hd => by exact of_assign rfl) <|
        Obls.nil
    intro R w hw hs hF'
    have h4 : R 4 = .bool false := hF' 0 _ _ rfl rfl rfl
    replace hA := hA.fr hw.size
    replace hF := hF.trans hw
    clear hs hF' hw
    refine seqR_nil ?_
    refine HT.ret ?_
    obtain rfl := Option.some.inj hr
    exact ⟨.inr rfl, [R 4], ⟨rfl, trivial⟩, h4, hF⟩
  · have hr := cnd_f c1 hr
    refine HT.skip ?_
    refine HT.seq ?_
    refine HT.seq ?_
    refine HT.text (l := ⟨_, true, .raw (.int .i64 (0 : Int))⟩ :: []) (tl := []) (by kernel_rfl) (by kernel_rfl) (by kernel_rfl) ?_ ?_
    · exact
        Obls.cons (Obl.plain rfl rfl fun R' w' hw hs hd => by exact of_assign rfl) <|
        Obls.nil
    intro R w hw hs hF'
    replace h0 : R 0 = v0 := (hs 0 rfl).trans h0
    replace h1 : R 1 = v1 := (hs 1 rfl).trans h1
    have h5 : R 5 = .int .i64 (0 : Int) := hF' 0 _ _ rfl rfl rfl
    replace f_v0 := f_v0.fr hw
    replace f_v1 := f_v1.fr hw
    replace hA := hA.fr hw.size
    replace hF := hF.trans hw
    clear hs hF' hw
    refine seqR_nil ?_
    obtain ⟨rl2, q3, hr⟩ := cl_some hr
    replace q3 := q3 rfl
    refine HT.cut0 (fun R w => ∃ (s4 : Unit), rl2 = Ex.go s4 ∧ AvOK A w ∧ Fr w0 w) ?_ ?_
    · refine HT.block ?_
      refine HT.loop (fun k R w => ∃ (y5 : Int), M_laws_eqTokenCountS_L0 fu p0 p1 k y5 = some rl2 ∧ AvOK A w ∧ Fr w0 w ∧ R 0 = v0 ∧ R 1 = v1 ∧ R 5 = .int .i64 y5 ∧ Rep (eSl E_impl_TokenCount) A w v0 p0 ∧ Rep (eSl E_impl_TokenCount) A w v1 p1) fu ⟨_, q3, hA, hF, h0, h1, h5, f_v0, f_v1⟩ ?_
      have hr0 := hr; clear hr q3
      rintro k R w ⟨y5, hr, hA, hF, h0, h1, h5, f_v0, f_v1⟩
      rcases k with _ | k
      · cases (show none = some _ from hr)
      rw [M_laws_eqTokenCountS_L0] at hr
      refine HT.seq ?_
      refine HT.seq ?_
      refine HT.text (l := ⟨_, true, .raw (.int .i64 y5)⟩ :: ⟨_, true, .raw v0⟩ :: ⟨_, true, .raw (.int .i64 (p0.length : Int))⟩ :: ⟨_, true, .raw (.bool (decide (y5 < (p0.length : Int))))⟩ :: []) (tl := []) (by kernel_rfl) (by kernel_rfl) (by kernel_rfl) ?_ ?_
      · exact
          Obls.cons (Obl.plain rfl rfl fun R' w' hw hs hd => by have a0 : R' 5 = .int .i64 y5 := (hs 5 rfl).trans h5; exact of_move a0) <|
          Obls.cons (Obl.plain rfl rfl fun R' w' hw hs hd => by have a0 : R' 0 = v0 := (hs 0 rfl).trans h0; exact of_move a0) <|
          Obls.cons (Obl.plain rfl rfl fun R' w' hw hs hd => by have a0 : R' 12 = v0 := hd 0 _ _ _ rfl rfl rfl rfl rfl; have ra0 := (f_v0.fr hw).eq a0; exact of_len_sl (aT := #[]) ra0 Try.underlying27) <|
          Obls.cons (Obl.plain rfl rfl fun R' w' hw hs hd => by have a0 : R' 11 = .int .i64 y5 := hd 0 _ _ _ rfl rfl rfl rfl rfl; have a1 : R' 13 = .int .i64 (p0.length : Int) := hd 1 _ _ _ rfl rfl rfl rfl rfl; exact of_lss a0 a1) <|
          Obls.nil
      intro R w hw hs hF'
      replace h0 : R 0 = v0 := (hs 0 rfl).trans h0
      replace h1 : R 1 = v1 := (hs 1 rfl).trans h1
      replace h5 : R 5 = .int .i64 y5 := (hs 5 rfl).trans h5
      have h14 : R 14 = .bool (decide (y5 < (p0.length : Int))) := hF' 3 _ _ rfl rfl rfl
      replace f_v0 := f_v0.fr hw
      replace f_v1 := f_v1.fr hw
      replace hA := hA.fr hw.size
      replace hF := hF.trans hw
      clear hs hF' hw
      refine seqR_nil ?_
      refine HT.cond (decide (y5 < (p0.length : Int))) h14 (fun c6 => ?_) (fun c6 => ?_)
      · have hr := cnd_t c6 hr
        refine HT.skip ?_
        refine HT.seq ?_
        refine HT.block ?_
        refine HT.seq ?_
        obtain ⟨e7, hr⟩ := ck_some hr
        obtain ⟨e8, hr⟩ := ck_some hr
        obtain ⟨x9, q10, hr⟩ := cl_some hr
        refine HT.draw (by kernel_rfl) (l := ⟨_, true, .raw v0⟩ :: ⟨_, true, .raw (.int .i64 y5)⟩ :: ⟨_, true, .qtr E_impl_TokenCount A (gtD p0 y5)⟩ :: ⟨_, true, .rep E_impl_TokenCount A (gtD p0 y5)⟩ :: ⟨_, true, .raw v1⟩ :: ⟨_, true, .raw (.int .i64 y5)⟩ :: ⟨_, true, .qtr E_impl_TokenCount A (gtD p1 y5)⟩ :: ⟨_, true, .rep E_impl_TokenCount A (gtD p1 y5)⟩ :: ⟨_, true, .raw (.bool x9)⟩ :: ⟨_, true, .raw (.bool (!x9))⟩ :: []) (tl := []) (by kernel_rfl) (by kernel_rfl) (by kernel_rfl) (by kernel_rfl) ?_ ?_
        · exact
            Obls.cons (Obl.plain rfl rfl fun R' w' hw hs hd => by have a0 : R' 0 = v0 := (hs 0 rfl).trans h0; exact of_move a0) <|
            Obls.cons (Obl.plain rfl rfl fun R' w' hw hs hd => by have a0 : R' 5 = .int .i64 y5 := (hs 5 rfl).trans h5; exact of_move a0) <|
            Obls.cons (Obl.plain rfl rfl fun R' w' hw hs hd => by have a0 : R' 17 = v0 := hd 0 _ _ _ rfl rfl rfl rfl rfl; have a1 : R' 18 = .int .i64 y5 := hd 1 _ _ _ rfl rfl rfl rfl rfl; have ra0 := (f_v0.fr hw).eq a0; exact of_indexAddr ra0 a1 Try.underlying27 Try.sizeOf76 e7) <|
            Obls.cons (Obl.plain rfl rfl fun R' w' hw hs hd => by have a0 : QRep E_impl_TokenCount A w' (R' 19) (gtD p0 y5) := hd 0 _ _ _ rfl rfl rfl rfl rfl; exact (of_load a0.ptr Try.isAgg76 Try.sizeOf76)) <|
            Obls.cons (Obl.plain rfl rfl fun R' w' hw hs hd => by have a0 : R' 1 = v1 := (hs 1 rfl).trans h1; exact of_move a0) <|
            Obls.cons (Obl.plain rfl rfl fun R' w' hw hs hd => by have a0 : R' 5 = .int .i64 y5 := (hs 5 rfl).trans h5; exact of_move a0) <|
            Obls.cons (Obl.plain rfl rfl fun R' w' hw hs hd => by have a0 : R' 21 = v1 := hd 0 _ _ _ rfl rfl rfl rfl rfl; have a1 : R' 22 = .int .i64 y5 := hd 1 _ _ _ rfl rfl rfl rfl rfl; have ra0 := (f_v1.fr hw).eq a0; exact of_indexAddr ra0 a1 Try.underlying27 Try.sizeOf76 e8) <|
            Obls.cons (Obl.plain rfl rfl fun R' w' hw hs hd => by have a0 : QRep E_impl_TokenCount A w' (R' 23) (gtD p1 y5) := hd 0 _ _ _ rfl rfl rfl rfl rfl; exact (of_load a0.ptr Try.isAgg76 Try.sizeOf76)) <|
            Obls.cons (Obl.plain rfl rfl fun R' w' hw hs hd => by have a0 : Rep E_impl_TokenCount A w' (R' 20) (gtD p0 y5) := hd 0 _ _ _ rfl rfl rfl rfl rfl; have a1 : Rep E_impl_TokenCount A w' (R' 24) (gtD p1 y5) := hd 1 _ _ _ rfl rfl rfl rfl rfl; exact of_call Try.call68 (M_laws_eqTokenCount_ok (q10 rfl) (hA.fr hw.size) a0 a1)) <|
            Obls.cons (Obl.plain rfl rfl fun R' w' hw hs hd => by have a0 : R' 25 = .bool x9 := hd 0 _ _ _ rfl rfl rfl rfl rfl; exact of_not a0) <|
            Obls.nil
        intro R w hw hs hF'
        replace h0 : R 0 = v0 := (hs 0 rfl).trans h0
        replace h1 : R 1 = v1 := (hs 1 rfl).trans h1
        replace h5 : R 5 = .int .i64 y5 := (hs 5 rfl).trans h5
        have h26 : R 26 = .bool (!x9) := hF' 9 _ _ rfl rfl rfl
        replace f_v0 := f_v0.fr hw
        replace f_v1 := f_v1.fr hw
        replace hA := hA.fr hw.size
        replace hF := hF.trans hw
        clear hs hF' hw
        refine seqR_nil ?_
        refine HT.cond (!x9) h26 (fun c11 => ?_) (fun c11 => ?_)
        · have hr := cnd_t c11 hr
          refine HT.seq ?_
          refine HT.text (l := ⟨_, true, .raw (.bool false)⟩ :: []) (tl := []) (by kernel_rfl) (by kernel_rfl) (by kernel_rfl) ?_ ?_
          · exact
              Obls.cons (Obl.plain rfl rfl fun R' w' hw hs hd => by exact of_assign rfl) <|
              Obls.nil
          intro R w hw hs hF'
          have h4 : R 4 = .bool false := hF' 0 _ _ rfl rfl rfl
          replace hA := hA.fr hw.size
          replace hF := hF.trans hw
          clear hs hF' hw
          refine seqR_nil ?_
          refine HT.ret ?_
          obtain rfl := Option.some.inj hr
          have hr := hr0
          replace hr : some _ = some _ := hr
          obtain rfl := Option.some.inj hr
          exact ⟨.inr rfl, [R 4], ⟨rfl, trivial⟩, h4, hF⟩
        · have hr := cnd_f c11 hr
          refine HT.skip ?_
          obtain ⟨e12, hr⟩ := ck_some hr
          refine HT.text (l := ⟨_, true, .raw (.int .i64 y5)⟩ :: ⟨_, true, .raw (.int .i64 (y5 + (1 : Int)))⟩ :: ⟨_, true, .raw (.int .i64 (y5 + (1 : Int)))⟩ :: []) (tl := []) (by kernel_rfl) (by kernel_rfl) (by kernel_rfl) ?_ ?_
          · exact
              Obls.cons (Obl.plain rfl rfl fun R' w' hw hs hd => by have a0 : R' 5 = .int .i64 y5 := (hs 5 rfl).trans h5; exact of_move a0) <|
              Obls.cons (Obl.plain rfl rfl fun R' w' hw hs hd => by have a0 : R' 15 = .int .i64 y5 := hd 0 _ _ _ rfl rfl rfl rfl rfl; exact of_add a0 rfl e12) <|
              Obls.cons (Obl.plain rfl rfl fun R' w' hw hs hd => by have a0 : R' 16 = .int .i64 (y5 + (1 : Int)) := hd 0 _ _ _ rfl rfl rfl rfl rfl; exact of_assign a0) <|
              Obls.nil
          intro R w hw hs hF'
          replace h0 : R 0 = v0 := (hs 0 rfl).trans h0
          replace h1 : R 1 = v1 := (hs 1 rfl).trans h1
          have h5 : R 5 = .int .i64 (y5 + (1 : Int)) := hF' 2 _ _ rfl rfl rfl
          replace f_v0 := f_v0.fr hw
          replace f_v1 := f_v1.fr hw
          replace hA := hA.fr hw.size
          replace hF := hF.trans hw
          clear hs hF' hw
          refine seqR_nil ?_
          exact Exists.intro k (And.intro (Nat.lt_succ_self k) ⟨_, hr, hA, hF, h0, h1, h5, f_v0, f_v1⟩)
      · have hr := cnd_f c6 hr
        refine HT.exit ?_
        obtain rfl := Option.some.inj hr
        exact Exists.intro _ ⟨rfl, hA, hF⟩
    rintro R w ⟨s4, rfl, hA, hF⟩
    have hr := exM_go hr
    refine HT.seq ?_
    refine HT.text (l := ⟨_, true, .raw (.bool true)⟩ :: []) (tl := []) (by kernel_rfl) (by kernel_rfl) (by kernel_rfl) ?_ ?_
    · exact
        Obls.cons (Obl.plain rfl rfl fun R' w' hw hs hd => by exact of_assign rfl) <|
        Obls.nil
    intro R w hw hs hF'
    have h4 : R 4 = .bool true := hF' 0 _ _ rfl rfl rfl
    replace hA := hA.fr hw.size
    replace hF := hF.trans hw
    clear hs hF' hw
    refine seqR_nil ?_
    refine HT.ret ?_
    obtain rfl := Option.some.inj hr
    exact ⟨.inr rfl, [R 4], ⟨rfl, trivial⟩, h4, hF⟩
def M_laws_eqStringS_L0 (fu : Nat) (p0 : List (List UInt8)) (p1 : List (List UInt8)) : Nat → Int → Option (Ex Bool Unit)
  | 0, _ => none
  | k + 1, y5 =>
    bif (decide (y5 < (p0.length : Int))) then (
      ck (inR y5 p0.length) <|
      ck (inR y5 p1.length) <|
      bif (!((gtD p0 y5) == (gtD p1 y5))) then (
        some (Ex.ret false)
      ) else (
        ck (i64B (y5 + (1 : Int))) <|
        M_laws_eqStringS_L0 fu p0 p1 k (y5 + (1 : Int))
      )
    ) else (
      some (Ex.go ())
    )
def M_laws_eqStringS (fu : Nat) (p0 : List (List UInt8)) (p1 : List (List UInt8)) : Option Bool :=
  bif ((p0.length : Int) != (p1.length : Int)) then (
    some false
  ) else (
    cl true (M_laws_eqStringS_L0 fu p0 p1 fu (0 : Int)) fun rl2 =>
    exM rl2 (fun r => some r) fun s4 =>
    some true
  )
set_option maxRecDepth 100000 in
set_option maxHeartbeats 4000000 in
theorem M_laws_eqStringS_ok {fu : Nat} {A : Av} {p0 : List (List UInt8)} {p1 : List (List UInt8)} {r : Bool} (hr : M_laws_eqStringS fu p0 p1 = some r) {w : World} {v0 : Value} {v1 : Value} (hA : AvOK A w) (h0 : Rep (eSl eStr) A w v0 p0) (h1 : Rep (eSl eStr) A w v1 p1) :
    Calls Try.prog 19 #[v0, v1] w fun e w' => ∃ v, e = .returned v ∧ (v = .bool r ∧ Fr w w') := by
  unfold M_laws_eqStringS at hr
  obtain ⟨w0, hw0⟩ : ∃ w0, w0 = w := ⟨_, rfl⟩
  have hF : Fr w0 w := hw0 ▸ Fr.refl _
  rw [show Fr w = Fr w0 from hw0 ▸ rfl]
  clear hw0
  refine calls_of_HT2 [.tmp 4] Try.func19 Try.ntmps19 (by decide) rfl rfl (Nat.le_of_ble_eq_true rfl) ?_
  intro R hR
  have f_v0 := h0
  replace h0 : R 0 = v0 := hR 0 _ rfl
  have f_v1 := h1
  replace h1 : R 1 = v1 := hR 1 _ rfl
  clear hR
  refine HT.seq ?_
  refine HT.text (l := ⟨_, true, .raw (.bool false)⟩ :: []) (tl := []) (by kernel_rfl) (by kernel_rfl) (by kernel_rfl) ?_ ?_
  · exact
      Obls.cons (Obl.plain rfl rfl fun R' w' hw hs hd => by exact of_assign rfl) <|
      Obls.nil
  intro R w hw hs hF'
  replace h0 : R 0 = v0 := (hs 0 rfl).trans h0
  replace h1 : R 1 = v1 := (hs 1 rfl).trans h1
  replace f_v0 := f_v0.fr hw
  replace f_v1 := f_v1.fr hw
  replace hA := hA.fr hw.size
  replace hF := hF.trans hw
  clear hs hF' hw
  refine seqR_nil ?_
  refine HT.seq ?_
  refine HT.seq ?_
  refine HT.text (l := ⟨_, true, .raw v0⟩ :: ⟨_, true, .raw (.int .i64 (p0.length : Int))⟩ :: ⟨_, true, .raw v1⟩ :: ⟨_, true, .raw (.int .i64 (p1.length : Int))⟩ :: ⟨_, true, .raw (.bool ((p0.length : Int) != (p1.length : Int)))⟩ :: []) (tl := []) (by kernel_rfl) (by kernel_rfl) (by kernel_rfl) ?_ ?_
  · exact
      Obls.cons (Obl.plain rfl rfl fun R' w' hw hs hd => by have a0 : R' 0 = v0 := (hs 0 rfl).trans h0; exact of_move a0) <|
      Obls.cons (Obl.plain rfl rfl fun R' w' hw hs hd => by have a0 : R' 6 = v0 := hd 0 _ _ _ rfl rfl rfl rfl rfl; have ra0 := (f_v0.fr hw).eq a0; exact of_len_sl (aT := #[]) ra0 Try.underlying23) <|
      Obls.cons (Obl.plain rfl rfl fun R' w' hw hs hd => by have a0 : R' 1 = v1 := (hs 1 rfl).trans h1; exact of_move a0) <|
      Obls.cons (Obl.plain rfl rfl fun R' w' hw hs hd => by have a0 : R' 8 = v1 := hd 0 _ _ _ rfl rfl rfl rfl rfl; have ra0 := (f_v1.fr hw).eq a0; exact of_len_sl (aT := #[]) ra0 Try.underlying23) <|
      Obls.cons (Obl.plain rfl rfl fun R' w' hw hs hd => by have a0 : R' 7 = .int .i64 (p0.length : Int) := hd 0 _ _ _ rfl rfl rfl rfl rfl; have a1 : R' 9 = .int .i64 (p1.length : Int) := hd 1 _ _ _ rfl rfl rfl rfl rfl; exact of_neq a0 a1) <|
      Obls.nil
  intro R w hw hs hF'
  replace h0 : R 0 = v0 := (hs 0 rfl).trans h0
  replace h1 : R 1 = v1 := (hs 1 rfl).trans h1
  have h10 : R 10 = .bool ((p0.length : Int) != (p1.length : Int)) := hF' 4 _ _ rfl rfl rfl
  replace f_v0 := f_v0.fr hw
  replace f_v1 := f_v1.fr hw
  replace hA := hA.fr hw.size
  replace hF := hF.trans hw
  clear hs hF' hw
  refine seqR_nil ?_
  refine HT.cond ((p0.length : Int) != (p1.length : Int)) h10 (fun c1 => ?_) (fun c1 => ?_)
  · have hr := cnd_t c1 hr
    refine HT.seq ?_
    refine HT.text (l := ⟨_, true, .raw (.bool false)⟩ :: []) (tl := []) (by kernel_rfl) (by kernel_rfl) (by kernel_rfl) ?_ ?_
    · exact
        Obls.cons (Obl.plain rfl rfl fun R' w' hw hs hd => by exact of_assign rfl) <|
        Obls.nil
    intro R w hw hs hF'
    have h4 : R 4 = .bool false := hF' 0 _ _ rfl rfl rfl
    replace hA := hA.fr hw.size
    replace hF := hF.trans hw
    clear hs hF' hw
    refine seqR_nil ?_
    refine HT.ret ?_
    obtain rfl := Option.some.inj hr
    exact ⟨.inr rfl, [R 4], ⟨rfl, trivial⟩, h4, hF⟩
  · have hr := cnd_f c1 hr
    refine HT.skip ?_
    refine HT.seq ?_
    refine HT.seq ?_
    refine HT.text (l := ⟨_, true, .raw (.int .i64 (0 : Int))⟩ :: []) (tl := []) (by kernel_rfl) (by kernel_rfl) (by kernel_rfl) ?_ ?_
    · exact
        Obls.cons (Obl.plain rfl rfl fun R' w' hw hs hd => by exact of_assign rfl) <|
        Obls.nil
    intro R w hw hs hF'
    replace h0 : R 0 = v0 := (hs 0 rfl).trans h0
    replace h1 : R 1 = v1 := (hs 1 rfl).trans h1
    have h5 : R 5 = .int .i64 (0 : Int) := hF' 0 _ _ rfl rfl rfl
    replace f_v0 := f_v0.fr hw
    replace f_v1 := f_v1.fr hw
    replace hA := hA.fr hw.size
    replace hF := hF.trans hw
    clear hs hF' hw
    refine seqR_nil ?_
    obtain ⟨rl2, q3, hr⟩ := cl_some hr
    replace q3 := q3 rfl
    refine HT.cut0 (fun R w => ∃ (s4 : Unit), rl2 = Ex.go s4 ∧ AvOK A w ∧ Fr w0 w) ?_ ?_
    · refine HT.block ?_
      refine HT.loop (fun k R w => ∃ (y5 : Int), M_laws_eqStringS_L0 fu p0 p1 k y5 = some rl2 ∧ AvOK A w ∧ Fr w0 w ∧ R 0 = v0 ∧ R 1 = v1 ∧ R 5 = .int .i64 y5 ∧ Rep (eSl eStr) A w v0 p0 ∧ Rep (eSl eStr) A w v1 p1) fu ⟨_, q3, hA, hF, h0, h1, h5, f_v0, f_v1⟩ ?_
      have hr0 := hr; clear hr q3
      rintro k R w ⟨y5, hr, hA, hF, h0, h1, h5, f_v0, f_v1⟩
      rcases k with _ | k
      · cases (show none = some _ from hr)
      rw [M_laws_eqStringS_L0] at hr
      refine HT.seq ?_
      refine HT.seq ?_
      refine HT.text (l := ⟨_, true, .raw (.int .i64 y5)⟩ :: ⟨_, true, .raw v0⟩ :: ⟨_, true, .raw (.int .i64 (p0.length : Int))⟩ :: ⟨_, true, .raw (.bool (decide (y5 < (p0.length : Int))))⟩ :: []) (tl := []) (by kernel_rfl) (by kernel_rfl) (by kernel_rfl) ?_ ?_
      · exact
          Obls.cons (Obl.plain rfl rfl fun R' w' hw hs hd => by have a0 : R' 5 = .int .i64 y5 := (hs 5 rfl).trans h5; exact of_move a0) <|
          Obls.cons (Obl.plain rfl rfl fun R' w' hw hs hd => by have a0 : R' 0 = v0 := (hs 0 rfl).trans h0; exact of_move a0) <|
          Obls.cons (Obl.plain rfl rfl fun R' w' hw hs hd => by have a0 : R' 12 = v0 := hd 0 _ _ _ rfl rfl rfl rfl rfl; have ra0 := (f_v0.fr hw).eq a0; exact of_len_sl (aT := #[]) ra0 Try.underlying23) <|
          Obls.cons (Obl.plain rfl rfl fun R' w' hw hs hd => by have a0 : R' 11 = .int .i64 y5 := hd 0 _ _ _ rfl rfl rfl rfl rfl; have a1 : R' 13 = .int .i64 (p0.length : Int) := hd 1 _ _ _ rfl rfl rfl rfl rfl; exact of_lss a0 a1) <|
          Obls.nil
      intro R w hw hs hF'
      replace h0 : R 0 = v0 := (hs 0 rfl).trans h0
      replace h1 : R 1 = v1 := (hs 1 rfl).trans h1
      replace h5 : R 5 = .int .i64 y5 := (hs 5 rfl).trans h5
      have h14 : R 14 = .bool (decide (y5 < (p0.length : Int))) := hF' 3 _ _ rfl rfl rfl
      replace f_v0 := f_v0.fr hw
      replace f_v1 := f_v1.fr hw
      replace hA := hA.fr hw.size
      replace hF := hF.trans hw
      clear hs hF' hw
      refine seqR_nil ?_
      refine HT.cond (decide (y5 < (p0.length : Int))) h14 (fun c6 => ?_) (fun c6 => ?_)
      · have hr := cnd_t c6 hr
        refine HT.skip ?_
        refine HT.seq ?_
        refine HT.block ?_
        refine HT.seq ?_
        obtain ⟨e7, hr⟩ := ck_some hr
        obtain ⟨e8, hr⟩ := ck_some hr
        refine HT.draw (by kernel_rfl) (l := ⟨_, true, .raw v0⟩ :: ⟨_, true, .raw (.int .i64 y5)⟩ :: ⟨_, true, .qtr eStr A (gtD p0 y5)⟩ :: ⟨_, true, .rep eStr A (gtD p0 y5)⟩ :: ⟨_, true, .raw v1⟩ :: ⟨_, true, .raw (.int .i64 y5)⟩ :: ⟨_, true, .qtr eStr A (gtD p1 y5)⟩ :: ⟨_, true, .rep eStr A (gtD p1 y5)⟩ :: ⟨_, true, .raw (.bool (!((gtD p0 y5) == (gtD p1 y5))))⟩ :: []) (tl := []) (by kernel_rfl) (by kernel_rfl) (by kernel_rfl) (by kernel_rfl) ?_ ?_
        · exact
            Obls.cons (Obl.plain rfl rfl fun R' w' hw hs hd => by have a0 : R' 0 = v0 := (hs 0 rfl).trans h0; exact of_move a0) <|
            Obls.cons (Obl.plain rfl rfl fun R' w' hw hs hd => by have a0 : R' 5 = .int .i64 y5 := (hs 5 rfl).trans h5; exact of_move a0) <|
            Obls.cons (Obl.plain rfl rfl fun R' w' hw hs hd => by have a0 : R' 17 = v0 := hd 0 _ _ _ rfl rfl rfl rfl rfl; have a1 : R' 18 = .int .i64 y5 := hd 1 _ _ _ rfl rfl rfl rfl rfl; have ra0 := (f_v0.fr hw).eq a0; exact of_indexAddr ra0 a1 Try.underlying23 Try.sizeOf9 e7) <|
            Obls.cons (Obl.plain rfl rfl fun R' w' hw hs hd => by have a0 : QRep eStr A w' (R' 19) (gtD p0 y5) := hd 0 _ _ _ rfl rfl rfl rfl rfl; exact (of_load a0.ptr Try.isAgg9 Try.sizeOf9)) <|
            Obls.cons (Obl.plain rfl rfl fun R' w' hw hs hd => by have a0 : R' 1 = v1 := (hs 1 rfl).trans h1; exact of_move a0) <|
            Obls.cons (Obl.plain rfl rfl fun R' w' hw hs hd => by have a0 : R' 5 = .int .i64 y5 := (hs 5 rfl).trans h5; exact of_move a0) <|
            Obls.cons (Obl.plain rfl rfl fun R' w' hw hs hd => by have a0 : R' 21 = v1 := hd 0 _ _ _ rfl rfl rfl rfl rfl; have a1 : R' 22 = .int .i64 y5 := hd 1 _ _ _ rfl rfl rfl rfl rfl; have ra0 := (f_v1.fr hw).eq a0; exact of_indexAddr ra0 a1 Try.underlying23 Try.sizeOf9 e8) <|
            Obls.cons (Obl.plain rfl rfl fun R' w' hw hs hd => by have a0 : QRep eStr A w' (R' 23) (gtD p1 y5) := hd 0 _ _ _ rfl rfl rfl rfl rfl; exact (of_load a0.ptr Try.isAgg9 Try.sizeOf9)) <|
            Obls.cons (Obl.plain rfl rfl fun R' w' hw hs hd => by have a0 : Rep eStr A w' (R' 20) (gtD p0 y5) := hd 0 _ _ _ rfl rfl rfl rfl rfl; have a1 : Rep eStr A w' (R' 24) (gtD p1 y5) := hd 1 _ _ _ rfl rfl rfl rfl rfl; exact of_sneq a0 a1) <|
            Obls.nil
        intro R w hw hs hF'
        replace h0 : R 0 = v0 := (hs 0 rfl).trans h0
        replace h1 : R 1 = v1 := (hs 1 rfl).trans h1
        replace h5 : R 5 = .int .i64 y5 := (hs 5 rfl).trans h5
        have h25 : R 25 = .bool (!((gtD p0 y5) == (gtD p1 y5))) := hF' 8 _ _ rfl rfl rfl
        replace f_v0 := f_v0.fr hw
        replace f_v1 := f_v1.fr hw
        replace hA := hA.fr hw.size
        replace hF := hF.trans hw
        clear hs hF' hw
        refine seqR_nil ?_
        refine HT.cond (!((gtD p0 y5) == (gtD p1 y5))) h25 (fun c9 => ?_) (fun c9 => ?_)
        · have hr := cnd_t c9 hr
          refine HT.seq ?_
          refine HT.text (l := ⟨_, true, .raw (.bool false)⟩ :: []) (tl := []) (by kernel_rfl) (by kernel_rfl) (by kernel_rfl) ?_ ?_
          · exact
              Obls.cons (Obl.plain rfl rfl fun R' w' hw hs hd => by exact of_assign rfl) <|
              Obls.nil
          intro R w hw hs hF'
          have h4 : R 4 = .bool false := hF' 0 _ _ rfl rfl rfl
          replace hA := hA.fr hw.size
          replace hF := hF.trans hw
          clear hs hF' hw
          refine seqR_nil ?_
          refine HT.ret ?_
          obtain rfl := Option.some.inj hr
          have hr := hr0
          replace hr : some _ = some _ := hr
          obtain rfl := Option.some.inj hr
          exact ⟨.inr rfl, [R 4], ⟨rfl, trivial⟩, h4, hF⟩
        · have hr := cnd_f c9 hr
          refine HT.skip ?_
          obtain ⟨e10, hr⟩ := ck_some hr
          refine HT.text (l := ⟨_, true, .raw (.int .i64 y5)⟩ :: ⟨_, true, .raw (.int .i64 (y5 + (1 : Int)))⟩ :: ⟨_, true, .raw (.int .i64 (y5 + (1 : Int)))⟩ :: []) (tl := []) (by kernel_rfl) (by kernel_rfl) (by kernel_rfl) ?_ ?_
          · exact
              Obls.cons (Obl.plain rfl rfl fun R' w' hw hs hd => by have a0 : R' 5 = .int .i64 y5 := (hs 5 rfl).trans h5; exact of_move a0) <|
              Obls.cons (Obl.plain rfl rfl fun R' w' hw hs hd => by have a0 : R' 15 = .int .i64 y5 := hd 0 _ _ _ rfl rfl rfl rfl rfl; exact of_add a0 rfl e10) <|
              Obls.cons (Obl.plain rfl rfl fun R' w' hw hs hd => by have a0 : R' 16 = .int .i64 (y5 + (1 : Int)) := hd 0 _ _ _ rfl rfl rfl rfl rfl; exact of_assign a0) <|
              Obls.nil
          intro R w hw hs hF'
          replace h0 : R 0 = v0 := (hs 0 rfl).trans h0
          replace h1 : R 1 = v1 := (hs 1 rfl).trans h1
          have h5 : R 5 = .int .i64 (y5 + (1 : Int)) := hF' 2 _ _ rfl rfl rfl
          replace f_v0 := f_v0.fr hw
          replace f_v1 := f_v1.fr hw
          replace hA := hA.fr hw.size
          replace hF := hF.trans hw
          clear hs hF' hw
          refine seqR_nil ?_
          exact Exists.intro k (And.intro (Nat.lt_succ_self k) ⟨_, hr, hA, hF, h0, h1, h5, f_v0, f_v1⟩)
      · have hr := cnd_f c6 hr
        refine HT.exit ?_
        obtain rfl := Option.some.inj hr
        exact Exists.intro _ ⟨rfl, hA, hF⟩
    rintro R w ⟨s4, rfl, hA, hF⟩
    have hr := exM_go hr
    refine HT.seq ?_
    refine HT.text (l := ⟨_, true, .raw (.bool true)⟩ :: []) (tl := []) (by kernel_rfl) (by kernel_rfl) (by kernel_rfl) ?_ ?_
    · exact
        Obls.cons (Obl.plain rfl rfl fun R' w' hw hs hd => by exact of_assign rfl) <|
        Obls.nil
    intro R w hw hs hF'
    have h4 : R 4 = .bool true := hF' 0 _ _ rfl rfl rfl
    replace hA := hA.fr hw.size
    replace hF := hF.trans hw
    clear hs hF' hw
    refine seqR_nil ?_
    refine HT.ret ?_
    obtain rfl := Option.some.inj hr
    exact ⟨.inr rfl, [R 4], ⟨rfl, trivial⟩, h4, hF⟩
end Go.Proofs.Ytfcocbokgfmjfaa
