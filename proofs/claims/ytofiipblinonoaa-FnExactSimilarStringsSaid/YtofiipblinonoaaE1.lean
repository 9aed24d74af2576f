/- Printed by dec.py: plain functions and the proofs that the code computes them. No statement of the seat is proved here. -/
import Derived.Test.YtofiipblinonoaaTy
namespace Go.Proofs.Ytofiipblinonoaa
open Go.RowKit
set_option linter.unusedVariables false
def M_laws_szStringS_L0 (fu : Nat) (p0 : List (List UInt8)) : Nat → Int → Int → Option (Ex Int Int)
  | 0, _, _ => none
  | k + 1, y6, y7 =>
    bif (decide (y7 < (p0.length : Int))) then (
      ck (inR y7 p0.length) <|
      ck (i64B (y6 - ((gtD p0 y7).length : Int))) <|
      bif (decide ((y6 - ((gtD p0 y7).length : Int)) < (0 : Int))) then (
        some (Ex.ret (-1 : Int))
      ) else (
        ck (i64B (y7 + (1 : Int))) <|
        M_laws_szStringS_L0 fu p0 k (y6 - ((gtD p0 y7).length : Int)) (y7 + (1 : Int))
      )
    ) else (
      some (Ex.go y6)
    )
def M_laws_szStringS (fu : Nat) (p0 : List (List UInt8)) (p1 : Int) : Option Int :=
  ck (i64B (p1 - (p0.length : Int))) <|
  bif (decide ((p1 - (p0.length : Int)) < (0 : Int))) then (
    some (-1 : Int)
  ) else (
    cl true (M_laws_szStringS_L0 fu p0 fu (p1 - (p0.length : Int)) (0 : Int)) fun rl3 =>
    exM rl3 (fun r => some r) fun s5 =>
    some s5
  )
set_option maxRecDepth 100000 in
set_option maxHeartbeats 4000000 in
theorem M_laws_szStringS_ok {fu : Nat} {A : Av} {p0 : List (List UInt8)} {p1 : Int} {r : Int} (hr : M_laws_szStringS fu p0 p1 = some r) {w : World} {v0 : Value} {v1 : Value} (hA : AvOK A w) (h0 : Rep (eSl eStr) A w v0 p0) (h1 : v1 = .int .i64 p1) :
    Calls Try.prog 9 #[v0, v1] w fun e w' => ∃ v, e = .returned v ∧ (v = .int .i64 r ∧ Fr w w') := by
  unfold M_laws_szStringS at hr
  obtain ⟨w0, hw0⟩ : ∃ w0, w0 = w := ⟨_, rfl⟩
  have hF : Fr w0 w := hw0 ▸ Fr.refl _
  rw [show Fr w = Fr w0 from hw0 ▸ rfl]
  clear hw0
  refine calls_of_HT2 [.tmp 4] Try.func9 Try.ntmps9 (by decide) rfl rfl (Nat.le_of_ble_eq_true rfl) ?_
  intro R hR
  have f_v0 := h0
  replace h0 : R 0 = v0 := hR 0 _ rfl
  replace h1 : R 1 = .int .i64 p1 := (hR 1 _ rfl).trans h1
  clear hR
  refine HT.seq ?_
  refine HT.text (l := ⟨_, true, .raw (.int .i64 (0 : Int))⟩ :: []) (tl := []) (by kernel_rfl) (by kernel_rfl) (by kernel_rfl) ?_ ?_
  · exact
      Obls.cons (Obl.plain rfl rfl fun R' w' hw hs hd => by exact of_assign rfl) <|
      Obls.nil
  intro R w hw hs hF'
  replace h0 : R 0 = v0 := (hs 0 rfl).trans h0
  replace h1 : R 1 = .int .i64 p1 := (hs 1 rfl).trans h1
  replace f_v0 := f_v0.fr hw
  replace hA := hA.fr hw.size
  replace hF := hF.trans hw
  clear hs hF' hw
  refine seqR_nil ?_
  refine HT.seq ?_
  obtain ⟨e1, hr⟩ := ck_some hr
  refine HT.text (l := ⟨_, true, .raw (.int .i64 p1)⟩ :: ⟨_, true, .raw v0⟩ :: ⟨_, true, .raw (.int .i64 (p0.length : Int))⟩ :: ⟨_, true, .raw (.int .i64 (p1 - (p0.length : Int)))⟩ :: ⟨_, true, .raw (.int .i64 (p1 - (p0.length : Int)))⟩ :: []) (tl := []) (by kernel_rfl) (by kernel_rfl) (by kernel_rfl) ?_ ?_
  · exact
      Obls.cons (Obl.plain rfl rfl fun R' w' hw hs hd => by have a0 : R' 1 = .int .i64 p1 := (hs 1 rfl).trans h1; exact of_move a0) <|
      Obls.cons (Obl.plain rfl rfl fun R' w' hw hs hd => by have a0 : R' 0 = v0 := (hs 0 rfl).trans h0; exact of_move a0) <|
      Obls.cons (Obl.plain rfl rfl fun R' w' hw hs hd => by have a0 : R' 7 = v0 := hd 0 _ _ _ rfl rfl rfl rfl rfl; have ra0 := (f_v0.fr hw).eq a0; exact of_len_sl (aT := #[]) ra0 Try.underlying22) <|
      Obls.cons (Obl.plain rfl rfl fun R' w' hw hs hd => by have a0 : R' 6 = .int .i64 p1 := hd 0 _ _ _ rfl rfl rfl rfl rfl; have a1 : R' 8 = .int .i64 (p0.length : Int) := hd 1 _ _ _ rfl rfl rfl rfl rfl; exact of_sub a0 a1 e1) <|
      Obls.cons (Obl.plain rfl rfl fun R' w' hw hs hd => by have a0 : R' 9 = .int .i64 (p1 - (p0.length : Int)) := hd 0 _ _ _ rfl rfl rfl rfl rfl; exact of_assign a0) <|
      Obls.nil
  intro R w hw hs hF'
  replace h0 : R 0 = v0 := (hs 0 rfl).trans h0
  have h1 : R 1 = .int .i64 (p1 - (p0.length : Int)) := hF' 4 _ _ rfl rfl rfl
  replace f_v0 := f_v0.fr hw
  replace hA := hA.fr hw.size
  replace hF := hF.trans hw
  clear hs hF' hw
  refine seqR_nil ?_
  refine HT.seq ?_
  refine HT.seq ?_
  refine HT.text (l := ⟨_, true, .raw (.int .i64 (p1 - (p0.length : Int)))⟩ :: ⟨_, true, .raw (.bool (decide ((p1 - (p0.length : Int)) < (0 : Int))))⟩ :: []) (tl := []) (by kernel_rfl) (by kernel_rfl) (by kernel_rfl) ?_ ?_
  · exact
      Obls.cons (Obl.plain rfl rfl fun R' w' hw hs hd => by have a0 : R' 1 = .int .i64 (p1 - (p0.length : Int)) := (hs 1 rfl).trans h1; exact of_move a0) <|
      Obls.cons (Obl.plain rfl rfl fun R' w' hw hs hd => by have a0 : R' 10 = .int .i64 (p1 - (p0.length : Int)) := hd 0 _ _ _ rfl rfl rfl rfl rfl; exact of_lss a0 rfl) <|
      Obls.nil
  intro R w hw hs hF'
  replace h0 : R 0 = v0 := (hs 0 rfl).trans h0
  replace h1 : R 1 = .int .i64 (p1 - (p0.length : Int)) := (hs 1 rfl).trans h1
  have h11 : R 11 = .bool (decide ((p1 - (p0.length : Int)) < (0 : Int))) := hF' 1 _ _ rfl rfl rfl
  replace f_v0 := f_v0.fr hw
  replace hA := hA.fr hw.size
  replace hF := hF.trans hw
  clear hs hF' hw
  refine seqR_nil ?_
  refine HT.cond (decide ((p1 - (p0.length : Int)) < (0 : Int))) h11 (fun c2 => ?_) (fun c2 => ?_)
  · have hr := cnd_t c2 hr
    refine HT.seq ?_
    refine HT.text (l := ⟨_, true, .raw (.int .i64 (-1 : Int))⟩ :: []) (tl := []) (by kernel_rfl) (by kernel_rfl) (by kernel_rfl) ?_ ?_
    · exact
        Obls.cons (Obl.plain rfl rfl fun R' w' hw hs hd => by exact of_assign rfl) <|
        Obls.nil
    intro R w hw hs hF'
    have h4 : R 4 = .int .i64 (-1 : Int) := hF' 0 _ _ rfl rfl rfl
    replace hA := hA.fr hw.size
    replace hF := hF.trans hw
    clear hs hF' hw
    refine seqR_nil ?_
    refine HT.ret ?_
    obtain rfl := Option.some.inj hr
    exact ⟨.inr rfl, [R 4], ⟨rfl, trivial⟩, h4, hF⟩
  · have hr := cnd_f c2 hr
    refine HT.skip ?_
    refine HT.seq ?_
    refine HT.seq ?_
    refine HT.text (l := ⟨_, true, .raw (.int .i64 (0 : Int))⟩ :: []) (tl := []) (by kernel_rfl) (by kernel_rfl) (by kernel_rfl) ?_ ?_
    · exact
        Obls.cons (Obl.plain rfl rfl fun R' w' hw hs hd => by exact of_assign rfl) <|
        Obls.nil
    intro R w hw hs hF'
    replace h0 : R 0 = v0 := (hs 0 rfl).trans h0
    replace h1 : R 1 = .int .i64 (p1 - (p0.length : Int)) := (hs 1 rfl).trans h1
    have h5 : R 5 = .int .i64 (0 : Int) := hF' 0 _ _ rfl rfl rfl
    replace f_v0 := f_v0.fr hw
    replace hA := hA.fr hw.size
    replace hF := hF.trans hw
    clear hs hF' hw
    refine seqR_nil ?_
    obtain ⟨rl3, q4, hr⟩ := cl_some hr
    replace q4 := q4 rfl
    refine HT.cut0 (fun R w => ∃ (s5 : Int), rl3 = Ex.go s5 ∧ AvOK A w ∧ Fr w0 w ∧ R 1 = .int .i64 s5) ?_ ?_
    · refine HT.block ?_
      refine HT.loop (fun k R w => ∃ (y6 : Int) (y7 : Int), M_laws_szStringS_L0 fu p0 k y6 y7 = some rl3 ∧ AvOK A w ∧ Fr w0 w ∧ R 0 = v0 ∧ R 1 = .int .i64 y6 ∧ R 5 = .int .i64 y7 ∧ Rep (eSl eStr) A w v0 p0) fu ⟨_, _, q4, hA, hF, h0, h1, h5, f_v0⟩ ?_
      have hr0 := hr; clear hr q4
      rintro k R w ⟨y6, y7, hr, hA, hF, h0, h1, h5, f_v0⟩
      rcases k with _ | k
      · cases (show none = some _ from hr)
      rw [M_laws_szStringS_L0] at hr
      refine HT.seq ?_
      refine HT.seq ?_
      refine HT.text (l := ⟨_, true, .raw (.int .i64 y7)⟩ :: ⟨_, true, .raw v0⟩ :: ⟨_, true, .raw (.int .i64 (p0.length : Int))⟩ :: ⟨_, true, .raw (.bool (decide (y7 < (p0.length : Int))))⟩ :: []) (tl := []) (by kernel_rfl) (by kernel_rfl) (by kernel_rfl) ?_ ?_
      · exact
          Obls.cons (Obl.plain rfl rfl fun R' w' hw hs hd => by have a0 : R' 5 = .int .i64 y7 := (hs 5 rfl).trans h5; exact of_move a0) <|
          Obls.cons (Obl.plain rfl rfl fun R' w' hw hs hd => by have a0 : R' 0 = v0 := (hs 0 rfl).trans h0; exact of_move a0) <|
          Obls.cons (Obl.plain rfl rfl fun R' w' hw hs hd => by have a0 : R' 13 = v0 := hd 0 _ _ _ rfl rfl rfl rfl rfl; have ra0 := (f_v0.fr hw).eq a0; exact of_len_sl (aT := #[]) ra0 Try.underlying22) <|
          Obls.cons (Obl.plain rfl rfl fun R' w' hw hs hd => by have a0 : R' 12 = .int .i64 y7 := hd 0 _ _ _ rfl rfl rfl rfl rfl; have a1 : R' 14 = .int .i64 (p0.length : Int) := hd 1 _ _ _ rfl rfl rfl rfl rfl; exact of_lss a0 a1) <|
          Obls.nil
      intro R w hw hs hF'
      replace h0 : R 0 = v0 := (hs 0 rfl).trans h0
      replace h1 : R 1 = .int .i64 y6 := (hs 1 rfl).trans h1
      replace h5 : R 5 = .int .i64 y7 := (hs 5 rfl).trans h5
      have h15 : R 15 = .bool (decide (y7 < (p0.length : Int))) := hF' 3 _ _ rfl rfl rfl
      replace f_v0 := f_v0.fr hw
      replace hA := hA.fr hw.size
      replace hF := hF.trans hw
      clear hs hF' hw
      refine seqR_nil ?_
      refine HT.cond (decide (y7 < (p0.length : Int))) h15 (fun c8 => ?_) (fun c8 => ?_)
      · have hr := cnd_t c8 hr
        refine HT.skip ?_
        refine HT.seq ?_
        refine HT.block ?_
        refine HT.seq ?_
        obtain ⟨e9, hr⟩ := ck_some hr
        obtain ⟨e10, hr⟩ := ck_some hr
        refine HT.text (l := ⟨_, true, .raw (.int .i64 y6)⟩ :: ⟨_, true, .raw v0⟩ :: ⟨_, true, .raw (.int .i64 y7)⟩ :: ⟨_, true, .qtr eStr A (gtD p0 y7)⟩ :: ⟨_, true, .rep eStr A (gtD p0 y7)⟩ :: ⟨_, true, .raw (.int .i64 ((gtD p0 y7).length : Int))⟩ :: ⟨_, true, .raw (.int .i64 (y6 - ((gtD p0 y7).length : Int)))⟩ :: ⟨_, true, .raw (.int .i64 (y6 - ((gtD p0 y7).length : Int)))⟩ :: []) (tl := []) (by kernel_rfl) (by kernel_rfl) (by kernel_rfl) ?_ ?_
        · exact
            Obls.cons (Obl.plain rfl rfl fun R' w' hw hs hd => by have a0 : R' 1 = .int .i64 y6 := (hs 1 rfl).trans h1; exact of_move a0) <|
            Obls.cons (Obl.plain rfl rfl fun R' w' hw hs hd => by have a0 : R' 0 = v0 := (hs 0 rfl).trans h0; exact of_move a0) <|
            Obls.cons (Obl.plain rfl rfl fun R' w' hw hs hd => by have a0 : R' 5 = .int .i64 y7 := (hs 5 rfl).trans h5; exact of_move a0) <|
            Obls.cons (Obl.plain rfl rfl fun R' w' hw hs hd => by have a0 : R' 19 = v0 := hd 0 _ _ _ rfl rfl rfl rfl rfl; have a1 : R' 20 = .int .i64 y7 := hd 1 _ _ _ rfl rfl rfl rfl rfl; have ra0 := (f_v0.fr hw).eq a0; exact of_indexAddr ra0 a1 Try.underlying22 Try.sizeOf9 e9) <|
            Obls.cons (Obl.plain rfl rfl fun R' w' hw hs hd => by have a0 : QRep eStr A w' (R' 21) (gtD p0 y7) := hd 0 _ _ _ rfl rfl rfl rfl rfl; exact (of_load a0.ptr Try.isAgg9 Try.sizeOf9)) <|
            Obls.cons (Obl.plain rfl rfl fun R' w' hw hs hd => by have a0 : Rep eStr A w' (R' 22) (gtD p0 y7) := hd 0 _ _ _ rfl rfl rfl rfl rfl; exact of_len_str a0 Try.underlying9) <|
            Obls.cons (Obl.plain rfl rfl fun R' w' hw hs hd => by have a0 : R' 18 = .int .i64 y6 := hd 0 _ _ _ rfl rfl rfl rfl rfl; have a1 : R' 23 = .int .i64 ((gtD p0 y7).length : Int) := hd 1 _ _ _ rfl rfl rfl rfl rfl; exact of_sub a0 a1 e10) <|
            Obls.cons (Obl.plain rfl rfl fun R' w' hw hs hd => by have a0 : R' 24 = .int .i64 (y6 - ((gtD p0 y7).length : Int)) := hd 0 _ _ _ rfl rfl rfl rfl rfl; exact of_assign a0) <|
            Obls.nil
        intro R w hw hs hF'
        replace h0 : R 0 = v0 := (hs 0 rfl).trans h0
        replace h5 : R 5 = .int .i64 y7 := (hs 5 rfl).trans h5
        have h1 : R 1 = .int .i64 (y6 - ((gtD p0 y7).length : Int)) := hF' 7 _ _ rfl rfl rfl
        replace f_v0 := f_v0.fr hw
        replace hA := hA.fr hw.size
        replace hF := hF.trans hw
        clear hs hF' hw
        refine seqR_nil ?_
        refine HT.seq ?_
        refine HT.text (l := ⟨_, true, .raw (.int .i64 (y6 - ((gtD p0 y7).length : Int)))⟩ :: ⟨_, true, .raw (.bool (decide ((y6 - ((gtD p0 y7).length : Int)) < (0 : Int))))⟩ :: []) (tl := []) (by kernel_rfl) (by kernel_rfl) (by kernel_rfl) ?_ ?_
        · exact
            Obls.cons (Obl.plain rfl rfl fun R' w' hw hs hd => by have a0 : R' 1 = .int .i64 (y6 - ((gtD p0 y7).length : Int)) := (hs 1 rfl).trans h1; exact of_move a0) <|
            Obls.cons (Obl.plain rfl rfl fun R' w' hw hs hd => by have a0 : R' 25 = .int .i64 (y6 - ((gtD p0 y7).length : Int)) := hd 0 _ _ _ rfl rfl rfl rfl rfl; exact of_lss a0 rfl) <|
            Obls.nil
        intro R w hw hs hF'
        replace h0 : R 0 = v0 := (hs 0 rfl).trans h0
        replace h1 : R 1 = .int .i64 (y6 - ((gtD p0 y7).length : Int)) := (hs 1 rfl).trans h1
        replace h5 : R 5 = .int .i64 y7 := (hs 5 rfl).trans h5
        have h26 : R 26 = .bool (decide ((y6 - ((gtD p0 y7).length : Int)) < (0 : Int))) := hF' 1 _ _ rfl rfl rfl
        replace f_v0 := f_v0.fr hw
        replace hA := hA.fr hw.size
        replace hF := hF.trans hw
        clear hs hF' hw
        refine seqR_nil ?_
        refine HT.cond (decide ((y6 - ((gtD p0 y7).length : Int)) < (0 : Int))) h26 (fun c11 => ?_) (fun c11 => ?_)
        · have hr := cnd_t c11 hr
          refine HT.seq ?_
          refine HT.text (l := ⟨_, true, .raw (.int .i64 (-1 : Int))⟩ :: []) (tl := []) (by kernel_rfl) (by kernel_rfl) (by kernel_rfl) ?_ ?_
          · exact
              Obls.cons (Obl.plain rfl rfl fun R' w' hw hs hd => by exact of_assign rfl) <|
              Obls.nil
          intro R w hw hs hF'
          have h4 : R 4 = .int .i64 (-1 : Int) := hF' 0 _ _ rfl rfl rfl
          replace hA := hA.fr hw.size
          replace hF := hF.trans hw
          clear hs hF' hw
          refine seqR_nil ?_
          refine HT.ret ?_
          obtain rfl := Option.some.inj hr
          have hr := hr0
          replace hr : some _ = some _ := hr
          obtain rfl := Option.some.inj hr
          exact ⟨.inr rfl, [R 4], ⟨rfl, trivial⟩, h4, hF⟩
        · have hr := cnd_f c11 hr
          refine HT.skip ?_
          obtain ⟨e12, hr⟩ := ck_some hr
          refine HT.text (l := ⟨_, true, .raw (.int .i64 y7)⟩ :: ⟨_, true, .raw (.int .i64 (y7 + (1 : Int)))⟩ :: ⟨_, true, .raw (.int .i64 (y7 + (1 : Int)))⟩ :: []) (tl := []) (by kernel_rfl) (by kernel_rfl) (by kernel_rfl) ?_ ?_
          · exact
              Obls.cons (Obl.plain rfl rfl fun R' w' hw hs hd => by have a0 : R' 5 = .int .i64 y7 := (hs 5 rfl).trans h5; exact of_move a0) <|
              Obls.cons (Obl.plain rfl rfl fun R' w' hw hs hd => by have a0 : R' 16 = .int .i64 y7 := hd 0 _ _ _ rfl rfl rfl rfl rfl; exact of_add a0 rfl e12) <|
              Obls.cons (Obl.plain rfl rfl fun R' w' hw hs hd => by have a0 : R' 17 = .int .i64 (y7 + (1 : Int)) := hd 0 _ _ _ rfl rfl rfl rfl rfl; exact of_assign a0) <|
              Obls.nil
          intro R w hw hs hF'
          replace h0 : R 0 = v0 := (hs 0 rfl).trans h0
          replace h1 : R 1 = .int .i64 (y6 - ((gtD p0 y7).length : Int)) := (hs 1 rfl).trans h1
          have h5 : R 5 = .int .i64 (y7 + (1 : Int)) := hF' 2 _ _ rfl rfl rfl
          replace f_v0 := f_v0.fr hw
          replace hA := hA.fr hw.size
          replace hF := hF.trans hw
          clear hs hF' hw
          refine seqR_nil ?_
          exact Exists.intro k (And.intro (Nat.lt_succ_self k) ⟨_, _, hr, hA, hF, h0, h1, h5, f_v0⟩)
      · have hr := cnd_f c8 hr
        refine HT.exit ?_
        obtain rfl := Option.some.inj hr
        exact Exists.intro _ ⟨rfl, hA, hF, h1⟩
    rintro R w ⟨s5, rfl, hA, hF, h1⟩
    have hr := exM_go hr
    refine HT.seq ?_
    refine HT.text (l := ⟨_, true, .raw (.int .i64 s5)⟩ :: ⟨_, true, .raw (.int .i64 s5)⟩ :: []) (tl := []) (by kernel_rfl) (by kernel_rfl) (by kernel_rfl) ?_ ?_
    · exact
        Obls.cons (Obl.plain rfl rfl fun R' w' hw hs hd => by have a0 : R' 1 = .int .i64 s5 := (hs 1 rfl).trans h1; exact of_move a0) <|
        Obls.cons (Obl.plain rfl rfl fun R' w' hw hs hd => by have a0 : R' 27 = .int .i64 s5 := hd 0 _ _ _ rfl rfl rfl rfl rfl; exact of_assign a0) <|
        Obls.nil
    intro R w hw hs hF'
    have h4 : R 4 = .int .i64 s5 := hF' 1 _ _ rfl rfl rfl
    replace hA := hA.fr hw.size
    replace hF := hF.trans hw
    clear hs hF' hw
    refine seqR_nil ?_
    refine HT.ret ?_
    obtain rfl := Option.some.inj hr
    exact ⟨.inr rfl, [R 4], ⟨rfl, trivial⟩, h4, hF⟩
def M_laws_toStringS_L0 (fu : Nat) (p0 : List (List UInt8)) : Nat → Int → (List (List UInt8)) → Option (List (List UInt8))
  | 0, _, _ => none
  | k + 1, y6, y7 =>
    bif (decide (y6 < (p0.length : Int))) then (
      ck (inR y6 p0.length) <|
      ck (inR y6 y7.length) <|
      ck (i64B (y6 + (1 : Int))) <|
      M_laws_toStringS_L0 fu p0 k (y6 + (1 : Int)) (y7.set y6.toNat (gtD p0 y6))
    ) else (
      some y7
    )
def M_laws_toStringS (fu : Nat) (p0 : List (List UInt8)) : Option (List (List UInt8)) :=
  ck (mkOK (p0.length : Int)) <|
  cl true (M_laws_toStringS_L0 fu p0 fu (0 : Int) (List.replicate (p0.length : Int).toNat ([] : List UInt8))) fun s5 =>
  some s5
set_option maxRecDepth 100000 in
set_option maxHeartbeats 4000000 in
theorem M_laws_toStringS_ok {fu : Nat} {A0 : Av} {p0 : List (List UInt8)} {r : List (List UInt8)} (hr : M_laws_toStringS fu p0 = some r) {w : World} {v0 : Value} (hA : AvOK A0 w) (h0 : Rep (eSl eStr) A0 w v0 p0) :
    Calls Try.prog 11 #[v0] w fun e w' => ∃ v, e = .returned v ∧ ((Res.vec w.heap.size 9 eStr r).ok (addA A0 v) v w' ∧ Fr w w') := by
  unfold M_laws_toStringS at hr
  obtain ⟨w0, hw0⟩ : ∃ w0, w0 = w := ⟨_, rfl⟩
  have hF : Fr w0 w := hw0 ▸ Fr.refl _
  have hA0 : ∀ b o, A0 b o → b < w0.heap.size := fun b o h => hw0 ▸ hA b o h
  have hA00 : AvOK A0 w0 := hA0
  rw [show w.heap.size = w0.heap.size from hw0 ▸ rfl]
  rw [show Fr w = Fr w0 from hw0 ▸ rfl]
  clear hw0
  obtain ⟨A, hAe⟩ : ∃ A, A = A0 := ⟨_, rfl⟩
  have hAA : ∀ b o, A0 b o → A b o := fun b o h => hAe ▸ h
  replace hA : AvOK A w := hAe ▸ hA
  have hO : IniOK [] A w := IniOK.nil
  refine calls_of_HT2 [.tmp 2] Try.func11 Try.ntmps11 (by decide) rfl rfl (Nat.le_of_ble_eq_true rfl) ?_
  intro R hR
  have f_v0 : Rep (eSl eStr) A w v0 p0 := hAe ▸ h0
  replace h0 : R 0 = v0 := hR 0 _ rfl
  clear hR hAe
  refine HT.seq ?_
  refine HT.text (l := ⟨_, true, .any⟩ :: []) (tl := []) (by kernel_rfl) (by kernel_rfl) (by kernel_rfl) ?_ ?_
  · exact
      Obls.cons (Obl.plain rfl rfl fun R' w' hw hs hd => by exact of_assign trivial) <|
      Obls.nil
  intro R w hw hs hF'
  replace h0 : R 0 = v0 := (hs 0 rfl).trans h0
  replace f_v0 := f_v0.fr hw
  replace hO := hO.fr hw
  replace hA := hA.fr hw.size
  replace hF := hF.trans hw
  clear hs hF' hw
  refine seqR_nil ?_
  refine HT.seq ?_
  obtain ⟨e1, hr⟩ := ck_some hr
  refine HT.textR [] (⟨_, true, [], none, true, fun A => .raw v0⟩ :: ⟨_, true, [], none, true, fun A => .raw (.int .i64 (p0.length : Int))⟩ :: ⟨_, true, [], some (.vec w0.heap.size 9 eStr (List.replicate (p0.length : Int).toNat ([] : List UInt8))), true, fun A => .any⟩ :: ⟨_, true, [2], some (.vec w0.heap.size 9 eStr (List.replicate (p0.length : Int).toNat ([] : List UInt8))), true, fun A => .any⟩ :: []) (by kernel_rfl) (by kernel_rfl) (Wf.mk' (by kernel_rfl) (UAll.cons ust_raw (UAll.cons ust_raw (UAll.cons ust_any (UAll.cons ust_any (UAll.nil))))) (by kernel_rfl) (by kernel_rfl)) hO hA ?_ ?_
  · exact
      OblsR.cons (OblR.plain rfl rfl rfl rfl fun A' R' w' ho hd => by have a0 : R' 0 = v0 := (ho.old 0 rfl).trans h0; exact of_move a0) <|
      OblsR.cons (OblR.plain rfl rfl rfl rfl fun A' R' w' ho hd => by have a0 : R' 5 = v0 := hd 0 _ _ _ rfl rfl rfl rfl rfl; have ra0 := (f_v0.stp ho.stp).eq a0; exact of_len_sl (aT := #[]) ra0 Try.underlying22) <|
      OblsR.cons (OblR.made _ rfl rfl rfl rfl fun A' R' w' ho hd => by have a0 : R' 6 = .int .i64 (p0.length : Int) := hd 0 _ _ _ rfl rfl rfl rfl rfl; have a1 : R' 6 = .int .i64 (p0.length : Int) := hd 0 _ _ _ rfl rfl rfl rfl rfl; exact made_make a0 a1 e1 Try.underlying22 el_9 Try.zeroValue9 (fun A w => (rep1_str rfl (by decide))) (Nat.le_trans hF.size ho.ch.size)) <|
      OblsR.cons (OblR.took 2 _ _ rfl rfl rfl rfl rfl fun A' R' w' ho hd u hok hav hin hop hds => by exact took_assign (hop _ _ rfl rfl rfl rfl).symm hok hav) <|
      OblsR.nil
  intro done ρ σ A R w hdn hI
  replace h0 : R 0 = v0 := (hI.reg rfl).trans h0
  obtain ⟨u2, e_u2⟩ : ∃ u, ρ 3 = u := ⟨_, rfl⟩
  have h3 : R 3 = u2 := (hI.opvR hdn 3 3 rfl rfl rfl rfl rfl).symm.trans e_u2
  replace f_v0 := f_v0.stp hI.stp
  replace hAA := hI.low' hAA hA0 (hO.ge (trivial))
  replace hF : Fr w0 w := hF.tr hI.ch (hO.ge (trivial))
  replace hO : IniOK [ob u2 (.vec w0.heap.size 9 eStr (List.replicate (p0.length : Int).toNat ([] : List UInt8)))] A w := hI.left hdn [(3, ob u2 (.vec w0.heap.size 9 eStr (List.replicate (p0.length : Int).toNat ([] : List UInt8))))] ⟨rfl, rfl, e_u2, rfl, rfl, trivial⟩
  replace hA := hI.avok
  clear hI
  refine HT.seq ?_
  refine HT.seq ?_
  refine HT.text (l := ⟨_, true, .raw (.int .i64 (0 : Int))⟩ :: []) (tl := []) (by kernel_rfl) (by kernel_rfl) (by kernel_rfl) ?_ ?_
  · exact
      Obls.cons (Obl.plain rfl rfl fun R' w' hw hs hd => by exact of_assign rfl) <|
      Obls.nil
  intro R w hw hs hF'
  replace h0 : R 0 = v0 := (hs 0 rfl).trans h0
  replace h3 : R 3 = u2 := (hs 3 rfl).trans h3
  have h4 : R 4 = .int .i64 (0 : Int) := hF' 0 _ _ rfl rfl rfl
  replace f_v0 := f_v0.fr hw
  replace hO := hO.fr hw
  replace hA := hA.fr hw.size
  replace hF := hF.trans hw
  clear hs hF' hw
  refine seqR_nil ?_
  obtain ⟨rl3, q4, hr⟩ := cl_some hr
  replace q4 := q4 rfl
  refine HT.cut0 (fun R w => ∃ A : Av, ∃ (s5 : (List (List UInt8))), rl3 = s5 ∧ AvOK A w ∧ Fr w0 w ∧ (∀ b o, A0 b o → A b o) ∧ IniOK [ob u2 (.vec w0.heap.size 9 eStr s5)] A w ∧ R 3 = u2) ?_ ?_
  · refine HT.block ?_
    refine HT.loop (fun k R w => ∃ A : Av, ∃ (y6 : Int) (y7 : List (List UInt8)), M_laws_toStringS_L0 fu p0 k y6 y7 = some rl3 ∧ AvOK A w ∧ Fr w0 w ∧ (∀ b o, A0 b o → A b o) ∧ IniOK [ob u2 (.vec w0.heap.size 9 eStr y7)] A w ∧ R 0 = v0 ∧ R 3 = u2 ∧ R 4 = .int .i64 y6 ∧ Rep (eSl eStr) A w v0 p0) fu ⟨_, _, _, q4, hA, hF, hAA, hO, h0, h3, h4, f_v0⟩ ?_
    have hr0 := hr; clear hr q4
    rintro k R w ⟨A, y6, y7, hr, hA, hF, hAA, hO, h0, h3, h4, f_v0⟩
    rcases k with _ | k
    · cases (show none = some _ from hr)
    rw [M_laws_toStringS_L0] at hr
    refine HT.seq ?_
    refine HT.seq ?_
    refine HT.text (l := ⟨_, true, .raw (.int .i64 y6)⟩ :: ⟨_, true, .raw v0⟩ :: ⟨_, true, .raw (.int .i64 (p0.length : Int))⟩ :: ⟨_, true, .raw (.bool (decide (y6 < (p0.length : Int))))⟩ :: []) (tl := []) (by kernel_rfl) (by kernel_rfl) (by kernel_rfl) ?_ ?_
    · exact
        Obls.cons (Obl.plain rfl rfl fun R' w' hw hs hd => by have a0 : R' 4 = .int .i64 y6 := (hs 4 rfl).trans h4; exact of_move a0) <|
        Obls.cons (Obl.plain rfl rfl fun R' w' hw hs hd => by have a0 : R' 0 = v0 := (hs 0 rfl).trans h0; exact of_move a0) <|
        Obls.cons (Obl.plain rfl rfl fun R' w' hw hs hd => by have a0 : R' 9 = v0 := hd 0 _ _ _ rfl rfl rfl rfl rfl; have ra0 := (f_v0.fr hw).eq a0; exact of_len_sl (aT := #[]) ra0 Try.underlying22) <|
        Obls.cons (Obl.plain rfl rfl fun R' w' hw hs hd => by have a0 : R' 8 = .int .i64 y6 := hd 0 _ _ _ rfl rfl rfl rfl rfl; have a1 : R' 10 = .int .i64 (p0.length : Int) := hd 1 _ _ _ rfl rfl rfl rfl rfl; exact of_lss a0 a1) <|
        Obls.nil
    intro R w hw hs hF'
    replace h0 : R 0 = v0 := (hs 0 rfl).trans h0
    replace h3 : R 3 = u2 := (hs 3 rfl).trans h3
    replace h4 : R 4 = .int .i64 y6 := (hs 4 rfl).trans h4
    have h11 : R 11 = .bool (decide (y6 < (p0.length : Int))) := hF' 3 _ _ rfl rfl rfl
    replace f_v0 := f_v0.fr hw
    replace hO := hO.fr hw
    replace hA := hA.fr hw.size
    replace hF := hF.trans hw
    clear hs hF' hw
    refine seqR_nil ?_
    refine HT.cond (decide (y6 < (p0.length : Int))) h11 (fun c8 => ?_) (fun c8 => ?_)
    · have hr := cnd_t c8 hr
      refine HT.skip ?_
      refine HT.seq ?_
      refine HT.block ?_
      obtain ⟨e9, hr⟩ := ck_some hr
      obtain ⟨e10, hr⟩ := ck_some hr
      refine HT.textR [ob u2 (.vec w0.heap.size 9 eStr y7)] (⟨_, true, [], none, true, fun A => .raw u2⟩ :: ⟨_, true, [], none, true, fun A => .raw (.int .i64 y6)⟩ :: ⟨_, true, [], none, true, fun A => .raw v0⟩ :: ⟨_, true, [], none, true, fun A => .raw (.int .i64 y6)⟩ :: ⟨_, true, [], none, true, fun A => .qtr eStr A (gtD p0 y6)⟩ :: ⟨_, true, [], none, true, fun A => .rep eStr A (gtD p0 y6)⟩ :: ⟨_, true, [], none, true, fun A => .raw (vptr u2 (y6.toNat * 1))⟩ :: ⟨_, true, [0], some (.vec w0.heap.size 9 eStr (y7.set y6.toNat (gtD p0 y6))), false, fun A => .any⟩ :: []) (by kernel_rfl) (by kernel_rfl) (Wf.mk' (by kernel_rfl) (UAll.cons ust_raw (UAll.cons ust_raw (UAll.cons ust_raw (UAll.cons ust_raw (UAll.cons ust_qtr (UAll.cons ust_rep (UAll.cons ust_raw (UAll.cons ust_any (UAll.nil))))))))) (by kernel_rfl) (by kernel_rfl)) hO hA ?_ ?_
      · exact
          OblsR.cons (OblR.plain rfl rfl rfl rfl fun A' R' w' ho hd => by have a0 : R' 3 = u2 := (ho.old 3 rfl).trans h3; exact of_move a0) <|
          OblsR.cons (OblR.plain rfl rfl rfl rfl fun A' R' w' ho hd => by have a0 : R' 4 = .int .i64 y6 := (ho.old 4 rfl).trans h4; exact of_move a0) <|
          OblsR.cons (OblR.plain rfl rfl rfl rfl fun A' R' w' ho hd => by have a0 : R' 0 = v0 := (ho.old 0 rfl).trans h0; exact of_move a0) <|
          OblsR.cons (OblR.plain rfl rfl rfl rfl fun A' R' w' ho hd => by have a0 : R' 4 = .int .i64 y6 := (ho.old 4 rfl).trans h4; exact of_move a0) <|
          OblsR.cons (OblR.plain rfl rfl rfl rfl fun A' R' w' ho hd => by have a0 : R' 16 = v0 := hd 0 _ _ _ rfl rfl rfl rfl rfl; have a1 : R' 17 = .int .i64 y6 := hd 1 _ _ _ rfl rfl rfl rfl rfl; have ra0 := (f_v0.stp ho.stp).eq a0; exact of_indexAddr ra0 a1 Try.underlying22 Try.sizeOf9 e9) <|
          OblsR.cons (OblR.plain rfl rfl rfl rfl fun A' R' w' ho hd => by have a0 : QRep eStr A' w' (R' 18) (gtD p0 y6) := hd 0 _ _ _ rfl rfl rfl rfl rfl; exact (of_load a0.ptr Try.isAgg9 Try.sizeOf9)) <|
          OblsR.cons (OblR.plain rfl rfl rfl rfl fun A' R' w' ho hd => by have a0 : R' 14 = u2 := hd 0 _ _ _ rfl rfl rfl rfl rfl; have a1 : R' 15 = .int .i64 y6 := hd 1 _ _ _ rfl rfl rfl rfl rfl; exact of_indexAddr_vec (hO.ok 0 _ rfl).1 a0 a1 Try.underlying22 Try.sizeOf9 e10 rfl) <|
          OblsR.cons (OblR.took 0 _ _ rfl rfl rfl rfl rfl fun A' R' w' ho hd u hok hav hin hop hds => by have a0 : R' 20 = (vptr u2 (y6.toNat * 1)) := hd 0 _ _ _ rfl rfl rfl rfl rfl; have a1 : Rep eStr A' w' (R' 19) (gtD p0 y6) := hd 1 _ _ _ rfl rfl rfl rfl rfl; obtain rfl := hin _ rfl; exact took_vstore a1 hok hav a0 e10 rfl (FldS.id _) Try.sizeOf9 rfl) <|
          OblsR.nil
      intro done ρ σ A R w hdn hI
      replace h0 : R 0 = v0 := (hI.reg rfl).trans h0
      replace h3 : R 3 = u2 := (hI.reg rfl).trans h3
      replace h4 : R 4 = .int .i64 y6 := (hI.reg rfl).trans h4
      have z11 := hI.inivR 0 rfl
      have z12 := (hI.opnR hdn 8 7 rfl rfl rfl rfl rfl).trans z11
      replace f_v0 := f_v0.stp hI.stp
      replace hAA := hI.low' hAA hA0 (hO.ge (⟨rfl, trivial⟩))
      replace hF : Fr w0 w := hF.tr hI.ch (hO.ge (⟨rfl, trivial⟩))
      replace hO : IniOK [ob u2 (.vec w0.heap.size 9 eStr (y7.set y6.toNat (gtD p0 y6)))] A w := hI.left hdn [(8, ob u2 (.vec w0.heap.size 9 eStr (y7.set y6.toNat (gtD p0 y6))))] ⟨rfl, rfl, z12, rfl, rfl, trivial⟩
      replace hA := hI.avok
      clear hI
      obtain ⟨e13, hr⟩ := ck_some hr
      refine HT.text (l := ⟨_, true, .raw (.int .i64 y6)⟩ :: ⟨_, true, .raw (.int .i64 (y6 + (1 : Int)))⟩ :: ⟨_, true, .raw (.int .i64 (y6 + (1 : Int)))⟩ :: []) (tl := []) (by kernel_rfl) (by kernel_rfl) (by kernel_rfl) ?_ ?_
      · exact
          Obls.cons (Obl.plain rfl rfl fun R' w' hw hs hd => by have a0 : R' 4 = .int .i64 y6 := (hs 4 rfl).trans h4; exact of_move a0) <|
          Obls.cons (Obl.plain rfl rfl fun R' w' hw hs hd => by have a0 : R' 12 = .int .i64 y6 := hd 0 _ _ _ rfl rfl rfl rfl rfl; exact of_add a0 rfl e13) <|
          Obls.cons (Obl.plain rfl rfl fun R' w' hw hs hd => by have a0 : R' 13 = .int .i64 (y6 + (1 : Int)) := hd 0 _ _ _ rfl rfl rfl rfl rfl; exact of_assign a0) <|
          Obls.nil
      intro R w hw hs hF'
      replace h0 : R 0 = v0 := (hs 0 rfl).trans h0
      replace h3 : R 3 = u2 := (hs 3 rfl).trans h3
      have h4 : R 4 = .int .i64 (y6 + (1 : Int)) := hF' 2 _ _ rfl rfl rfl
      replace f_v0 := f_v0.fr hw
      replace hO := hO.fr hw
      replace hA := hA.fr hw.size
      replace hF := hF.trans hw
      clear hs hF' hw
      refine seqR_nil ?_
      exact Exists.intro k (And.intro (Nat.lt_succ_self k) ⟨_, _, _, hr, hA, hF, hAA, hO, h0, h3, h4, f_v0⟩)
    · have hr := cnd_f c8 hr
      refine HT.exit ?_
      obtain rfl := Option.some.inj hr
      exact Exists.intro _ ⟨_, rfl, hA, hF, hAA, hO, h3⟩
  rintro R w ⟨A, s5, es, hA, hF, hAA, hO, h3⟩
  obtain rfl := es.symm
  refine HT.seq ?_
  refine HT.text (l := ⟨_, true, .raw u2⟩ :: ⟨_, true, .raw u2⟩ :: []) (tl := []) (by kernel_rfl) (by kernel_rfl) (by kernel_rfl) ?_ ?_
  · exact
      Obls.cons (Obl.plain rfl rfl fun R' w' hw hs hd => by have a0 : R' 3 = u2 := (hs 3 rfl).trans h3; exact of_move a0) <|
      Obls.cons (Obl.plain rfl rfl fun R' w' hw hs hd => by have a0 : R' 21 = u2 := hd 0 _ _ _ rfl rfl rfl rfl rfl; exact of_assign a0) <|
      Obls.nil
  intro R w hw hs hF'
  have h2 : R 2 = u2 := hF' 1 _ _ rfl rfl rfl
  replace hO := hO.fr hw
  replace hA := hA.fr hw.size
  replace hF := hF.trans hw
  clear hs hF' hw
  refine seqR_nil ?_
  refine HT.ret ?_
  obtain rfl := Option.some.inj hr
  exact ⟨.inr rfl, [R 2], ⟨rfl, trivial⟩, (own_post (hO.ok 0 _ rfl) hAA h2), hF⟩
theorem M_laws_toStringS_okR {fu : Nat} {A0 : Av} {p0 : List (List UInt8)} {r : List (List UInt8)} (hr : M_laws_toStringS fu p0 = some r) {w : World} {v0 : Value} (hA : AvOK A0 w) (h0 : Rep (eSl eStr) A0 w v0 p0) :
    Calls Try.prog 11 #[v0] w fun e w' => ∃ v, e = .returned v ∧ (Rep (eSl eStr) A0 w' v r ∧ Fr w w') := by
  refine Calls.mono (M_laws_toStringS_ok hr hA h0) ?_
  rintro e w' ⟨v, he, hv, hf⟩
  exact ⟨v, he, vec_rep hv (fun b o h => .inl h) hA, hf⟩
def M_spec_l4Fits (fu : Nat) (p0 : List UInt8) (p1 : List UInt8) : Option Bool :=
  bd ((decide ((p0.length : Int) ≤ (40 : Int))) && (decide ((p1.length : Int) ≤ (40 : Int)))) fun x1 =>
  some x1
set_option maxRecDepth 100000 in
set_option maxHeartbeats 4000000 in
theorem M_spec_l4Fits_ok {fu : Nat} {A : Av} {p0 : List UInt8} {p1 : List UInt8} {r : Bool} (hr : M_spec_l4Fits fu p0 p1 = some r) {w : World} {v0 : Value} {v1 : Value} (hA : AvOK A w) (h0 : Rep eStr A w v0 p0) (h1 : Rep eStr A w v1 p1) :
    Calls Try.prog 65 #[v0, v1] w fun e w' => ∃ v, e = .returned v ∧ (v = .bool r ∧ Fr w w') := by
  unfold M_spec_l4Fits at hr
  obtain ⟨w0, hw0⟩ : ∃ w0, w0 = w := ⟨_, rfl⟩
  have hF : Fr w0 w := hw0 ▸ Fr.refl _
  rw [show Fr w = Fr w0 from hw0 ▸ rfl]
  clear hw0
  refine calls_of_HT2 [.tmp 4] Try.func65 Try.ntmps65 (by decide) rfl rfl (Nat.le_of_ble_eq_true rfl) ?_
  intro R hR
  have f_v0 := h0
  replace h0 : R 0 = v0 := hR 0 _ rfl
  have f_v1 := h1
  replace h1 : R 1 = v1 := hR 1 _ rfl
  clear hR
  refine HT.seq ?_
  refine HT.text (l := ⟨_, true, .raw (.bool false)⟩ :: []) (tl := []) (by kernel_rfl) (by kernel_rfl) (by kernel_rfl) ?_ ?_
  · exact
      Obls.cons (Obl.plain rfl rfl fun R' w' hw hs hd => by exact of_assign rfl) <|
      Obls.nil
  intro R w hw hs hF'
  replace h0 : R 0 = v0 := (hs 0 rfl).trans h0
  replace h1 : R 1 = v1 := (hs 1 rfl).trans h1
  replace f_v0 := f_v0.fr hw
  replace f_v1 := f_v1.fr hw
  replace hA := hA.fr hw.size
  replace hF := hF.trans hw
  clear hs hF' hw
  refine seqR_nil ?_
  refine HT.seq ?_
  obtain ⟨x1, q2, hr⟩ := bd_some hr
  refine HT.text (l := ⟨_, true, .raw v0⟩ :: ⟨_, true, .raw (.int .i64 (p0.length : Int))⟩ :: ⟨_, true, .raw (.bool (decide ((p0.length : Int) ≤ (40 : Int))))⟩ :: ⟨_, true, .raw (.bool (decide ((p0.length : Int) ≤ (40 : Int))))⟩ :: ⟨_, (true && ((decide ((p0.length : Int) ≤ (40 : Int))) == true)), .raw v1⟩ :: ⟨_, (true && ((decide ((p0.length : Int) ≤ (40 : Int))) == true)), .raw (.int .i64 (p1.length : Int))⟩ :: ⟨_, (true && ((decide ((p0.length : Int) ≤ (40 : Int))) == true)), .raw (.bool (decide ((p1.length : Int) ≤ (40 : Int))))⟩ :: ⟨_, true, .raw (.bool x1)⟩ :: ⟨_, true, .raw (.bool x1)⟩ :: []) (tl := []) (by kernel_rfl) (by kernel_rfl) (by kernel_rfl) ?_ ?_
  · exact
      Obls.cons (Obl.plain rfl rfl fun R' w' hw hs hd => by have a0 : R' 0 = v0 := (hs 0 rfl).trans h0; exact of_move a0) <|
      Obls.cons (Obl.plain rfl rfl fun R' w' hw hs hd => by have a0 : R' 5 = v0 := hd 0 _ _ _ rfl rfl rfl rfl rfl; have ra0 := (f_v0.fr hw).eq a0; exact of_len_str ra0 Try.underlying9) <|
      Obls.cons (Obl.plain rfl rfl fun R' w' hw hs hd => by have a0 : R' 6 = .int .i64 (p0.length : Int) := hd 0 _ _ _ rfl rfl rfl rfl rfl; exact of_leq a0 rfl) <|
      Obls.cons (Obl.plain rfl rfl fun R' w' hw hs hd => by have a0 : R' 7 = .bool (decide ((p0.length : Int) ≤ (40 : Int))) := hd 0 _ _ _ rfl rfl rfl rfl rfl; exact of_move a0) <|
      Obls.cons (Obl.grd 3 true _ _ _ rfl rfl rfl rfl rfl (by kernel_rfl) fun hg R' w' hw hs hd => by have a0 : R' 1 = v1 := (hs 1 rfl).trans h1; exact of_move a0) <|
      Obls.cons (Obl.grd 3 true _ _ _ rfl rfl rfl rfl rfl (by kernel_rfl) fun hg R' w' hw hs hd => by have a0 : R' 9 = v1 := hd 0 _ _ _ rfl rfl rfl rfl hg; have ra0 := (f_v1.fr hw).eq a0; exact of_len_str ra0 Try.underlying9) <|
      Obls.cons (Obl.grd 3 true _ _ _ rfl rfl rfl rfl rfl (by kernel_rfl) fun hg R' w' hw hs hd => by have a0 : R' 10 = .int .i64 (p1.length : Int) := hd 0 _ _ _ rfl rfl rfl rfl hg; exact of_leq a0 rfl) <|
      Obls.cons (Obl.plain rfl rfl fun R' w' hw hs hd => by have a0 : R' 8 = .bool (decide ((p0.length : Int) ≤ (40 : Int))) := hd 0 _ _ _ rfl rfl rfl rfl rfl; exact of_pick (decide ((p0.length : Int) ≤ (40 : Int))) a0 (fun hc => by have a1 : R' 11 = .bool (decide ((p1.length : Int) ≤ (40 : Int))) := hd 1 _ _ _ rfl rfl rfl rfl (g_and rfl (beq_of hc)); show _ = Value.bool x1; rw [q2, hc]; exact a1) (fun hc => by show _ = Value.bool x1; rw [q2, hc]; exact rfl)) <|
      Obls.cons (Obl.plain rfl rfl fun R' w' hw hs hd => by have a0 : R' 12 = .bool x1 := hd 0 _ _ _ rfl rfl rfl rfl rfl; exact of_assign a0) <|
      Obls.nil
  intro R w hw hs hF'
  have h4 : R 4 = .bool x1 := hF' 8 _ _ rfl rfl rfl
  replace hA := hA.fr hw.size
  replace hF := hF.trans hw
  clear hs hF' hw
  refine seqR_nil ?_
  refine HT.ret ?_
  obtain rfl := Option.some.inj hr
  exact ⟨.inr rfl, [R 4], ⟨rfl, trivial⟩, h4, hF⟩
def M_spec_l4Table_L1 (fu : Nat) (p0 : List UInt8) (p1 : List UInt8) (p2 : Bool) (y5 : Int) (y6 : List (List Int)) : Nat → Int → (List Int) → Option (List Int)
  | 0, _, _ => none
  | k + 1, y15, y16 =>
    bif (decide (y15 ≤ (p1.length : Int))) then (
      bif (y5 == (0 : Int)) then (
        ck (inR y15 y16.length) <|
        bd (p2 && (decide ((1 : Int) < y5))) fun x23 =>
        bd (x23 && (decide ((1 : Int) < y15))) fun x25 =>
        ck (!(true && (x25 == true)) || i64B (y5 - (1 : Int))) <|
        ck (!(true && (x25 == true)) || inR (y5 - (1 : Int)) p0.length) <|
        ck (!(true && (x25 == true)) || i64B (y15 - (2 : Int))) <|
        ck (!(true && (x25 == true)) || inR (y15 - (2 : Int)) p1.length) <|
        bd (x25 && ((bAt p0 (y5 - (1 : Int))) == (bAt p1 (y15 - (2 : Int))))) fun x31 =>
        ck (!(true && (x31 == true)) || i64B (y5 - (2 : Int))) <|
        ck (!(true && (x31 == true)) || inR (y5 - (2 : Int)) p0.length) <|
        ck (!(true && (x31 == true)) || i64B (y15 - (1 : Int))) <|
        ck (!(true && (x31 == true)) || inR (y15 - (1 : Int)) p1.length) <|
        bd (x31 && ((bAt p0 (y5 - (2 : Int))) == (bAt p1 (y15 - (1 : Int))))) fun x37 =>
        bif x37 then (
          ck (inR y15 (y16.set y15.toNat y15).length) <|
          ck (i64B (y5 - (2 : Int))) <|
          ck (inR (y5 - (2 : Int)) y6.length) <|
          ck (i64B (y15 - (2 : Int))) <|
          ck (inR (y15 - (2 : Int)) (gtD y6 (y5 - (2 : Int))).length) <|
          ck (i64B ((gtD (gtD y6 (y5 - (2 : Int))) (y15 - (2 : Int))) + (1 : Int))) <|
          ck (inR y15 (y16.set y15.toNat y15).length) <|
          ck (i64B (y15 + (1 : Int))) <|
          M_spec_l4Table_L1 fu p0 p1 p2 y5 y6 k (y15 + (1 : Int)) ((y16.set y15.toNat y15).set y15.toNat (min (gtD (y16.set y15.toNat y15) y15) ((gtD (gtD y6 (y5 - (2 : Int))) (y15 - (2 : Int))) + (1 : Int))))
        ) else (
          ck (i64B (y15 + (1 : Int))) <|
          M_spec_l4Table_L1 fu p0 p1 p2 y5 y6 k (y15 + (1 : Int)) (y16.set y15.toNat y15)
        )
      ) else (
        bif (y15 == (0 : Int)) then (
          ck (inR y15 y16.length) <|
          bd (p2 && (decide ((1 : Int) < y5))) fun x57 =>
          bd (x57 && (decide ((1 : Int) < y15))) fun x59 =>
          ck (!(true && (x59 == true)) || i64B (y5 - (1 : Int))) <|
          ck (!(true && (x59 == true)) || inR (y5 - (1 : Int)) p0.length) <|
          ck (!(true && (x59 == true)) || i64B (y15 - (2 : Int))) <|
          ck (!(true && (x59 == true)) || inR (y15 - (2 : Int)) p1.length) <|
          bd (x59 && ((bAt p0 (y5 - (1 : Int))) == (bAt p1 (y15 - (2 : Int))))) fun x65 =>
          ck (!(true && (x65 == true)) || i64B (y5 - (2 : Int))) <|
          ck (!(true && (x65 == true)) || inR (y5 - (2 : Int)) p0.length) <|
          ck (!(true && (x65 == true)) || i64B (y15 - (1 : Int))) <|
          ck (!(true && (x65 == true)) || inR (y15 - (1 : Int)) p1.length) <|
          bd (x65 && ((bAt p0 (y5 - (2 : Int))) == (bAt p1 (y15 - (1 : Int))))) fun x71 =>
          bif x71 then (
            ck (inR y15 (y16.set y15.toNat y5).length) <|
            ck (i64B (y5 - (2 : Int))) <|
            ck (inR (y5 - (2 : Int)) y6.length) <|
            ck (i64B (y15 - (2 : Int))) <|
            ck (inR (y15 - (2 : Int)) (gtD y6 (y5 - (2 : Int))).length) <|
            ck (i64B ((gtD (gtD y6 (y5 - (2 : Int))) (y15 - (2 : Int))) + (1 : Int))) <|
            ck (inR y15 (y16.set y15.toNat y5).length) <|
            ck (i64B (y15 + (1 : Int))) <|
            M_spec_l4Table_L1 fu p0 p1 p2 y5 y6 k (y15 + (1 : Int)) ((y16.set y15.toNat y5).set y15.toNat (min (gtD (y16.set y15.toNat y5) y15) ((gtD (gtD y6 (y5 - (2 : Int))) (y15 - (2 : Int))) + (1 : Int))))
          ) else (
            ck (i64B (y15 + (1 : Int))) <|
            M_spec_l4Table_L1 fu p0 p1 p2 y5 y6 k (y15 + (1 : Int)) (y16.set y15.toNat y5)
          )
        ) else (
          ck (i64B (y5 - (1 : Int))) <|
          ck (inR (y5 - (1 : Int)) p0.length) <|
          ck (i64B (y15 - (1 : Int))) <|
          ck (inR (y15 - (1 : Int)) p1.length) <|
          bif ((bAt p0 (y5 - (1 : Int))) == (bAt p1 (y15 - (1 : Int)))) then (
            ck (i64B (y5 - (1 : Int))) <|
            ck (inR (y5 - (1 : Int)) y6.length) <|
            ck (i64B (y15 - (1 : Int))) <|
            ck (inR (y15 - (1 : Int)) (gtD y6 (y5 - (1 : Int))).length) <|
            ck (inR y15 y16.length) <|
            bd (p2 && (decide ((1 : Int) < y5))) fun x99 =>
            bd (x99 && (decide ((1 : Int) < y15))) fun x101 =>
            ck (!(true && (x101 == true)) || i64B (y5 - (1 : Int))) <|
            ck (!(true && (x101 == true)) || inR (y5 - (1 : Int)) p0.length) <|
            ck (!(true && (x101 == true)) || i64B (y15 - (2 : Int))) <|
            ck (!(true && (x101 == true)) || inR (y15 - (2 : Int)) p1.length) <|
            bd (x101 && ((bAt p0 (y5 - (1 : Int))) == (bAt p1 (y15 - (2 : Int))))) fun x107 =>
            ck (!(true && (x107 == true)) || i64B (y5 - (2 : Int))) <|
            ck (!(true && (x107 == true)) || inR (y5 - (2 : Int)) p0.length) <|
            ck (!(true && (x107 == true)) || i64B (y15 - (1 : Int))) <|
            ck (!(true && (x107 == true)) || inR (y15 - (1 : Int)) p1.length) <|
            bd (x107 && ((bAt p0 (y5 - (2 : Int))) == (bAt p1 (y15 - (1 : Int))))) fun x113 =>
            bif x113 then (
              ck (inR y15 (y16.set y15.toNat (gtD (gtD y6 (y5 - (1 : Int))) (y15 - (1 : Int)))).length) <|
              ck (i64B (y5 - (2 : Int))) <|
              ck (inR (y5 - (2 : Int)) y6.length) <|
              ck (i64B (y15 - (2 : Int))) <|
              ck (inR (y15 - (2 : Int)) (gtD y6 (y5 - (2 : Int))).length) <|
              ck (i64B ((gtD (gtD y6 (y5 - (2 : Int))) (y15 - (2 : Int))) + (1 : Int))) <|
              ck (inR y15 (y16.set y15.toNat (gtD (gtD y6 (y5 - (1 : Int))) (y15 - (1 : Int)))).length) <|
              ck (i64B (y15 + (1 : Int))) <|
              M_spec_l4Table_L1 fu p0 p1 p2 y5 y6 k (y15 + (1 : Int)) ((y16.set y15.toNat (gtD (gtD y6 (y5 - (1 : Int))) (y15 - (1 : Int)))).set y15.toNat (min (gtD (y16.set y15.toNat (gtD (gtD y6 (y5 - (1 : Int))) (y15 - (1 : Int)))) y15) ((gtD (gtD y6 (y5 - (2 : Int))) (y15 - (2 : Int))) + (1 : Int))))
            ) else (
              ck (i64B (y15 + (1 : Int))) <|
              M_spec_l4Table_L1 fu p0 p1 p2 y5 y6 k (y15 + (1 : Int)) (y16.set y15.toNat (gtD (gtD y6 (y5 - (1 : Int))) (y15 - (1 : Int))))
            )
          ) else (
            ck (i64B (y5 - (1 : Int))) <|
            ck (inR (y5 - (1 : Int)) y6.length) <|
            ck (inR y15 (gtD y6 (y5 - (1 : Int))).length) <|
            ck (i64B (y15 - (1 : Int))) <|
            ck (inR (y15 - (1 : Int)) y16.length) <|
            ck (i64B (y5 - (1 : Int))) <|
            ck (inR (y5 - (1 : Int)) y6.length) <|
            ck (i64B (y15 - (1 : Int))) <|
            ck (inR (y15 - (1 : Int)) (gtD y6 (y5 - (1 : Int))).length) <|
            ck (i64B ((1 : Int) + (min (min (gtD (gtD y6 (y5 - (1 : Int))) y15) (gtD y16 (y15 - (1 : Int)))) (gtD (gtD y6 (y5 - (1 : Int))) (y15 - (1 : Int)))))) <|
            ck (inR y15 y16.length) <|
            bd (p2 && (decide ((1 : Int) < y5))) fun x142 =>
            bd (x142 && (decide ((1 : Int) < y15))) fun x144 =>
            ck (!(true && (x144 == true)) || i64B (y5 - (1 : Int))) <|
            ck (!(true && (x144 == true)) || inR (y5 - (1 : Int)) p0.length) <|
            ck (!(true && (x144 == true)) || i64B (y15 - (2 : Int))) <|
            ck (!(true && (x144 == true)) || inR (y15 - (2 : Int)) p1.length) <|
            bd (x144 && ((bAt p0 (y5 - (1 : Int))) == (bAt p1 (y15 - (2 : Int))))) fun x150 =>
            ck (!(true && (x150 == true)) || i64B (y5 - (2 : Int))) <|
            ck (!(true && (x150 == true)) || inR (y5 - (2 : Int)) p0.length) <|
            ck (!(true && (x150 == true)) || i64B (y15 - (1 : Int))) <|
            ck (!(true && (x150 == true)) || inR (y15 - (1 : Int)) p1.length) <|
            bd (x150 && ((bAt p0 (y5 - (2 : Int))) == (bAt p1 (y15 - (1 : Int))))) fun x156 =>
            bif x156 then (
              ck (inR y15 (y16.set y15.toNat ((1 : Int) + (min (min (gtD (gtD y6 (y5 - (1 : Int))) y15) (gtD y16 (y15 - (1 : Int)))) (gtD (gtD y6 (y5 - (1 : Int))) (y15 - (1 : Int)))))).length) <|
              ck (i64B (y5 - (2 : Int))) <|
              ck (inR (y5 - (2 : Int)) y6.length) <|
              ck (i64B (y15 - (2 : Int))) <|
              ck (inR (y15 - (2 : Int)) (gtD y6 (y5 - (2 : Int))).length) <|
              ck (i64B ((gtD (gtD y6 (y5 - (2 : Int))) (y15 - (2 : Int))) + (1 : Int))) <|
              ck (inR y15 (y16.set y15.toNat ((1 : Int) + (min (min (gtD (gtD y6 (y5 - (1 : Int))) y15) (gtD y16 (y15 - (1 : Int)))) (gtD (gtD y6 (y5 - (1 : Int))) (y15 - (1 : Int)))))).length) <|
              ck (i64B (y15 + (1 : Int))) <|
              M_spec_l4Table_L1 fu p0 p1 p2 y5 y6 k (y15 + (1 : Int)) ((y16.set y15.toNat ((1 : Int) + (min (min (gtD (gtD y6 (y5 - (1 : Int))) y15) (gtD y16 (y15 - (1 : Int)))) (gtD (gtD y6 (y5 - (1 : Int))) (y15 - (1 : Int)))))).set y15.toNat (min (gtD (y16.set y15.toNat ((1 : Int) + (min (min (gtD (gtD y6 (y5 - (1 : Int))) y15) (gtD y16 (y15 - (1 : Int)))) (gtD (gtD y6 (y5 - (1 : Int))) (y15 - (1 : Int)))))) y15) ((gtD (gtD y6 (y5 - (2 : Int))) (y15 - (2 : Int))) + (1 : Int))))
            ) else (
              ck (i64B (y15 + (1 : Int))) <|
              M_spec_l4Table_L1 fu p0 p1 p2 y5 y6 k (y15 + (1 : Int)) (y16.set y15.toNat ((1 : Int) + (min (min (gtD (gtD y6 (y5 - (1 : Int))) y15) (gtD y16 (y15 - (1 : Int)))) (gtD (gtD y6 (y5 - (1 : Int))) (y15 - (1 : Int))))))
            )
          )
        )
      )
    ) else (
      some y16
    )
def M_spec_l4Table_L0 (fu : Nat) (p0 : List UInt8) (p1 : List UInt8) (p2 : Bool) : Nat → Int → (List (List Int)) → Option (List (List Int))
  | 0, _, _ => none
  | k + 1, y5, y6 =>
    bif (decide (y5 ≤ (p0.length : Int))) then (
      ck (i64B ((p1.length : Int) + (1 : Int))) <|
      ck (mkOK ((p1.length : Int) + (1 : Int))) <|
      cl true (M_spec_l4Table_L1 fu p0 p1 p2 y5 y6 fu (0 : Int) (List.replicate ((p1.length : Int) + (1 : Int)).toNat (0 : Int))) fun s14 =>
      ck (lenOK (y6.length + ([s14] : List (List Int)).length)) <|
      ck (i64B (y5 + (1 : Int))) <|
      M_spec_l4Table_L0 fu p0 p1 p2 k (y5 + (1 : Int)) (y6 ++ ([s14] : List (List Int)))
    ) else (
      some y6
    )
def M_spec_l4Table (fu : Nat) (p0 : List UInt8) (p1 : List UInt8) (p2 : Bool) : Option (List (List Int)) :=
  cl true (M_spec_l4Table_L0 fu p0 p1 p2 fu (0 : Int) ([] : List (List Int))) fun s4 =>
  some s4
set_option maxRecDepth 100000 in
set_option maxHeartbeats 4000000 in
theorem M_spec_l4Table_ok {fu : Nat} {A0 : Av} {p0 : List UInt8} {p1 : List UInt8} {p2 : Bool} {r : List (List Int)} (hr : M_spec_l4Table fu p0 p1 p2 = some r) {w : World} {v0 : Value} {v1 : Value} {v2 : Value} (hA : AvOK A0 w) (h0 : Rep eStr A0 w v0 p0) (h1 : Rep eStr A0 w v1 p1) (h2 : v2 = .bool p2) :
    Calls Try.prog 66 #[v0, v1, v2] w fun e w' => ∃ v, e = .returned v ∧ ((Res.vec w.heap.size 24 (eSl (eInt .i64)) r).ok (addA A0 v) v w' ∧ Fr w w') := by
  unfold M_spec_l4Table at hr
  obtain ⟨w0, hw0⟩ : ∃ w0, w0 = w := ⟨_, rfl⟩
  have hF : Fr w0 w := hw0 ▸ Fr.refl _
  have hA0 : ∀ b o, A0 b o → b < w0.heap.size := fun b o h => hw0 ▸ hA b o h
  have hA00 : AvOK A0 w0 := hA0
  rw [show w.heap.size = w0.heap.size from hw0 ▸ rfl]
  rw [show Fr w = Fr w0 from hw0 ▸ rfl]
  clear hw0
  obtain ⟨A, hAe⟩ : ∃ A, A = A0 := ⟨_, rfl⟩
  have hAA : ∀ b o, A0 b o → A b o := fun b o h => hAe ▸ h
  replace hA : AvOK A w := hAe ▸ hA
  have hO : IniOK [] A w := IniOK.nil
  refine calls_of_HT2 [.tmp 6] Try.func66 Try.ntmps66 (by decide) rfl rfl (Nat.le_of_ble_eq_true rfl) ?_
  intro R hR
  have f_v0 : Rep eStr A w v0 p0 := hAe ▸ h0
  replace h0 : R 0 = v0 := hR 0 _ rfl
  have f_v1 : Rep eStr A w v1 p1 := hAe ▸ h1
  replace h1 : R 1 = v1 := hR 1 _ rfl
  replace h2 : R 2 = .bool p2 := (hR 2 _ rfl).trans h2
  clear hR hAe
  refine HT.seq ?_
  refine HT.text (l := ⟨_, true, .any⟩ :: []) (tl := []) (by kernel_rfl) (by kernel_rfl) (by kernel_rfl) ?_ ?_
  · exact
      Obls.cons (Obl.plain rfl rfl fun R' w' hw hs hd => by exact of_assign trivial) <|
      Obls.nil
  intro R w hw hs hF'
  replace h0 : R 0 = v0 := (hs 0 rfl).trans h0
  replace h1 : R 1 = v1 := (hs 1 rfl).trans h1
  replace h2 : R 2 = .bool p2 := (hs 2 rfl).trans h2
  replace f_v0 := f_v0.fr hw
  replace f_v1 := f_v1.fr hw
  replace hO := hO.fr hw
  replace hA := hA.fr hw.size
  replace hF := hF.trans hw
  clear hs hF' hw
  refine seqR_nil ?_
  refine HT.seq ?_
  refine HT.textR [] (⟨_, true, [], some (.vec w0.heap.size 24 (eSl (eInt .i64)) ([] : List (List Int))), true, fun A => .any⟩ :: ⟨_, true, [0], some (.vec w0.heap.size 24 (eSl (eInt .i64)) ([] : List (List Int))), true, fun A => .any⟩ :: []) (by kernel_rfl) (by kernel_rfl) (Wf.mk' (by kernel_rfl) (UAll.cons ust_any (UAll.cons ust_any (UAll.nil))) (by kernel_rfl) (by kernel_rfl)) hO hA ?_ ?_
  · exact
      OblsR.cons (OblR.made _ rfl rfl rfl rfl fun A' R' w' ho hd => by exact made_build [] (E := eSl (eInt .i64)) trivial Try.underlying75 Try.sizeOf24 Try.zeroValue24 rfl rfl rfl (Nat.le_trans hF.size ho.ch.size)) <|
      OblsR.cons (OblR.took 0 _ _ rfl rfl rfl rfl rfl fun A' R' w' ho hd u hok hav hin hop hds => by exact took_assign (hop _ _ rfl rfl rfl rfl).symm hok hav) <|
      OblsR.nil
  intro done ρ σ A R w hdn hI
  replace h0 : R 0 = v0 := (hI.reg rfl).trans h0
  replace h1 : R 1 = v1 := (hI.reg rfl).trans h1
  replace h2 : R 2 = .bool p2 := (hI.reg rfl).trans h2
  obtain ⟨u1, e_u1⟩ : ∃ u, ρ 1 = u := ⟨_, rfl⟩
  have h7 : R 7 = u1 := (hI.opvR hdn 1 1 rfl rfl rfl rfl rfl).symm.trans e_u1
  replace f_v0 := f_v0.stp hI.stp
  replace f_v1 := f_v1.stp hI.stp
  replace hAA := hI.low' hAA hA0 (hO.ge (trivial))
  replace hF : Fr w0 w := hF.tr hI.ch (hO.ge (trivial))
  replace hO : IniOK [ob u1 (.vec w0.heap.size 24 (eSl (eInt .i64)) ([] : List (List Int)))] A w := hI.left hdn [(1, ob u1 (.vec w0.heap.size 24 (eSl (eInt .i64)) ([] : List (List Int))))] ⟨rfl, rfl, e_u1, rfl, rfl, trivial⟩
  replace hA := hI.avok
  clear hI
  refine HT.seq ?_
  refine HT.seq ?_
  refine HT.text (l := ⟨_, true, .raw (.int .i64 (0 : Int))⟩ :: []) (tl := []) (by kernel_rfl) (by kernel_rfl) (by kernel_rfl) ?_ ?_
  · exact
      Obls.cons (Obl.plain rfl rfl fun R' w' hw hs hd => by exact of_assign rfl) <|
      Obls.nil
  intro R w hw hs hF'
  replace h0 : R 0 = v0 := (hs 0 rfl).trans h0
  replace h1 : R 1 = v1 := (hs 1 rfl).trans h1
  replace h2 : R 2 = .bool p2 := (hs 2 rfl).trans h2
  replace h7 : R 7 = u1 := (hs 7 rfl).trans h7
  have h8 : R 8 = .int .i64 (0 : Int) := hF' 0 _ _ rfl rfl rfl
  replace f_v0 := f_v0.fr hw
  replace f_v1 := f_v1.fr hw
  replace hO := hO.fr hw
  replace hA := hA.fr hw.size
  replace hF := hF.trans hw
  clear hs hF' hw
  refine seqR_nil ?_
  obtain ⟨rl2, q3, hr⟩ := cl_some hr
  replace q3 := q3 rfl
  refine HT.cut0 (fun R w => ∃ A : Av, ∃ (s4 : (List (List Int))) (uo_u1 : Value), rl2 = s4 ∧ AvOK A w ∧ Fr w0 w ∧ (∀ b o, A0 b o → A b o) ∧ IniOK [ob uo_u1 (.vec w0.heap.size 24 (eSl (eInt .i64)) s4)] A w ∧ R 7 = uo_u1) ?_ ?_
  · refine HT.block ?_
    refine HT.loop (fun k R w => ∃ A : Av, ∃ (y5 : Int) (y6 : List (List Int)) (ul_u1 : Value), M_spec_l4Table_L0 fu p0 p1 p2 k y5 y6 = some rl2 ∧ AvOK A w ∧ Fr w0 w ∧ (∀ b o, A0 b o → A b o) ∧ IniOK [ob ul_u1 (.vec w0.heap.size 24 (eSl (eInt .i64)) y6)] A w ∧ R 0 = v0 ∧ R 1 = v1 ∧ R 2 = .bool p2 ∧ R 7 = ul_u1 ∧ R 8 = .int .i64 y5 ∧ Rep eStr A w v0 p0 ∧ Rep eStr A w v1 p1) fu ⟨_, _, _, u1, q3, hA, hF, hAA, hO, h0, h1, h2, h7, h8, f_v0, f_v1⟩ ?_
    have hr0 := hr; clear hr q3
    rintro k R w ⟨A, y5, y6, ul_u1, hr, hA, hF, hAA, hO, h0, h1, h2, h7, h8, f_v0, f_v1⟩
    rcases k with _ | k
    · cases (show none = some _ from hr)
    rw [M_spec_l4Table_L0] at hr
    refine HT.seq ?_
    refine HT.seq ?_
    refine HT.text (l := ⟨_, true, .raw (.int .i64 y5)⟩ :: ⟨_, true, .raw v0⟩ :: ⟨_, true, .raw (.int .i64 (p0.length : Int))⟩ :: ⟨_, true, .raw (.bool (decide (y5 ≤ (p0.length : Int))))⟩ :: []) (tl := []) (by kernel_rfl) (by kernel_rfl) (by kernel_rfl) ?_ ?_
    · exact
        Obls.cons (Obl.plain rfl rfl fun R' w' hw hs hd => by have a0 : R' 8 = .int .i64 y5 := (hs 8 rfl).trans h8; exact of_move a0) <|
        Obls.cons (Obl.plain rfl rfl fun R' w' hw hs hd => by have a0 : R' 0 = v0 := (hs 0 rfl).trans h0; exact of_move a0) <|
        Obls.cons (Obl.plain rfl rfl fun R' w' hw hs hd => by have a0 : R' 13 = v0 := hd 0 _ _ _ rfl rfl rfl rfl rfl; have ra0 := (f_v0.fr hw).eq a0; exact of_len_str ra0 Try.underlying9) <|
        Obls.cons (Obl.plain rfl rfl fun R' w' hw hs hd => by have a0 : R' 12 = .int .i64 y5 := hd 0 _ _ _ rfl rfl rfl rfl rfl; have a1 : R' 14 = .int .i64 (p0.length : Int) := hd 1 _ _ _ rfl rfl rfl rfl rfl; exact of_leq a0 a1) <|
        Obls.nil
    intro R w hw hs hF'
    replace h0 : R 0 = v0 := (hs 0 rfl).trans h0
    replace h1 : R 1 = v1 := (hs 1 rfl).trans h1
    replace h2 : R 2 = .bool p2 := (hs 2 rfl).trans h2
    replace h7 : R 7 = ul_u1 := (hs 7 rfl).trans h7
    replace h8 : R 8 = .int .i64 y5 := (hs 8 rfl).trans h8
    have h15 : R 15 = .bool (decide (y5 ≤ (p0.length : Int))) := hF' 3 _ _ rfl rfl rfl
    replace f_v0 := f_v0.fr hw
    replace f_v1 := f_v1.fr hw
    replace hO := hO.fr hw
    replace hA := hA.fr hw.size
    replace hF := hF.trans hw
    clear hs hF' hw
    refine seqR_nil ?_
    refine HT.cond (decide (y5 ≤ (p0.length : Int))) h15 (fun c7 => ?_) (fun c7 => ?_)
    · have hr := cnd_t c7 hr
      refine HT.skip ?_
      refine HT.seq ?_
      refine HT.block ?_
      refine HT.seq ?_
      obtain ⟨e8, hr⟩ := ck_some hr
      obtain ⟨e9, hr⟩ := ck_some hr
      refine HT.textR [ob ul_u1 (.vec w0.heap.size 24 (eSl (eInt .i64)) y6)] (⟨_, true, [], none, true, fun A => .raw v1⟩ :: ⟨_, true, [], none, true, fun A => .raw (.int .i64 (p1.length : Int))⟩ :: ⟨_, true, [], none, true, fun A => .raw (.int .i64 ((p1.length : Int) + (1 : Int)))⟩ :: ⟨_, true, [], some (.vec w0.heap.size 3 (eInt .i64) (List.replicate ((p1.length : Int) + (1 : Int)).toNat (0 : Int))), true, fun A => .any⟩ :: ⟨_, true, [4], some (.vec w0.heap.size 3 (eInt .i64) (List.replicate ((p1.length : Int) + (1 : Int)).toNat (0 : Int))), true, fun A => .any⟩ :: []) (by kernel_rfl) (by kernel_rfl) (Wf.mk' (by kernel_rfl) (UAll.cons ust_raw (UAll.cons ust_raw (UAll.cons ust_raw (UAll.cons ust_any (UAll.cons ust_any (UAll.nil)))))) (by kernel_rfl) (by kernel_rfl)) hO hA ?_ ?_
      · exact
          OblsR.cons (OblR.plain rfl rfl rfl rfl fun A' R' w' ho hd => by have a0 : R' 1 = v1 := (ho.old 1 rfl).trans h1; exact of_move a0) <|
          OblsR.cons (OblR.plain rfl rfl rfl rfl fun A' R' w' ho hd => by have a0 : R' 18 = v1 := hd 0 _ _ _ rfl rfl rfl rfl rfl; have ra0 := (f_v1.stp ho.stp).eq a0; exact of_len_str ra0 Try.underlying9) <|
          OblsR.cons (OblR.plain rfl rfl rfl rfl fun A' R' w' ho hd => by have a0 : R' 19 = .int .i64 (p1.length : Int) := hd 0 _ _ _ rfl rfl rfl rfl rfl; exact of_add a0 rfl e8) <|
          OblsR.cons (OblR.made _ rfl rfl rfl rfl fun A' R' w' ho hd => by have a0 : R' 20 = .int .i64 ((p1.length : Int) + (1 : Int)) := hd 0 _ _ _ rfl rfl rfl rfl rfl; have a1 : R' 20 = .int .i64 ((p1.length : Int) + (1 : Int)) := hd 0 _ _ _ rfl rfl rfl rfl rfl; exact made_make a0 a1 e9 Try.underlying24 el_3 Try.zeroValue3 (fun A w => rep1_int) (Nat.le_trans hF.size ho.ch.size)) <|
          OblsR.cons (OblR.took 4 _ _ rfl rfl rfl rfl rfl fun A' R' w' ho hd u hok hav hin hop hds => by exact took_assign (hop _ _ rfl rfl rfl rfl).symm hok hav) <|
          OblsR.nil
      intro done ρ σ A R w hdn hI
      replace h0 : R 0 = v0 := (hI.reg rfl).trans h0
      replace h1 : R 1 = v1 := (hI.reg rfl).trans h1
      replace h2 : R 2 = .bool p2 := (hI.reg rfl).trans h2
      replace h7 : R 7 = ul_u1 := (hI.reg rfl).trans h7
      replace h8 : R 8 = .int .i64 y5 := (hI.reg rfl).trans h8
      have z10 := hI.inivR 0 rfl
      obtain ⟨u11, e_u11⟩ : ∃ u, ρ 5 = u := ⟨_, rfl⟩
      have h9 : R 9 = u11 := (hI.opvR hdn 5 4 rfl rfl rfl rfl rfl).symm.trans e_u11
      replace f_v0 := f_v0.stp hI.stp
      replace f_v1 := f_v1.stp hI.stp
      replace hAA := hI.low' hAA hA0 (hO.ge (⟨rfl, trivial⟩))
      replace hF : Fr w0 w := hF.tr hI.ch (hO.ge (⟨rfl, trivial⟩))
      replace hO : IniOK [ob ul_u1 (.vec w0.heap.size 24 (eSl (eInt .i64)) y6), ob u11 (.vec w0.heap.size 3 (eInt .i64) (List.replicate ((p1.length : Int) + (1 : Int)).toNat (0 : Int)))] A w := hI.left hdn [(0, ob ul_u1 (.vec w0.heap.size 24 (eSl (eInt .i64)) y6)), (5, ob u11 (.vec w0.heap.size 3 (eInt .i64) (List.replicate ((p1.length : Int) + (1 : Int)).toNat (0 : Int))))] ⟨rfl, rfl, z10, rfl, rfl, ⟨rfl, rfl, e_u11, rfl, rfl, trivial⟩⟩
      replace hA := hI.avok
      clear hI
      refine HT.seq ?_
      refine HT.seq ?_
      refine HT.text (l := ⟨_, true, .raw (.int .i64 (0 : Int))⟩ :: []) (tl := []) (by kernel_rfl) (by kernel_rfl) (by kernel_rfl) ?_ ?_
      · exact
          Obls.cons (Obl.plain rfl rfl fun R' w' hw hs hd => by exact of_assign rfl) <|
          Obls.nil
      intro R w hw hs hF'
      replace h0 : R 0 = v0 := (hs 0 rfl).trans h0
      replace h1 : R 1 = v1 := (hs 1 rfl).trans h1
      replace h2 : R 2 = .bool p2 := (hs 2 rfl).trans h2
      replace h7 : R 7 = ul_u1 := (hs 7 rfl).trans h7
      replace h8 : R 8 = .int .i64 y5 := (hs 8 rfl).trans h8
      replace h9 : R 9 = u11 := (hs 9 rfl).trans h9
      have h10 : R 10 = .int .i64 (0 : Int) := hF' 0 _ _ rfl rfl rfl
      replace f_v0 := f_v0.fr hw
      replace f_v1 := f_v1.fr hw
      replace hO := hO.fr hw
      replace hA := hA.fr hw.size
      replace hF := hF.trans hw
      clear hs hF' hw
      refine seqR_nil ?_
      obtain ⟨rl12, q13, hr⟩ := cl_some hr
      replace q13 := q13 rfl
      refine HT.cut0 (fun R w => ∃ A : Av, ∃ (s14 : (List Int)), rl12 = s14 ∧ AvOK A w ∧ Fr w0 w ∧ (∀ b o, A0 b o → A b o) ∧ IniOK [ob ul_u1 (.vec w0.heap.size 24 (eSl (eInt .i64)) y6), ob u11 (.vec w0.heap.size 3 (eInt .i64) s14)] A w ∧ R 0 = v0 ∧ R 1 = v1 ∧ R 2 = .bool p2 ∧ R 7 = ul_u1 ∧ R 8 = .int .i64 y5 ∧ R 9 = u11 ∧ Rep eStr A w v0 p0 ∧ Rep eStr A w v1 p1) ?_ ?_
      · refine HT.block ?_
        refine HT.loop (fun k R w => ∃ A : Av, ∃ (y15 : Int) (y16 : List Int), M_spec_l4Table_L1 fu p0 p1 p2 y5 y6 k y15 y16 = some rl12 ∧ AvOK A w ∧ Fr w0 w ∧ (∀ b o, A0 b o → A b o) ∧ IniOK [ob ul_u1 (.vec w0.heap.size 24 (eSl (eInt .i64)) y6), ob u11 (.vec w0.heap.size 3 (eInt .i64) y16)] A w ∧ R 0 = v0 ∧ R 1 = v1 ∧ R 2 = .bool p2 ∧ R 7 = ul_u1 ∧ R 8 = .int .i64 y5 ∧ R 9 = u11 ∧ R 10 = .int .i64 y15 ∧ Rep eStr A w v0 p0 ∧ Rep eStr A w v1 p1) fu ⟨_, _, _, q13, hA, hF, hAA, hO, h0, h1, h2, h7, h8, h9, h10, f_v0, f_v1⟩ ?_
        have hr0 := hr; clear hr q13
        rintro k R w ⟨A, y15, y16, hr, hA, hF, hAA, hO, h0, h1, h2, h7, h8, h9, h10, f_v0, f_v1⟩
        rcases k with _ | k
        · cases (show none = some _ from hr)
        rw [M_spec_l4Table_L1] at hr
        refine HT.seq ?_
        refine HT.seq ?_
        refine HT.text (l := ⟨_, true, .raw (.int .i64 y15)⟩ :: ⟨_, true, .raw v1⟩ :: ⟨_, true, .raw (.int .i64 (p1.length : Int))⟩ :: ⟨_, true, .raw (.bool (decide (y15 ≤ (p1.length : Int))))⟩ :: []) (tl := []) (by kernel_rfl) (by kernel_rfl) (by kernel_rfl) ?_ ?_
        · exact
            Obls.cons (Obl.plain rfl rfl fun R' w' hw hs hd => by have a0 : R' 10 = .int .i64 y15 := (hs 10 rfl).trans h10; exact of_move a0) <|
            Obls.cons (Obl.plain rfl rfl fun R' w' hw hs hd => by have a0 : R' 1 = v1 := (hs 1 rfl).trans h1; exact of_move a0) <|
            Obls.cons (Obl.plain rfl rfl fun R' w' hw hs hd => by have a0 : R' 23 = v1 := hd 0 _ _ _ rfl rfl rfl rfl rfl; have ra0 := (f_v1.fr hw).eq a0; exact of_len_str ra0 Try.underlying9) <|
            Obls.cons (Obl.plain rfl rfl fun R' w' hw hs hd => by have a0 : R' 22 = .int .i64 y15 := hd 0 _ _ _ rfl rfl rfl rfl rfl; have a1 : R' 24 = .int .i64 (p1.length : Int) := hd 1 _ _ _ rfl rfl rfl rfl rfl; exact of_leq a0 a1) <|
            Obls.nil
        intro R w hw hs hF'
        replace h0 : R 0 = v0 := (hs 0 rfl).trans h0
        replace h1 : R 1 = v1 := (hs 1 rfl).trans h1
        replace h2 : R 2 = .bool p2 := (hs 2 rfl).trans h2
        replace h7 : R 7 = ul_u1 := (hs 7 rfl).trans h7
        replace h8 : R 8 = .int .i64 y5 := (hs 8 rfl).trans h8
        replace h9 : R 9 = u11 := (hs 9 rfl).trans h9
        replace h10 : R 10 = .int .i64 y15 := (hs 10 rfl).trans h10
        have h25 : R 25 = .bool (decide (y15 ≤ (p1.length : Int))) := hF' 3 _ _ rfl rfl rfl
        replace f_v0 := f_v0.fr hw
        replace f_v1 := f_v1.fr hw
        replace hO := hO.fr hw
        replace hA := hA.fr hw.size
        replace hF := hF.trans hw
        clear hs hF' hw
        refine seqR_nil ?_
        refine HT.cond (decide (y15 ≤ (p1.length : Int))) h25 (fun c17 => ?_) (fun c17 => ?_)
        · have hr := cnd_t c17 hr
          refine HT.skip ?_
          refine HT.seq ?_
          refine HT.block ?_
          refine HT.seq ?_
          refine HT.block ?_
          refine HT.seq ?_
          refine HT.text (l := ⟨_, true, .raw (.int .i64 y5)⟩ :: ⟨_, true, .raw (.bool (y5 == (0 : Int)))⟩ :: ⟨_, true, .raw (.bool (y5 == (0 : Int)))⟩ :: []) (tl := []) (by kernel_rfl) (by kernel_rfl) (by kernel_rfl) ?_ ?_
          · exact
              Obls.cons (Obl.plain rfl rfl fun R' w' hw hs hd => by have a0 : R' 8 = .int .i64 y5 := (hs 8 rfl).trans h8; exact of_move a0) <|
              Obls.cons (Obl.plain rfl rfl fun R' w' hw hs hd => by have a0 : R' 56 = .int .i64 y5 := hd 0 _ _ _ rfl rfl rfl rfl rfl; exact of_eql a0 rfl) <|
              Obls.cons (Obl.plain rfl rfl fun R' w' hw hs hd => by have a0 : R' 57 = .bool (y5 == (0 : Int)) := hd 0 _ _ _ rfl rfl rfl rfl rfl; exact of_assign a0) <|
              Obls.nil
          intro R w hw hs hF'
          replace h0 : R 0 = v0 := (hs 0 rfl).trans h0
          replace h1 : R 1 = v1 := (hs 1 rfl).trans h1
          replace h2 : R 2 = .bool p2 := (hs 2 rfl).trans h2
          replace h7 : R 7 = ul_u1 := (hs 7 rfl).trans h7
          replace h8 : R 8 = .int .i64 y5 := (hs 8 rfl).trans h8
          replace h9 : R 9 = u11 := (hs 9 rfl).trans h9
          replace h10 : R 10 = .int .i64 y15 := (hs 10 rfl).trans h10
          have h55 : R 55 = .bool (y5 == (0 : Int)) := hF' 2 _ _ rfl rfl rfl
          replace f_v0 := f_v0.fr hw
          replace f_v1 := f_v1.fr hw
          replace hO := hO.fr hw
          replace hA := hA.fr hw.size
          replace hF := hF.trans hw
          clear hs hF' hw
          refine seqR_nil ?_
          refine HT.cond (y5 == (0 : Int)) h55 (fun c18 => ?_) (fun c18 => ?_)
          · have hr := cnd_t c18 hr
            obtain ⟨e19, hr⟩ := ck_some hr
            refine HT.textR [ob ul_u1 (.vec w0.heap.size 24 (eSl (eInt .i64)) y6), ob u11 (.vec w0.heap.size 3 (eInt .i64) y16)] (⟨_, true, [], none, true, fun A => .raw u11⟩ :: ⟨_, true, [], none, true, fun A => .raw (.int .i64 y15)⟩ :: ⟨_, true, [], none, true, fun A => .raw (.int .i64 y15)⟩ :: ⟨_, true, [], none, true, fun A => .raw (vptr u11 (y15.toNat * 1))⟩ :: ⟨_, true, [1], some (.vec w0.heap.size 3 (eInt .i64) (y16.set y15.toNat y15)), false, fun A => .any⟩ :: []) (by kernel_rfl) (by kernel_rfl) (Wf.mk' (by kernel_rfl) (UAll.cons ust_raw (UAll.cons ust_raw (UAll.cons ust_raw (UAll.cons ust_raw (UAll.cons ust_any (UAll.nil)))))) (by kernel_rfl) (by kernel_rfl)) hO hA ?_ ?_
            · exact
                OblsR.cons (OblR.plain rfl rfl rfl rfl fun A' R' w' ho hd => by have a0 : R' 9 = u11 := (ho.old 9 rfl).trans h9; exact of_move a0) <|
                OblsR.cons (OblR.plain rfl rfl rfl rfl fun A' R' w' ho hd => by have a0 : R' 10 = .int .i64 y15 := (ho.old 10 rfl).trans h10; exact of_move a0) <|
                OblsR.cons (OblR.plain rfl rfl rfl rfl fun A' R' w' ho hd => by have a0 : R' 10 = .int .i64 y15 := (ho.old 10 rfl).trans h10; exact of_move a0) <|
                OblsR.cons (OblR.plain rfl rfl rfl rfl fun A' R' w' ho hd => by have a0 : R' 58 = u11 := hd 0 _ _ _ rfl rfl rfl rfl rfl; have a1 : R' 59 = .int .i64 y15 := hd 1 _ _ _ rfl rfl rfl rfl rfl; exact of_indexAddr_vec (hO.ok 1 _ rfl).1 a0 a1 Try.underlying24 Try.sizeOf3 e19 rfl) <|
                OblsR.cons (OblR.took 1 _ _ rfl rfl rfl rfl rfl fun A' R' w' ho hd u hok hav hin hop hds => by have a0 : R' 61 = (vptr u11 (y15.toNat * 1)) := hd 0 _ _ _ rfl rfl rfl rfl rfl; have a1 : R' 60 = .int .i64 y15 := hd 1 _ _ _ rfl rfl rfl rfl rfl; obtain rfl := hin _ rfl; exact took_vstore (rep_int.eq a1) hok hav a0 e19 rfl (FldS.id _) Try.sizeOf3 rfl) <|
                OblsR.nil
            intro done ρ σ A R w hdn hI
            replace h0 : R 0 = v0 := (hI.reg rfl).trans h0
            replace h1 : R 1 = v1 := (hI.reg rfl).trans h1
            replace h2 : R 2 = .bool p2 := (hI.reg rfl).trans h2
            replace h7 : R 7 = ul_u1 := (hI.reg rfl).trans h7
            replace h8 : R 8 = .int .i64 y5 := (hI.reg rfl).trans h8
            replace h9 : R 9 = u11 := (hI.reg rfl).trans h9
            replace h10 : R 10 = .int .i64 y15 := (hI.reg rfl).trans h10
            have z20 := hI.inivR 0 rfl
            have z21 := hI.inivR 1 rfl
            have z22 := (hI.opnR hdn 6 4 rfl rfl rfl rfl rfl).trans z21
            replace f_v0 := f_v0.stp hI.stp
            replace f_v1 := f_v1.stp hI.stp
            replace hAA := hI.low' hAA hA0 (hO.ge (⟨rfl, ⟨rfl, trivial⟩⟩))
            replace hF : Fr w0 w := hF.tr hI.ch (hO.ge (⟨rfl, ⟨rfl, trivial⟩⟩))
            replace hO : IniOK [ob ul_u1 (.vec w0.heap.size 24 (eSl (eInt .i64)) y6), ob u11 (.vec w0.heap.size 3 (eInt .i64) (y16.set y15.toNat y15))] A w := hI.left hdn [(0, ob ul_u1 (.vec w0.heap.size 24 (eSl (eInt .i64)) y6)), (6, ob u11 (.vec w0.heap.size 3 (eInt .i64) (y16.set y15.toNat y15)))] ⟨rfl, rfl, z20, rfl, rfl, ⟨rfl, rfl, z22, rfl, rfl, trivial⟩⟩
            replace hA := hI.avok
            clear hI
            refine HT.seq ?_
            obtain ⟨x23, q24, hr⟩ := bd_some hr
            obtain ⟨x25, q26, hr⟩ := bd_some hr
            obtain ⟨e27, hr⟩ := ck_some hr
            obtain ⟨e28, hr⟩ := ck_some hr
            obtain ⟨e29, hr⟩ := ck_some hr
            obtain ⟨e30, hr⟩ := ck_some hr
            obtain ⟨x31, q32, hr⟩ := bd_some hr
            obtain ⟨e33, hr⟩ := ck_some hr
            obtain ⟨e34, hr⟩ := ck_some hr
            obtain ⟨e35, hr⟩ := ck_some hr
            obtain ⟨e36, hr⟩ := ck_some hr
            obtain ⟨x37, q38, hr⟩ := bd_some hr
            refine HT.draw (by kernel_rfl) (l := ⟨_, true, .raw (.bool p2)⟩ :: ⟨_, true, .raw (.bool p2)⟩ :: ⟨_, (true && (p2 == true)), .raw (.int .i64 y5)⟩ :: ⟨_, (true && (p2 == true)), .raw (.bool (decide ((1 : Int) < y5)))⟩ :: ⟨_, true, .raw (.bool x23)⟩ :: ⟨_, true, .raw (.bool x23)⟩ :: ⟨_, (true && (x23 == true)), .raw (.int .i64 y15)⟩ :: ⟨_, (true && (x23 == true)), .raw (.bool (decide ((1 : Int) < y15)))⟩ :: ⟨_, true, .raw (.bool x25)⟩ :: ⟨_, true, .raw (.bool x25)⟩ :: ⟨_, (true && (x25 == true)), .raw v0⟩ :: ⟨_, (true && (x25 == true)), .raw (.int .i64 y5)⟩ :: ⟨_, (true && (x25 == true)), .raw (.int .i64 (y5 - (1 : Int)))⟩ :: ⟨_, (true && (x25 == true)), .raw (.int .u8 (bAt p0 (y5 - (1 : Int))))⟩ :: ⟨_, (true && (x25 == true)), .raw v1⟩ :: ⟨_, (true && (x25 == true)), .raw (.int .i64 y15)⟩ :: ⟨_, (true && (x25 == true)), .raw (.int .i64 (y15 - (2 : Int)))⟩ :: ⟨_, (true && (x25 == true)), .raw (.int .u8 (bAt p1 (y15 - (2 : Int))))⟩ :: ⟨_, (true && (x25 == true)), .raw (.bool ((bAt p0 (y5 - (1 : Int))) == (bAt p1 (y15 - (2 : Int)))))⟩ :: ⟨_, true, .raw (.bool x31)⟩ :: ⟨_, true, .raw (.bool x31)⟩ :: ⟨_, (true && (x31 == true)), .raw v0⟩ :: ⟨_, (true && (x31 == true)), .raw (.int .i64 y5)⟩ :: ⟨_, (true && (x31 == true)), .raw (.int .i64 (y5 - (2 : Int)))⟩ :: ⟨_, (true && (x31 == true)), .raw (.int .u8 (bAt p0 (y5 - (2 : Int))))⟩ :: ⟨_, (true && (x31 == true)), .raw v1⟩ :: ⟨_, (true && (x31 == true)), .raw (.int .i64 y15)⟩ :: ⟨_, (true && (x31 == true)), .raw (.int .i64 (y15 - (1 : Int)))⟩ :: ⟨_, (true && (x31 == true)), .raw (.int .u8 (bAt p1 (y15 - (1 : Int))))⟩ :: ⟨_, (true && (x31 == true)), .raw (.bool ((bAt p0 (y5 - (2 : Int))) == (bAt p1 (y15 - (1 : Int)))))⟩ :: ⟨_, true, .raw (.bool x37)⟩ :: []) (tl := []) (by kernel_rfl) (by kernel_rfl) (by kernel_rfl) (by kernel_rfl) ?_ ?_
            · exact
                Obls.cons (Obl.plain rfl rfl fun R' w' hw hs hd => by have a0 : R' 2 = .bool p2 := (hs 2 rfl).trans h2; exact of_move a0) <|
                Obls.cons (Obl.plain rfl rfl fun R' w' hw hs hd => by have a0 : R' 91 = .bool p2 := hd 0 _ _ _ rfl rfl rfl rfl rfl; exact of_move a0) <|
                Obls.cons (Obl.grd 1 true _ _ _ rfl rfl rfl rfl rfl (by kernel_rfl) fun hg R' w' hw hs hd => by have a0 : R' 8 = .int .i64 y5 := (hs 8 rfl).trans h8; exact of_move a0) <|
                Obls.cons (Obl.grd 1 true _ _ _ rfl rfl rfl rfl rfl (by kernel_rfl) fun hg R' w' hw hs hd => by have a0 : R' 93 = .int .i64 y5 := hd 0 _ _ _ rfl rfl rfl rfl hg; exact of_gtr a0 rfl) <|
                Obls.cons (Obl.plain rfl rfl fun R' w' hw hs hd => by have a0 : R' 92 = .bool p2 := hd 0 _ _ _ rfl rfl rfl rfl rfl; exact of_pick p2 a0 (fun hc => by have a1 : R' 94 = .bool (decide ((1 : Int) < y5)) := hd 1 _ _ _ rfl rfl rfl rfl (g_and rfl (beq_of hc)); show _ = Value.bool x23; rw [q24, hc]; exact a1) (fun hc => by show _ = Value.bool x23; rw [q24, hc]; exact rfl)) <|
                Obls.cons (Obl.plain rfl rfl fun R' w' hw hs hd => by have a0 : R' 95 = .bool x23 := hd 0 _ _ _ rfl rfl rfl rfl rfl; exact of_move a0) <|
                Obls.cons (Obl.grd 5 true _ _ _ rfl rfl rfl rfl rfl (by kernel_rfl) fun hg R' w' hw hs hd => by have a0 : R' 10 = .int .i64 y15 := (hs 10 rfl).trans h10; exact of_move a0) <|
                Obls.cons (Obl.grd 5 true _ _ _ rfl rfl rfl rfl rfl (by kernel_rfl) fun hg R' w' hw hs hd => by have a0 : R' 97 = .int .i64 y15 := hd 0 _ _ _ rfl rfl rfl rfl hg; exact of_gtr a0 rfl) <|
                Obls.cons (Obl.plain rfl rfl fun R' w' hw hs hd => by have a0 : R' 96 = .bool x23 := hd 0 _ _ _ rfl rfl rfl rfl rfl; exact of_pick x23 a0 (fun hc => by have a1 : R' 98 = .bool (decide ((1 : Int) < y15)) := hd 1 _ _ _ rfl rfl rfl rfl (g_and rfl (beq_of hc)); show _ = Value.bool x25; rw [q26, hc]; exact a1) (fun hc => by show _ = Value.bool x25; rw [q26, hc]; exact rfl)) <|
                Obls.cons (Obl.plain rfl rfl fun R' w' hw hs hd => by have a0 : R' 99 = .bool x25 := hd 0 _ _ _ rfl rfl rfl rfl rfl; exact of_move a0) <|
                Obls.cons (Obl.grd 9 true _ _ _ rfl rfl rfl rfl rfl (by kernel_rfl) fun hg R' w' hw hs hd => by have a0 : R' 0 = v0 := (hs 0 rfl).trans h0; exact of_move a0) <|
                Obls.cons (Obl.grd 9 true _ _ _ rfl rfl rfl rfl rfl (by kernel_rfl) fun hg R' w' hw hs hd => by have a0 : R' 8 = .int .i64 y5 := (hs 8 rfl).trans h8; exact of_move a0) <|
                Obls.cons (Obl.grd 9 true _ _ _ rfl rfl rfl rfl rfl (by kernel_rfl) fun hg R' w' hw hs hd => by have a0 : R' 102 = .int .i64 y5 := hd 0 _ _ _ rfl rfl rfl rfl hg; exact of_sub a0 rfl (gd e27 hg)) <|
                Obls.cons (Obl.grd 9 true _ _ _ rfl rfl rfl rfl rfl (by kernel_rfl) fun hg R' w' hw hs hd => by have a0 : R' 101 = v0 := hd 0 _ _ _ rfl rfl rfl rfl hg; have ra0 := (f_v0.fr hw).eq a0; have a1 : R' 103 = .int .i64 (y5 - (1 : Int)) := hd 1 _ _ _ rfl rfl rfl rfl hg; exact of_strIndex ra0 a1 Try.underlying9 (gd e28 hg)) <|
                Obls.cons (Obl.grd 9 true _ _ _ rfl rfl rfl rfl rfl (by kernel_rfl) fun hg R' w' hw hs hd => by have a0 : R' 1 = v1 := (hs 1 rfl).trans h1; exact of_move a0) <|
                Obls.cons (Obl.grd 9 true _ _ _ rfl rfl rfl rfl rfl (by kernel_rfl) fun hg R' w' hw hs hd => by have a0 : R' 10 = .int .i64 y15 := (hs 10 rfl).trans h10; exact of_move a0) <|
                Obls.cons (Obl.grd 9 true _ _ _ rfl rfl rfl rfl rfl (by kernel_rfl) fun hg R' w' hw hs hd => by have a0 : R' 106 = .int .i64 y15 := hd 0 _ _ _ rfl rfl rfl rfl hg; exact of_sub a0 rfl (gd e29 hg)) <|
                Obls.cons (Obl.grd 9 true _ _ _ rfl rfl rfl rfl rfl (by kernel_rfl) fun hg R' w' hw hs hd => by have a0 : R' 105 = v1 := hd 0 _ _ _ rfl rfl rfl rfl hg; have ra0 := (f_v1.fr hw).eq a0; have a1 : R' 107 = .int .i64 (y15 - (2 : Int)) := hd 1 _ _ _ rfl rfl rfl rfl hg; exact of_strIndex ra0 a1 Try.underlying9 (gd e30 hg)) <|
                Obls.cons (Obl.grd 9 true _ _ _ rfl rfl rfl rfl rfl (by kernel_rfl) fun hg R' w' hw hs hd => by have a0 : R' 104 = .int .u8 (bAt p0 (y5 - (1 : Int))) := hd 0 _ _ _ rfl rfl rfl rfl hg; have a1 : R' 108 = .int .u8 (bAt p1 (y15 - (2 : Int))) := hd 1 _ _ _ rfl rfl rfl rfl hg; exact of_eql a0 a1) <|
                Obls.cons (Obl.plain rfl rfl fun R' w' hw hs hd => by have a0 : R' 100 = .bool x25 := hd 0 _ _ _ rfl rfl rfl rfl rfl; exact of_pick x25 a0 (fun hc => by have a1 : R' 109 = .bool ((bAt p0 (y5 - (1 : Int))) == (bAt p1 (y15 - (2 : Int)))) := hd 1 _ _ _ rfl rfl rfl rfl (g_and rfl (beq_of hc)); show _ = Value.bool x31; rw [q32, hc]; exact a1) (fun hc => by show _ = Value.bool x31; rw [q32, hc]; exact rfl)) <|
                Obls.cons (Obl.plain rfl rfl fun R' w' hw hs hd => by have a0 : R' 110 = .bool x31 := hd 0 _ _ _ rfl rfl rfl rfl rfl; exact of_move a0) <|
                Obls.cons (Obl.grd 20 true _ _ _ rfl rfl rfl rfl rfl (by kernel_rfl) fun hg R' w' hw hs hd => by have a0 : R' 0 = v0 := (hs 0 rfl).trans h0; exact of_move a0) <|
                Obls.cons (Obl.grd 20 true _ _ _ rfl rfl rfl rfl rfl (by kernel_rfl) fun hg R' w' hw hs hd => by have a0 : R' 8 = .int .i64 y5 := (hs 8 rfl).trans h8; exact of_move a0) <|
                Obls.cons (Obl.grd 20 true _ _ _ rfl rfl rfl rfl rfl (by kernel_rfl) fun hg R' w' hw hs hd => by have a0 : R' 113 = .int .i64 y5 := hd 0 _ _ _ rfl rfl rfl rfl hg; exact of_sub a0 rfl (gd e33 hg)) <|
                Obls.cons (Obl.grd 20 true _ _ _ rfl rfl rfl rfl rfl (by kernel_rfl) fun hg R' w' hw hs hd => by have a0 : R' 112 = v0 := hd 0 _ _ _ rfl rfl rfl rfl hg; have ra0 := (f_v0.fr hw).eq a0; have a1 : R' 114 = .int .i64 (y5 - (2 : Int)) := hd 1 _ _ _ rfl rfl rfl rfl hg; exact of_strIndex ra0 a1 Try.underlying9 (gd e34 hg)) <|
                Obls.cons (Obl.grd 20 true _ _ _ rfl rfl rfl rfl rfl (by kernel_rfl) fun hg R' w' hw hs hd => by have a0 : R' 1 = v1 := (hs 1 rfl).trans h1; exact of_move a0) <|
                Obls.cons (Obl.grd 20 true _ _ _ rfl rfl rfl rfl rfl (by kernel_rfl) fun hg R' w' hw hs hd => by have a0 : R' 10 = .int .i64 y15 := (hs 10 rfl).trans h10; exact of_move a0) <|
                Obls.cons (Obl.grd 20 true _ _ _ rfl rfl rfl rfl rfl (by kernel_rfl) fun hg R' w' hw hs hd => by have a0 : R' 117 = .int .i64 y15 := hd 0 _ _ _ rfl rfl rfl rfl hg; exact of_sub a0 rfl (gd e35 hg)) <|
                Obls.cons (Obl.grd 20 true _ _ _ rfl rfl rfl rfl rfl (by kernel_rfl) fun hg R' w' hw hs hd => by have a0 : R' 116 = v1 := hd 0 _ _ _ rfl rfl rfl rfl hg; have ra0 := (f_v1.fr hw).eq a0; have a1 : R' 118 = .int .i64 (y15 - (1 : Int)) := hd 1 _ _ _ rfl rfl rfl rfl hg; exact of_strIndex ra0 a1 Try.underlying9 (gd e36 hg)) <|
                Obls.cons (Obl.grd 20 true _ _ _ rfl rfl rfl rfl rfl (by kernel_rfl) fun hg R' w' hw hs hd => by have a0 : R' 115 = .int .u8 (bAt p0 (y5 - (2 : Int))) := hd 0 _ _ _ rfl rfl rfl rfl hg; have a1 : R' 119 = .int .u8 (bAt p1 (y15 - (1 : Int))) := hd 1 _ _ _ rfl rfl rfl rfl hg; exact of_eql a0 a1) <|
                Obls.cons (Obl.plain rfl rfl fun R' w' hw hs hd => by have a0 : R' 111 = .bool x31 := hd 0 _ _ _ rfl rfl rfl rfl rfl; exact of_pick x31 a0 (fun hc => by have a1 : R' 120 = .bool ((bAt p0 (y5 - (2 : Int))) == (bAt p1 (y15 - (1 : Int)))) := hd 1 _ _ _ rfl rfl rfl rfl (g_and rfl (beq_of hc)); show _ = Value.bool x37; rw [q38, hc]; exact a1) (fun hc => by show _ = Value.bool x37; rw [q38, hc]; exact rfl)) <|
                Obls.nil
            intro R w hw hs hF'
            replace h0 : R 0 = v0 := (hs 0 rfl).trans h0
            replace h1 : R 1 = v1 := (hs 1 rfl).trans h1
            replace h2 : R 2 = .bool p2 := (hs 2 rfl).trans h2
            replace h7 : R 7 = ul_u1 := (hs 7 rfl).trans h7
            replace h8 : R 8 = .int .i64 y5 := (hs 8 rfl).trans h8
            replace h9 : R 9 = u11 := (hs 9 rfl).trans h9
            replace h10 : R 10 = .int .i64 y15 := (hs 10 rfl).trans h10
            have h121 : R 121 = .bool x37 := hF' 30 _ _ rfl rfl rfl
            replace f_v0 := f_v0.fr hw
            replace f_v1 := f_v1.fr hw
            replace hO := hO.fr hw
            replace hA := hA.fr hw.size
            replace hF := hF.trans hw
            clear hs hF' hw
            refine seqR_nil ?_
            refine HT.cond x37 h121 (fun c39 => ?_) (fun c39 => ?_)
            · have hr := cnd_t c39 hr
              obtain ⟨e40, hr⟩ := ck_some hr
              obtain ⟨e41, hr⟩ := ck_some hr
              obtain ⟨e42, hr⟩ := ck_some hr
              obtain ⟨e43, hr⟩ := ck_some hr
              obtain ⟨e44, hr⟩ := ck_some hr
              obtain ⟨e45, hr⟩ := ck_some hr
              obtain ⟨e46, hr⟩ := ck_some hr
              refine HT.drawR [ob ul_u1 (.vec w0.heap.size 24 (eSl (eInt .i64)) y6), ob u11 (.vec w0.heap.size 3 (eInt .i64) (y16.set y15.toNat y15))] (⟨_, true, [], none, true, fun A => .raw u11⟩ :: ⟨_, true, [], none, true, fun A => .raw (.int .i64 y15)⟩ :: ⟨_, true, [], none, true, fun A => .raw u11⟩ :: ⟨_, true, [], none, true, fun A => .raw (.int .i64 y15)⟩ :: ⟨_, true, [], none, true, fun A => .raw (vptr u11 (y15.toNat * 1))⟩ :: ⟨_, true, [], none, true, fun A => .raw (.int .i64 (gtD (y16.set y15.toNat y15) y15))⟩ :: ⟨_, true, [], none, true, fun A => .raw ul_u1⟩ :: ⟨_, true, [], none, true, fun A => .raw (.int .i64 y5)⟩ :: ⟨_, true, [], none, true, fun A => .raw (.int .i64 (y5 - (2 : Int)))⟩ :: ⟨_, true, [], none, true, fun A => .raw (vptr ul_u1 ((y5 - (2 : Int)).toNat * 1))⟩ :: ⟨_, true, [], none, true, fun A => .rep (eSl (eInt .i64)) A (gtD y6 (y5 - (2 : Int)))⟩ :: ⟨_, true, [], none, true, fun A => .raw (.int .i64 y15)⟩ :: ⟨_, true, [], none, true, fun A => .raw (.int .i64 (y15 - (2 : Int)))⟩ :: ⟨_, true, [], none, true, fun A => .qtr (eInt .i64) A (gtD (gtD y6 (y5 - (2 : Int))) (y15 - (2 : Int)))⟩ :: ⟨_, true, [], none, true, fun A => .raw (.int .i64 (gtD (gtD y6 (y5 - (2 : Int))) (y15 - (2 : Int))))⟩ :: ⟨_, true, [], none, true, fun A => .raw (.int .i64 ((gtD (gtD y6 (y5 - (2 : Int))) (y15 - (2 : Int))) + (1 : Int)))⟩ :: ⟨_, true, [], none, true, fun A => .raw (.int .i64 (min (gtD (y16.set y15.toNat y15) y15) ((gtD (gtD y6 (y5 - (2 : Int))) (y15 - (2 : Int))) + (1 : Int))))⟩ :: ⟨_, true, [], none, true, fun A => .raw (vptr u11 (y15.toNat * 1))⟩ :: ⟨_, true, [1], some (.vec w0.heap.size 3 (eInt .i64) ((y16.set y15.toNat y15).set y15.toNat (min (gtD (y16.set y15.toNat y15) y15) ((gtD (gtD y6 (y5 - (2 : Int))) (y15 - (2 : Int))) + (1 : Int))))), false, fun A => .any⟩ :: []) (by kernel_rfl) (by kernel_rfl) (by kernel_rfl) (Wf.mk' (by kernel_rfl) (UAll.cons ust_raw (UAll.cons ust_raw (UAll.cons ust_raw (UAll.cons ust_raw (UAll.cons ust_raw (UAll.cons ust_raw (UAll.cons ust_raw (UAll.cons ust_raw (UAll.cons ust_raw (UAll.cons ust_raw (UAll.cons ust_rep (UAll.cons ust_raw (UAll.cons ust_raw (UAll.cons ust_qtr (UAll.cons ust_raw (UAll.cons ust_raw (UAll.cons ust_raw (UAll.cons ust_raw (UAll.cons ust_any (UAll.nil)))))))))))))))))))) (by kernel_rfl) (by kernel_rfl)) hO hA ?_ ?_
              · exact
                  OblsR.cons (OblR.plain rfl rfl rfl rfl fun A' R' w' ho hd => by have a0 : R' 9 = u11 := (ho.old 9 rfl).trans h9; exact of_move a0) <|
                  OblsR.cons (OblR.plain rfl rfl rfl rfl fun A' R' w' ho hd => by have a0 : R' 10 = .int .i64 y15 := (ho.old 10 rfl).trans h10; exact of_move a0) <|
                  OblsR.cons (OblR.plain rfl rfl rfl rfl fun A' R' w' ho hd => by have a0 : R' 9 = u11 := (ho.old 9 rfl).trans h9; exact of_move a0) <|
                  OblsR.cons (OblR.plain rfl rfl rfl rfl fun A' R' w' ho hd => by have a0 : R' 10 = .int .i64 y15 := (ho.old 10 rfl).trans h10; exact of_move a0) <|
                  OblsR.cons (OblR.plain rfl rfl rfl rfl fun A' R' w' ho hd => by have a0 : R' 124 = u11 := hd 0 _ _ _ rfl rfl rfl rfl rfl; have a1 : R' 125 = .int .i64 y15 := hd 1 _ _ _ rfl rfl rfl rfl rfl; exact of_indexAddr_vec (hO.ok 1 _ rfl).1 a0 a1 Try.underlying24 Try.sizeOf3 e40 rfl) <|
                  OblsR.cons (OblR.plain rfl rfl rfl rfl fun A' R' w' ho hd => by have a0 : R' 126 = (vptr u11 (y15.toNat * 1)) := hd 0 _ _ _ rfl rfl rfl rfl rfl; exact OpF.int (of_load_vec (ho.rd 1 _ rfl rfl) a0 e40 rfl (Fld.id _) rfl Try.isAgg3 Try.sizeOf3)) <|
                  OblsR.cons (OblR.plain rfl rfl rfl rfl fun A' R' w' ho hd => by have a0 : R' 7 = ul_u1 := (ho.old 7 rfl).trans h7; exact of_move a0) <|
                  OblsR.cons (OblR.plain rfl rfl rfl rfl fun A' R' w' ho hd => by have a0 : R' 8 = .int .i64 y5 := (ho.old 8 rfl).trans h8; exact of_move a0) <|
                  OblsR.cons (OblR.plain rfl rfl rfl rfl fun A' R' w' ho hd => by have a0 : R' 129 = .int .i64 y5 := hd 0 _ _ _ rfl rfl rfl rfl rfl; exact of_sub a0 rfl e41) <|
                  OblsR.cons (OblR.plain rfl rfl rfl rfl fun A' R' w' ho hd => by have a0 : R' 128 = ul_u1 := hd 0 _ _ _ rfl rfl rfl rfl rfl; have a1 : R' 130 = .int .i64 (y5 - (2 : Int)) := hd 1 _ _ _ rfl rfl rfl rfl rfl; exact of_indexAddr_vec (hO.ok 0 _ rfl).1 a0 a1 Try.underlying75 Try.sizeOf24 e42 rfl) <|
                  OblsR.cons (OblR.plain rfl rfl rfl rfl fun A' R' w' ho hd => by have a0 : R' 131 = (vptr ul_u1 ((y5 - (2 : Int)).toNat * 1)) := hd 0 _ _ _ rfl rfl rfl rfl rfl; exact (of_load_vec (ho.rd 0 _ rfl rfl) a0 e42 rfl (Fld.id _) rfl Try.isAgg24 Try.sizeOf24)) <|
                  OblsR.cons (OblR.plain rfl rfl rfl rfl fun A' R' w' ho hd => by have a0 : R' 10 = .int .i64 y15 := (ho.old 10 rfl).trans h10; exact of_move a0) <|
                  OblsR.cons (OblR.plain rfl rfl rfl rfl fun A' R' w' ho hd => by have a0 : R' 133 = .int .i64 y15 := hd 0 _ _ _ rfl rfl rfl rfl rfl; exact of_sub a0 rfl e43) <|
                  OblsR.cons (OblR.plain rfl rfl rfl rfl fun A' R' w' ho hd => by have a0 : Rep (eSl (eInt .i64)) A' w' (R' 132) (gtD y6 (y5 - (2 : Int))) := hd 0 _ _ _ rfl rfl rfl rfl rfl; have a1 : R' 134 = .int .i64 (y15 - (2 : Int)) := hd 1 _ _ _ rfl rfl rfl rfl rfl; exact of_indexAddr a0 a1 Try.underlying24 Try.sizeOf3 e44) <|
                  OblsR.cons (OblR.plain rfl rfl rfl rfl fun A' R' w' ho hd => by have a0 : QRep (eInt .i64) A' w' (R' 135) (gtD (gtD y6 (y5 - (2 : Int))) (y15 - (2 : Int))) := hd 0 _ _ _ rfl rfl rfl rfl rfl; exact OpF.int (of_load a0.ptr Try.isAgg3 Try.sizeOf3)) <|
                  OblsR.cons (OblR.plain rfl rfl rfl rfl fun A' R' w' ho hd => by have a0 : R' 136 = .int .i64 (gtD (gtD y6 (y5 - (2 : Int))) (y15 - (2 : Int))) := hd 0 _ _ _ rfl rfl rfl rfl rfl; exact of_add a0 rfl e45) <|
                  OblsR.cons (OblR.plain rfl rfl rfl rfl fun A' R' w' ho hd => by have a0 : R' 127 = .int .i64 (gtD (y16.set y15.toNat y15) y15) := hd 0 _ _ _ rfl rfl rfl rfl rfl; have a1 : R' 137 = .int .i64 ((gtD (gtD y6 (y5 - (2 : Int))) (y15 - (2 : Int))) + (1 : Int)) := hd 1 _ _ _ rfl rfl rfl rfl rfl; exact of_min2 a0 a1) <|
                  OblsR.cons (OblR.plain rfl rfl rfl rfl fun A' R' w' ho hd => by have a0 : R' 122 = u11 := hd 0 _ _ _ rfl rfl rfl rfl rfl; have a1 : R' 123 = .int .i64 y15 := hd 1 _ _ _ rfl rfl rfl rfl rfl; exact of_indexAddr_vec (hO.ok 1 _ rfl).1 a0 a1 Try.underlying24 Try.sizeOf3 e46 rfl) <|
                  OblsR.cons (OblR.took 1 _ _ rfl rfl rfl rfl rfl fun A' R' w' ho hd u hok hav hin hop hds => by have a0 : R' 139 = (vptr u11 (y15.toNat * 1)) := hd 0 _ _ _ rfl rfl rfl rfl rfl; have a1 : R' 138 = .int .i64 (min (gtD (y16.set y15.toNat y15) y15) ((gtD (gtD y6 (y5 - (2 : Int))) (y15 - (2 : Int))) + (1 : Int))) := hd 1 _ _ _ rfl rfl rfl rfl rfl; obtain rfl := hin _ rfl; exact took_vstore (rep_int.eq a1) hok hav a0 e46 rfl (FldS.id _) Try.sizeOf3 rfl) <|
                  OblsR.nil
              intro done ρ σ A R w hdn hI
              replace h0 : R 0 = v0 := (hI.reg rfl).trans h0
              replace h1 : R 1 = v1 := (hI.reg rfl).trans h1
              replace h2 : R 2 = .bool p2 := (hI.reg rfl).trans h2
              replace h7 : R 7 = ul_u1 := (hI.reg rfl).trans h7
              replace h8 : R 8 = .int .i64 y5 := (hI.reg rfl).trans h8
              replace h9 : R 9 = u11 := (hI.reg rfl).trans h9
              replace h10 : R 10 = .int .i64 y15 := (hI.reg rfl).trans h10
              have z47 := hI.inivR 0 rfl
              have z48 := hI.inivR 1 rfl
              have z49 := (hI.opnR hdn 20 18 rfl rfl rfl rfl rfl).trans z48
              replace f_v0 := f_v0.stp hI.stp
              replace f_v1 := f_v1.stp hI.stp
              replace hAA := hI.low' hAA hA0 (hO.ge (⟨rfl, ⟨rfl, trivial⟩⟩))
              replace hF : Fr w0 w := hF.tr hI.ch (hO.ge (⟨rfl, ⟨rfl, trivial⟩⟩))
              replace hO : IniOK [ob ul_u1 (.vec w0.heap.size 24 (eSl (eInt .i64)) y6), ob u11 (.vec w0.heap.size 3 (eInt .i64) ((y16.set y15.toNat y15).set y15.toNat (min (gtD (y16.set y15.toNat y15) y15) ((gtD (gtD y6 (y5 - (2 : Int))) (y15 - (2 : Int))) + (1 : Int)))))] A w := hI.left hdn [(0, ob ul_u1 (.vec w0.heap.size 24 (eSl (eInt .i64)) y6)), (20, ob u11 (.vec w0.heap.size 3 (eInt .i64) ((y16.set y15.toNat y15).set y15.toNat (min (gtD (y16.set y15.toNat y15) y15) ((gtD (gtD y6 (y5 - (2 : Int))) (y15 - (2 : Int))) + (1 : Int))))))] ⟨rfl, rfl, z47, rfl, rfl, ⟨rfl, rfl, z49, rfl, rfl, trivial⟩⟩
              replace hA := hI.avok
              clear hI
              obtain ⟨e50, hr⟩ := ck_some hr
              refine HT.text (l := ⟨_, true, .raw (.int .i64 y15)⟩ :: ⟨_, true, .raw (.int .i64 (y15 + (1 : Int)))⟩ :: ⟨_, true, .raw (.int .i64 (y15 + (1 : Int)))⟩ :: []) (tl := []) (by kernel_rfl) (by kernel_rfl) (by kernel_rfl) ?_ ?_
              · exact
                  Obls.cons (Obl.plain rfl rfl fun R' w' hw hs hd => by have a0 : R' 10 = .int .i64 y15 := (hs 10 rfl).trans h10; exact of_move a0) <|
                  Obls.cons (Obl.plain rfl rfl fun R' w' hw hs hd => by have a0 : R' 26 = .int .i64 y15 := hd 0 _ _ _ rfl rfl rfl rfl rfl; exact of_add a0 rfl e50) <|
                  Obls.cons (Obl.plain rfl rfl fun R' w' hw hs hd => by have a0 : R' 27 = .int .i64 (y15 + (1 : Int)) := hd 0 _ _ _ rfl rfl rfl rfl rfl; exact of_assign a0) <|
                  Obls.nil
              intro R w hw hs hF'
              replace h0 : R 0 = v0 := (hs 0 rfl).trans h0
              replace h1 : R 1 = v1 := (hs 1 rfl).trans h1
              replace h2 : R 2 = .bool p2 := (hs 2 rfl).trans h2
              replace h7 : R 7 = ul_u1 := (hs 7 rfl).trans h7
              replace h8 : R 8 = .int .i64 y5 := (hs 8 rfl).trans h8
              replace h9 : R 9 = u11 := (hs 9 rfl).trans h9
              have h10 : R 10 = .int .i64 (y15 + (1 : Int)) := hF' 2 _ _ rfl rfl rfl
              replace f_v0 := f_v0.fr hw
              replace f_v1 := f_v1.fr hw
              replace hO := hO.fr hw
              replace hA := hA.fr hw.size
              replace hF := hF.trans hw
              clear hs hF' hw
              refine seqR_nil ?_
              exact Exists.intro k (And.intro (Nat.lt_succ_self k) ⟨_, _, _, hr, hA, hF, hAA, hO, h0, h1, h2, h7, h8, h9, h10, f_v0, f_v1⟩)
            · have hr := cnd_f c39 hr
              refine HT.skip ?_
              obtain ⟨e51, hr⟩ := ck_some hr
              refine HT.text (l := ⟨_, true, .raw (.int .i64 y15)⟩ :: ⟨_, true, .raw (.int .i64 (y15 + (1 : Int)))⟩ :: ⟨_, true, .raw (.int .i64 (y15 + (1 : Int)))⟩ :: []) (tl := []) (by kernel_rfl) (by kernel_rfl) (by kernel_rfl) ?_ ?_
              · exact
                  Obls.cons (Obl.plain rfl rfl fun R' w' hw hs hd => by have a0 : R' 10 = .int .i64 y15 := (hs 10 rfl).trans h10; exact of_move a0) <|
                  Obls.cons (Obl.plain rfl rfl fun R' w' hw hs hd => by have a0 : R' 26 = .int .i64 y15 := hd 0 _ _ _ rfl rfl rfl rfl rfl; exact of_add a0 rfl e51) <|
                  Obls.cons (Obl.plain rfl rfl fun R' w' hw hs hd => by have a0 : R' 27 = .int .i64 (y15 + (1 : Int)) := hd 0 _ _ _ rfl rfl rfl rfl rfl; exact of_assign a0) <|
                  Obls.nil
              intro R w hw hs hF'
              replace h0 : R 0 = v0 := (hs 0 rfl).trans h0
              replace h1 : R 1 = v1 := (hs 1 rfl).trans h1
              replace h2 : R 2 = .bool p2 := (hs 2 rfl).trans h2
              replace h7 : R 7 = ul_u1 := (hs 7 rfl).trans h7
              replace h8 : R 8 = .int .i64 y5 := (hs 8 rfl).trans h8
              replace h9 : R 9 = u11 := (hs 9 rfl).trans h9
              have h10 : R 10 = .int .i64 (y15 + (1 : Int)) := hF' 2 _ _ rfl rfl rfl
              replace f_v0 := f_v0.fr hw
              replace f_v1 := f_v1.fr hw
              replace hO := hO.fr hw
              replace hA := hA.fr hw.size
              replace hF := hF.trans hw
              clear hs hF' hw
              refine seqR_nil ?_
              exact Exists.intro k (And.intro (Nat.lt_succ_self k) ⟨_, _, _, hr, hA, hF, hAA, hO, h0, h1, h2, h7, h8, h9, h10, f_v0, f_v1⟩)
          · have hr := cnd_f c18 hr
            refine HT.seq ?_
            refine HT.text (l := ⟨_, true, .raw (.int .i64 y15)⟩ :: ⟨_, true, .raw (.bool (y15 == (0 : Int)))⟩ :: ⟨_, true, .raw (.bool (y15 == (0 : Int)))⟩ :: []) (tl := []) (by kernel_rfl) (by kernel_rfl) (by kernel_rfl) ?_ ?_
            · exact
                Obls.cons (Obl.plain rfl rfl fun R' w' hw hs hd => by have a0 : R' 10 = .int .i64 y15 := (hs 10 rfl).trans h10; exact of_move a0) <|
                Obls.cons (Obl.plain rfl rfl fun R' w' hw hs hd => by have a0 : R' 63 = .int .i64 y15 := hd 0 _ _ _ rfl rfl rfl rfl rfl; exact of_eql a0 rfl) <|
                Obls.cons (Obl.plain rfl rfl fun R' w' hw hs hd => by have a0 : R' 64 = .bool (y15 == (0 : Int)) := hd 0 _ _ _ rfl rfl rfl rfl rfl; exact of_assign a0) <|
                Obls.nil
            intro R w hw hs hF'
            replace h0 : R 0 = v0 := (hs 0 rfl).trans h0
            replace h1 : R 1 = v1 := (hs 1 rfl).trans h1
            replace h2 : R 2 = .bool p2 := (hs 2 rfl).trans h2
            replace h7 : R 7 = ul_u1 := (hs 7 rfl).trans h7
            replace h8 : R 8 = .int .i64 y5 := (hs 8 rfl).trans h8
            replace h9 : R 9 = u11 := (hs 9 rfl).trans h9
            replace h10 : R 10 = .int .i64 y15 := (hs 10 rfl).trans h10
            have h62 : R 62 = .bool (y15 == (0 : Int)) := hF' 2 _ _ rfl rfl rfl
            replace f_v0 := f_v0.fr hw
            replace f_v1 := f_v1.fr hw
            replace hO := hO.fr hw
            replace hA := hA.fr hw.size
            replace hF := hF.trans hw
            clear hs hF' hw
            refine seqR_nil ?_
            refine HT.cond (y15 == (0 : Int)) h62 (fun c52 => ?_) (fun c52 => ?_)
            · have hr := cnd_t c52 hr
              obtain ⟨e53, hr⟩ := ck_some hr
              refine HT.textR [ob ul_u1 (.vec w0.heap.size 24 (eSl (eInt .i64)) y6), ob u11 (.vec w0.heap.size 3 (eInt .i64) y16)] (⟨_, true, [], none, true, fun A => .raw u11⟩ :: ⟨_, true, [], none, true, fun A => .raw (.int .i64 y15)⟩ :: ⟨_, true, [], none, true, fun A => .raw (.int .i64 y5)⟩ :: ⟨_, true, [], none, true, fun A => .raw (vptr u11 (y15.toNat * 1))⟩ :: ⟨_, true, [1], some (.vec w0.heap.size 3 (eInt .i64) (y16.set y15.toNat y5)), false, fun A => .any⟩ :: []) (by kernel_rfl) (by kernel_rfl) (Wf.mk' (by kernel_rfl) (UAll.cons ust_raw (UAll.cons ust_raw (UAll.cons ust_raw (UAll.cons ust_raw (UAll.cons ust_any (UAll.nil)))))) (by kernel_rfl) (by kernel_rfl)) hO hA ?_ ?_
              · exact
                  OblsR.cons (OblR.plain rfl rfl rfl rfl fun A' R' w' ho hd => by have a0 : R' 9 = u11 := (ho.old 9 rfl).trans h9; exact of_move a0) <|
                  OblsR.cons (OblR.plain rfl rfl rfl rfl fun A' R' w' ho hd => by have a0 : R' 10 = .int .i64 y15 := (ho.old 10 rfl).trans h10; exact of_move a0) <|
                  OblsR.cons (OblR.plain rfl rfl rfl rfl fun A' R' w' ho hd => by have a0 : R' 8 = .int .i64 y5 := (ho.old 8 rfl).trans h8; exact of_move a0) <|
                  OblsR.cons (OblR.plain rfl rfl rfl rfl fun A' R' w' ho hd => by have a0 : R' 65 = u11 := hd 0 _ _ _ rfl rfl rfl rfl rfl; have a1 : R' 66 = .int .i64 y15 := hd 1 _ _ _ rfl rfl rfl rfl rfl; exact of_indexAddr_vec (hO.ok 1 _ rfl).1 a0 a1 Try.underlying24 Try.sizeOf3 e53 rfl) <|
                  OblsR.cons (OblR.took 1 _ _ rfl rfl rfl rfl rfl fun A' R' w' ho hd u hok hav hin hop hds => by have a0 : R' 68 = (vptr u11 (y15.toNat * 1)) := hd 0 _ _ _ rfl rfl rfl rfl rfl; have a1 : R' 67 = .int .i64 y5 := hd 1 _ _ _ rfl rfl rfl rfl rfl; obtain rfl := hin _ rfl; exact took_vstore (rep_int.eq a1) hok hav a0 e53 rfl (FldS.id _) Try.sizeOf3 rfl) <|
                  OblsR.nil
              intro done ρ σ A R w hdn hI
              replace h0 : R 0 = v0 := (hI.reg rfl).trans h0
              replace h1 : R 1 = v1 := (hI.reg rfl).trans h1
              replace h2 : R 2 = .bool p2 := (hI.reg rfl).trans h2
              replace h7 : R 7 = ul_u1 := (hI.reg rfl).trans h7
              replace h8 : R 8 = .int .i64 y5 := (hI.reg rfl).trans h8
              replace h9 : R 9 = u11 := (hI.reg rfl).trans h9
              replace h10 : R 10 = .int .i64 y15 := (hI.reg rfl).trans h10
              have z54 := hI.inivR 0 rfl
              have z55 := hI.inivR 1 rfl
              have z56 := (hI.opnR hdn 6 4 rfl rfl rfl rfl rfl).trans z55
              replace f_v0 := f_v0.stp hI.stp
              replace f_v1 := f_v1.stp hI.stp
              replace hAA := hI.low' hAA hA0 (hO.ge (⟨rfl, ⟨rfl, trivial⟩⟩))
              replace hF : Fr w0 w := hF.tr hI.ch (hO.ge (⟨rfl, ⟨rfl, trivial⟩⟩))
              replace hO : IniOK [ob ul_u1 (.vec w0.heap.size 24 (eSl (eInt .i64)) y6), ob u11 (.vec w0.heap.size 3 (eInt .i64) (y16.set y15.toNat y5))] A w := hI.left hdn [(0, ob ul_u1 (.vec w0.heap.size 24 (eSl (eInt .i64)) y6)), (6, ob u11 (.vec w0.heap.size 3 (eInt .i64) (y16.set y15.toNat y5)))] ⟨rfl, rfl, z54, rfl, rfl, ⟨rfl, rfl, z56, rfl, rfl, trivial⟩⟩
              replace hA := hI.avok
              clear hI
              refine HT.seq ?_
              obtain ⟨x57, q58, hr⟩ := bd_some hr
              obtain ⟨x59, q60, hr⟩ := bd_some hr
              obtain ⟨e61, hr⟩ := ck_some hr
              obtain ⟨e62, hr⟩ := ck_some hr
              obtain ⟨e63, hr⟩ := ck_some hr
              obtain ⟨e64, hr⟩ := ck_some hr
              obtain ⟨x65, q66, hr⟩ := bd_some hr
              obtain ⟨e67, hr⟩ := ck_some hr
              obtain ⟨e68, hr⟩ := ck_some hr
              obtain ⟨e69, hr⟩ := ck_some hr
              obtain ⟨e70, hr⟩ := ck_some hr
              obtain ⟨x71, q72, hr⟩ := bd_some hr
              refine HT.draw (by kernel_rfl) (l := ⟨_, true, .raw (.bool p2)⟩ :: ⟨_, true, .raw (.bool p2)⟩ :: ⟨_, (true && (p2 == true)), .raw (.int .i64 y5)⟩ :: ⟨_, (true && (p2 == true)), .raw (.bool (decide ((1 : Int) < y5)))⟩ :: ⟨_, true, .raw (.bool x57)⟩ :: ⟨_, true, .raw (.bool x57)⟩ :: ⟨_, (true && (x57 == true)), .raw (.int .i64 y15)⟩ :: ⟨_, (true && (x57 == true)), .raw (.bool (decide ((1 : Int) < y15)))⟩ :: ⟨_, true, .raw (.bool x59)⟩ :: ⟨_, true, .raw (.bool x59)⟩ :: ⟨_, (true && (x59 == true)), .raw v0⟩ :: ⟨_, (true && (x59 == true)), .raw (.int .i64 y5)⟩ :: ⟨_, (true && (x59 == true)), .raw (.int .i64 (y5 - (1 : Int)))⟩ :: ⟨_, (true && (x59 == true)), .raw (.int .u8 (bAt p0 (y5 - (1 : Int))))⟩ :: ⟨_, (true && (x59 == true)), .raw v1⟩ :: ⟨_, (true && (x59 == true)), .raw (.int .i64 y15)⟩ :: ⟨_, (true && (x59 == true)), .raw (.int .i64 (y15 - (2 : Int)))⟩ :: ⟨_, (true && (x59 == true)), .raw (.int .u8 (bAt p1 (y15 - (2 : Int))))⟩ :: ⟨_, (true && (x59 == true)), .raw (.bool ((bAt p0 (y5 - (1 : Int))) == (bAt p1 (y15 - (2 : Int)))))⟩ :: ⟨_, true, .raw (.bool x65)⟩ :: ⟨_, true, .raw (.bool x65)⟩ :: ⟨_, (true && (x65 == true)), .raw v0⟩ :: ⟨_, (true && (x65 == true)), .raw (.int .i64 y5)⟩ :: ⟨_, (true && (x65 == true)), .raw (.int .i64 (y5 - (2 : Int)))⟩ :: ⟨_, (true && (x65 == true)), .raw (.int .u8 (bAt p0 (y5 - (2 : Int))))⟩ :: ⟨_, (true && (x65 == true)), .raw v1⟩ :: ⟨_, (true && (x65 == true)), .raw (.int .i64 y15)⟩ :: ⟨_, (true && (x65 == true)), .raw (.int .i64 (y15 - (1 : Int)))⟩ :: ⟨_, (true && (x65 == true)), .raw (.int .u8 (bAt p1 (y15 - (1 : Int))))⟩ :: ⟨_, (true && (x65 == true)), .raw (.bool ((bAt p0 (y5 - (2 : Int))) == (bAt p1 (y15 - (1 : Int)))))⟩ :: ⟨_, true, .raw (.bool x71)⟩ :: []) (tl := []) (by kernel_rfl) (by kernel_rfl) (by kernel_rfl) (by kernel_rfl) ?_ ?_
              · exact
                  Obls.cons (Obl.plain rfl rfl fun R' w' hw hs hd => by have a0 : R' 2 = .bool p2 := (hs 2 rfl).trans h2; exact of_move a0) <|
                  Obls.cons (Obl.plain rfl rfl fun R' w' hw hs hd => by have a0 : R' 91 = .bool p2 := hd 0 _ _ _ rfl rfl rfl rfl rfl; exact of_move a0) <|
                  Obls.cons (Obl.grd 1 true _ _ _ rfl rfl rfl rfl rfl (by kernel_rfl) fun hg R' w' hw hs hd => by have a0 : R' 8 = .int .i64 y5 := (hs 8 rfl).trans h8; exact of_move a0) <|
                  Obls.cons (Obl.grd 1 true _ _ _ rfl rfl rfl rfl rfl (by kernel_rfl) fun hg R' w' hw hs hd => by have a0 : R' 93 = .int .i64 y5 := hd 0 _ _ _ rfl rfl rfl rfl hg; exact of_gtr a0 rfl) <|
                  Obls.cons (Obl.plain rfl rfl fun R' w' hw hs hd => by have a0 : R' 92 = .bool p2 := hd 0 _ _ _ rfl rfl rfl rfl rfl; exact of_pick p2 a0 (fun hc => by have a1 : R' 94 = .bool (decide ((1 : Int) < y5)) := hd 1 _ _ _ rfl rfl rfl rfl (g_and rfl (beq_of hc)); show _ = Value.bool x57; rw [q58, hc]; exact a1) (fun hc => by show _ = Value.bool x57; rw [q58, hc]; exact rfl)) <|
                  Obls.cons (Obl.plain rfl rfl fun R' w' hw hs hd => by have a0 : R' 95 = .bool x57 := hd 0 _ _ _ rfl rfl rfl rfl rfl; exact of_move a0) <|
                  Obls.cons (Obl.grd 5 true _ _ _ rfl rfl rfl rfl rfl (by kernel_rfl) fun hg R' w' hw hs hd => by have a0 : R' 10 = .int .i64 y15 := (hs 10 rfl).trans h10; exact of_move a0) <|
                  Obls.cons (Obl.grd 5 true _ _ _ rfl rfl rfl rfl rfl (by kernel_rfl) fun hg R' w' hw hs hd => by have a0 : R' 97 = .int .i64 y15 := hd 0 _ _ _ rfl rfl rfl rfl hg; exact of_gtr a0 rfl) <|
                  Obls.cons (Obl.plain rfl rfl fun R' w' hw hs hd => by have a0 : R' 96 = .bool x57 := hd 0 _ _ _ rfl rfl rfl rfl rfl; exact of_pick x57 a0 (fun hc => by have a1 : R' 98 = .bool (decide ((1 : Int) < y15)) := hd 1 _ _ _ rfl rfl rfl rfl (g_and rfl (beq_of hc)); show _ = Value.bool x59; rw [q60, hc]; exact a1) (fun hc => by show _ = Value.bool x59; rw [q60, hc]; exact rfl)) <|
                  Obls.cons (Obl.plain rfl rfl fun R' w' hw hs hd => by have a0 : R' 99 = .bool x59 := hd 0 _ _ _ rfl rfl rfl rfl rfl; exact of_move a0) <|
                  Obls.cons (Obl.grd 9 true _ _ _ rfl rfl rfl rfl rfl (by kernel_rfl) fun hg R' w' hw hs hd => by have a0 : R' 0 = v0 := (hs 0 rfl).trans h0; exact of_move a0) <|
                  Obls.cons (Obl.grd 9 true _ _ _ rfl rfl rfl rfl rfl (by kernel_rfl) fun hg R' w' hw hs hd => by have a0 : R' 8 = .int .i64 y5 := (hs 8 rfl).trans h8; exact of_move a0) <|
                  Obls.cons (Obl.grd 9 true _ _ _ rfl rfl rfl rfl rfl (by kernel_rfl) fun hg R' w' hw hs hd => by have a0 : R' 102 = .int .i64 y5 := hd 0 _ _ _ rfl rfl rfl rfl hg; exact of_sub a0 rfl (gd e61 hg)) <|
                  Obls.cons (Obl.grd 9 true _ _ _ rfl rfl rfl rfl rfl (by kernel_rfl) fun hg R' w' hw hs hd => by have a0 : R' 101 = v0 := hd 0 _ _ _ rfl rfl rfl rfl hg; have ra0 := (f_v0.fr hw).eq a0; have a1 : R' 103 = .int .i64 (y5 - (1 : Int)) := hd 1 _ _ _ rfl rfl rfl rfl hg; exact of_strIndex ra0 a1 Try.underlying9 (gd e62 hg)) <|
                  Obls.cons (Obl.grd 9 true _ _ _ rfl rfl rfl rfl rfl (by kernel_rfl) fun hg R' w' hw hs hd => by have a0 : R' 1 = v1 := (hs 1 rfl).trans h1; exact of_move a0) <|
                  Obls.cons (Obl.grd 9 true _ _ _ rfl rfl rfl rfl rfl (by kernel_rfl) fun hg R' w' hw hs hd => by have a0 : R' 10 = .int .i64 y15 := (hs 10 rfl).trans h10; exact of_move a0) <|
                  Obls.cons (Obl.grd 9 true _ _ _ rfl rfl rfl rfl rfl (by kernel_rfl) fun hg R' w' hw hs hd => by have a0 : R' 106 = .int .i64 y15 := hd 0 _ _ _ rfl rfl rfl rfl hg; exact of_sub a0 rfl (gd e63 hg)) <|
                  Obls.cons (Obl.grd 9 true _ _ _ rfl rfl rfl rfl rfl (by kernel_rfl) fun hg R' w' hw hs hd => by have a0 : R' 105 = v1 := hd 0 _ _ _ rfl rfl rfl rfl hg; have ra0 := (f_v1.fr hw).eq a0; have a1 : R' 107 = .int .i64 (y15 - (2 : Int)) := hd 1 _ _ _ rfl rfl rfl rfl hg; exact of_strIndex ra0 a1 Try.underlying9 (gd e64 hg)) <|
                  Obls.cons (Obl.grd 9 true _ _ _ rfl rfl rfl rfl rfl (by kernel_rfl) fun hg R' w' hw hs hd => by have a0 : R' 104 = .int .u8 (bAt p0 (y5 - (1 : Int))) := hd 0 _ _ _ rfl rfl rfl rfl hg; have a1 : R' 108 = .int .u8 (bAt p1 (y15 - (2 : Int))) := hd 1 _ _ _ rfl rfl rfl rfl hg; exact of_eql a0 a1) <|
                  Obls.cons (Obl.plain rfl rfl fun R' w' hw hs hd => by have a0 : R' 100 = .bool x59 := hd 0 _ _ _ rfl rfl rfl rfl rfl; exact of_pick x59 a0 (fun hc => by have a1 : R' 109 = .bool ((bAt p0 (y5 - (1 : Int))) == (bAt p1 (y15 - (2 : Int)))) := hd 1 _ _ _ rfl rfl rfl rfl (g_and rfl (beq_of hc)); show _ = Value.bool x65; rw [q66, hc]; exact a1) (fun hc => by show _ = Value.bool x65; rw [q66, hc]; exact rfl)) <|
                  Obls.cons (Obl.plain rfl rfl fun R' w' hw hs hd => by have a0 : R' 110 = .bool x65 := hd 0 _ _ _ rfl rfl rfl rfl rfl; exact of_move a0) <|
                  Obls.cons (Obl.grd 20 true _ _ _ rfl rfl rfl rfl rfl (by kernel_rfl) fun hg R' w' hw hs hd => by have a0 : R' 0 = v0 := (hs 0 rfl).trans h0; exact of_move a0) <|
                  Obls.cons (Obl.grd 20 true _ _ _ rfl rfl rfl rfl rfl (by kernel_rfl) fun hg R' w' hw hs hd => by have a0 : R' 8 = .int .i64 y5 := (hs 8 rfl).trans h8; exact of_move a0) <|
                  Obls.cons (Obl.grd 20 true _ _ _ rfl rfl rfl rfl rfl (by kernel_rfl) fun hg R' w' hw hs hd => by have a0 : R' 113 = .int .i64 y5 := hd 0 _ _ _ rfl rfl rfl rfl hg; exact of_sub a0 rfl (gd e67 hg)) <|
                  Obls.cons (Obl.grd 20 true _ _ _ rfl rfl rfl rfl rfl (by kernel_rfl) fun hg R' w' hw hs hd => by have a0 : R' 112 = v0 := hd 0 _ _ _ rfl rfl rfl rfl hg; have ra0 := (f_v0.fr hw).eq a0; have a1 : R' 114 = .int .i64 (y5 - (2 : Int)) := hd 1 _ _ _ rfl rfl rfl rfl hg; exact of_strIndex ra0 a1 Try.underlying9 (gd e68 hg)) <|
                  Obls.cons (Obl.grd 20 true _ _ _ rfl rfl rfl rfl rfl (by kernel_rfl) fun hg R' w' hw hs hd => by have a0 : R' 1 = v1 := (hs 1 rfl).trans h1; exact of_move a0) <|
                  Obls.cons (Obl.grd 20 true _ _ _ rfl rfl rfl rfl rfl (by kernel_rfl) fun hg R' w' hw hs hd => by have a0 : R' 10 = .int .i64 y15 := (hs 10 rfl).trans h10; exact of_move a0) <|
                  Obls.cons (Obl.grd 20 true _ _ _ rfl rfl rfl rfl rfl (by kernel_rfl) fun hg R' w' hw hs hd => by have a0 : R' 117 = .int .i64 y15 := hd 0 _ _ _ rfl rfl rfl rfl hg; exact of_sub a0 rfl (gd e69 hg)) <|
                  Obls.cons (Obl.grd 20 true _ _ _ rfl rfl rfl rfl rfl (by kernel_rfl) fun hg R' w' hw hs hd => by have a0 : R' 116 = v1 := hd 0 _ _ _ rfl rfl rfl rfl hg; have ra0 := (f_v1.fr hw).eq a0; have a1 : R' 118 = .int .i64 (y15 - (1 : Int)) := hd 1 _ _ _ rfl rfl rfl rfl hg; exact of_strIndex ra0 a1 Try.underlying9 (gd e70 hg)) <|
                  Obls.cons (Obl.grd 20 true _ _ _ rfl rfl rfl rfl rfl (by kernel_rfl) fun hg R' w' hw hs hd => by have a0 : R' 115 = .int .u8 (bAt p0 (y5 - (2 : Int))) := hd 0 _ _ _ rfl rfl rfl rfl hg; have a1 : R' 119 = .int .u8 (bAt p1 (y15 - (1 : Int))) := hd 1 _ _ _ rfl rfl rfl rfl hg; exact of_eql a0 a1) <|
                  Obls.cons (Obl.plain rfl rfl fun R' w' hw hs hd => by have a0 : R' 111 = .bool x65 := hd 0 _ _ _ rfl rfl rfl rfl rfl; exact of_pick x65 a0 (fun hc => by have a1 : R' 120 = .bool ((bAt p0 (y5 - (2 : Int))) == (bAt p1 (y15 - (1 : Int)))) := hd 1 _ _ _ rfl rfl rfl rfl (g_and rfl (beq_of hc)); show _ = Value.bool x71; rw [q72, hc]; exact a1) (fun hc => by show _ = Value.bool x71; rw [q72, hc]; exact rfl)) <|
                  Obls.nil
              intro R w hw hs hF'
              replace h0 : R 0 = v0 := (hs 0 rfl).trans h0
              replace h1 : R 1 = v1 := (hs 1 rfl).trans h1
              replace h2 : R 2 = .bool p2 := (hs 2 rfl).trans h2
              replace h7 : R 7 = ul_u1 := (hs 7 rfl).trans h7
              replace h8 : R 8 = .int .i64 y5 := (hs 8 rfl).trans h8
              replace h9 : R 9 = u11 := (hs 9 rfl).trans h9
              replace h10 : R 10 = .int .i64 y15 := (hs 10 rfl).trans h10
              have h121 : R 121 = .bool x71 := hF' 30 _ _ rfl rfl rfl
              replace f_v0 := f_v0.fr hw
              replace f_v1 := f_v1.fr hw
              replace hO := hO.fr hw
              replace hA := hA.fr hw.size
              replace hF := hF.trans hw
              clear hs hF' hw
              refine seqR_nil ?_
              refine HT.cond x71 h121 (fun c73 => ?_) (fun c73 => ?_)
              · have hr := cnd_t c73 hr
                obtain ⟨e74, hr⟩ := ck_some hr
                obtain ⟨e75, hr⟩ := ck_some hr
                obtain ⟨e76, hr⟩ := ck_some hr
                obtain ⟨e77, hr⟩ := ck_some hr
                obtain ⟨e78, hr⟩ := ck_some hr
                obtain ⟨e79, hr⟩ := ck_some hr
                obtain ⟨e80, hr⟩ := ck_some hr
                refine HT.drawR [ob ul_u1 (.vec w0.heap.size 24 (eSl (eInt .i64)) y6), ob u11 (.vec w0.heap.size 3 (eInt .i64) (y16.set y15.toNat y5))] (⟨_, true, [], none, true, fun A => .raw u11⟩ :: ⟨_, true, [], none, true, fun A => .raw (.int .i64 y15)⟩ :: ⟨_, true, [], none, true, fun A => .raw u11⟩ :: ⟨_, true, [], none, true, fun A => .raw (.int .i64 y15)⟩ :: ⟨_, true, [], none, true, fun A => .raw (vptr u11 (y15.toNat * 1))⟩ :: ⟨_, true, [], none, true, fun A => .raw (.int .i64 (gtD (y16.set y15.toNat y5) y15))⟩ :: ⟨_, true, [], none, true, fun A => .raw ul_u1⟩ :: ⟨_, true, [], none, true, fun A => .raw (.int .i64 y5)⟩ :: ⟨_, true, [], none, true, fun A => .raw (.int .i64 (y5 - (2 : Int)))⟩ :: ⟨_, true, [], none, true, fun A => .raw (vptr ul_u1 ((y5 - (2 : Int)).toNat * 1))⟩ :: ⟨_, true, [], none, true, fun A => .rep (eSl (eInt .i64)) A (gtD y6 (y5 - (2 : Int)))⟩ :: ⟨_, true, [], none, true, fun A => .raw (.int .i64 y15)⟩ :: ⟨_, true, [], none, true, fun A => .raw (.int .i64 (y15 - (2 : Int)))⟩ :: ⟨_, true, [], none, true, fun A => .qtr (eInt .i64) A (gtD (gtD y6 (y5 - (2 : Int))) (y15 - (2 : Int)))⟩ :: ⟨_, true, [], none, true, fun A => .raw (.int .i64 (gtD (gtD y6 (y5 - (2 : Int))) (y15 - (2 : Int))))⟩ :: ⟨_, true, [], none, true, fun A => .raw (.int .i64 ((gtD (gtD y6 (y5 - (2 : Int))) (y15 - (2 : Int))) + (1 : Int)))⟩ :: ⟨_, true, [], none, true, fun A => .raw (.int .i64 (min (gtD (y16.set y15.toNat y5) y15) ((gtD (gtD y6 (y5 - (2 : Int))) (y15 - (2 : Int))) + (1 : Int))))⟩ :: ⟨_, true, [], none, true, fun A => .raw (vptr u11 (y15.toNat * 1))⟩ :: ⟨_, true, [1], some (.vec w0.heap.size 3 (eInt .i64) ((y16.set y15.toNat y5).set y15.toNat (min (gtD (y16.set y15.toNat y5) y15) ((gtD (gtD y6 (y5 - (2 : Int))) (y15 - (2 : Int))) + (1 : Int))))), false, fun A => .any⟩ :: []) (by kernel_rfl) (by kernel_rfl) (by kernel_rfl) (Wf.mk' (by kernel_rfl) (UAll.cons ust_raw (UAll.cons ust_raw (UAll.cons ust_raw (UAll.cons ust_raw (UAll.cons ust_raw (UAll.cons ust_raw (UAll.cons ust_raw (UAll.cons ust_raw (UAll.cons ust_raw (UAll.cons ust_raw (UAll.cons ust_rep (UAll.cons ust_raw (UAll.cons ust_raw (UAll.cons ust_qtr (UAll.cons ust_raw (UAll.cons ust_raw (UAll.cons ust_raw (UAll.cons ust_raw (UAll.cons ust_any (UAll.nil)))))))))))))))))))) (by kernel_rfl) (by kernel_rfl)) hO hA ?_ ?_
                · exact
                    OblsR.cons (OblR.plain rfl rfl rfl rfl fun A' R' w' ho hd => by have a0 : R' 9 = u11 := (ho.old 9 rfl).trans h9; exact of_move a0) <|
                    OblsR.cons (OblR.plain rfl rfl rfl rfl fun A' R' w' ho hd => by have a0 : R' 10 = .int .i64 y15 := (ho.old 10 rfl).trans h10; exact of_move a0) <|
                    OblsR.cons (OblR.plain rfl rfl rfl rfl fun A' R' w' ho hd => by have a0 : R' 9 = u11 := (ho.old 9 rfl).trans h9; exact of_move a0) <|
                    OblsR.cons (OblR.plain rfl rfl rfl rfl fun A' R' w' ho hd => by have a0 : R' 10 = .int .i64 y15 := (ho.old 10 rfl).trans h10; exact of_move a0) <|
                    OblsR.cons (OblR.plain rfl rfl rfl rfl fun A' R' w' ho hd => by have a0 : R' 124 = u11 := hd 0 _ _ _ rfl rfl rfl rfl rfl; have a1 : R' 125 = .int .i64 y15 := hd 1 _ _ _ rfl rfl rfl rfl rfl; exact of_indexAddr_vec (hO.ok 1 _ rfl).1 a0 a1 Try.underlying24 Try.sizeOf3 e74 rfl) <|
                    OblsR.cons (OblR.plain rfl rfl rfl rfl fun A' R' w' ho hd => by have a0 : R' 126 = (vptr u11 (y15.toNat * 1)) := hd 0 _ _ _ rfl rfl rfl rfl rfl; exact OpF.int (of_load_vec (ho.rd 1 _ rfl rfl) a0 e74 rfl (Fld.id _) rfl Try.isAgg3 Try.sizeOf3)) <|
                    OblsR.cons (OblR.plain rfl rfl rfl rfl fun A' R' w' ho hd => by have a0 : R' 7 = ul_u1 := (ho.old 7 rfl).trans h7; exact of_move a0) <|
                    OblsR.cons (OblR.plain rfl rfl rfl rfl fun A' R' w' ho hd => by have a0 : R' 8 = .int .i64 y5 := (ho.old 8 rfl).trans h8; exact of_move a0) <|
                    OblsR.cons (OblR.plain rfl rfl rfl rfl fun A' R' w' ho hd => by have a0 : R' 129 = .int .i64 y5 := hd 0 _ _ _ rfl rfl rfl rfl rfl; exact of_sub a0 rfl e75) <|
                    OblsR.cons (OblR.plain rfl rfl rfl rfl fun A' R' w' ho hd => by have a0 : R' 128 = ul_u1 := hd 0 _ _ _ rfl rfl rfl rfl rfl; have a1 : R' 130 = .int .i64 (y5 - (2 : Int)) := hd 1 _ _ _ rfl rfl rfl rfl rfl; exact of_indexAddr_vec (hO.ok 0 _ rfl).1 a0 a1 Try.underlying75 Try.sizeOf24 e76 rfl) <|
                    OblsR.cons (OblR.plain rfl rfl rfl rfl fun A' R' w' ho hd => by have a0 : R' 131 = (vptr ul_u1 ((y5 - (2 : Int)).toNat * 1)) := hd 0 _ _ _ rfl rfl rfl rfl rfl; exact (of_load_vec (ho.rd 0 _ rfl rfl) a0 e76 rfl (Fld.id _) rfl Try.isAgg24 Try.sizeOf24)) <|
                    OblsR.cons (OblR.plain rfl rfl rfl rfl fun A' R' w' ho hd => by have a0 : R' 10 = .int .i64 y15 := (ho.old 10 rfl).trans h10; exact of_move a0) <|
                    OblsR.cons (OblR.plain rfl rfl rfl rfl fun A' R' w' ho hd => by have a0 : R' 133 = .int .i64 y15 := hd 0 _ _ _ rfl rfl rfl rfl rfl; exact of_sub a0 rfl e77) <|
                    OblsR.cons (OblR.plain rfl rfl rfl rfl fun A' R' w' ho hd => by have a0 : Rep (eSl (eInt .i64)) A' w' (R' 132) (gtD y6 (y5 - (2 : Int))) := hd 0 _ _ _ rfl rfl rfl rfl rfl; have a1 : R' 134 = .int .i64 (y15 - (2 : Int)) := hd 1 _ _ _ rfl rfl rfl rfl rfl; exact of_indexAddr a0 a1 Try.underlying24 Try.sizeOf3 e78) <|
                    OblsR.cons (OblR.plain rfl rfl rfl rfl fun A' R' w' ho hd => by have a0 : QRep (eInt .i64) A' w' (R' 135) (gtD (gtD y6 (y5 - (2 : Int))) (y15 - (2 : Int))) := hd 0 _ _ _ rfl rfl rfl rfl rfl; exact OpF.int (of_load a0.ptr Try.isAgg3 Try.sizeOf3)) <|
                    OblsR.cons (OblR.plain rfl rfl rfl rfl fun A' R' w' ho hd => by have a0 : R' 136 = .int .i64 (gtD (gtD y6 (y5 - (2 : Int))) (y15 - (2 : Int))) := hd 0 _ _ _ rfl rfl rfl rfl rfl; exact of_add a0 rfl e79) <|
                    OblsR.cons (OblR.plain rfl rfl rfl rfl fun A' R' w' ho hd => by have a0 : R' 127 = .int .i64 (gtD (y16.set y15.toNat y5) y15) := hd 0 _ _ _ rfl rfl rfl rfl rfl; have a1 : R' 137 = .int .i64 ((gtD (gtD y6 (y5 - (2 : Int))) (y15 - (2 : Int))) + (1 : Int)) := hd 1 _ _ _ rfl rfl rfl rfl rfl; exact of_min2 a0 a1) <|
                    OblsR.cons (OblR.plain rfl rfl rfl rfl fun A' R' w' ho hd => by have a0 : R' 122 = u11 := hd 0 _ _ _ rfl rfl rfl rfl rfl; have a1 : R' 123 = .int .i64 y15 := hd 1 _ _ _ rfl rfl rfl rfl rfl; exact of_indexAddr_vec (hO.ok 1 _ rfl).1 a0 a1 Try.underlying24 Try.sizeOf3 e80 rfl) <|
                    OblsR.cons (OblR.took 1 _ _ rfl rfl rfl rfl rfl fun A' R' w' ho hd u hok hav hin hop hds => by have a0 : R' 139 = (vptr u11 (y15.toNat * 1)) := hd 0 _ _ _ rfl rfl rfl rfl rfl; have a1 : R' 138 = .int .i64 (min (gtD (y16.set y15.toNat y5) y15) ((gtD (gtD y6 (y5 - (2 : Int))) (y15 - (2 : Int))) + (1 : Int))) := hd 1 _ _ _ rfl rfl rfl rfl rfl; obtain rfl := hin _ rfl; exact took_vstore (rep_int.eq a1) hok hav a0 e80 rfl (FldS.id _) Try.sizeOf3 rfl) <|
                    OblsR.nil
                intro done ρ σ A R w hdn hI
                replace h0 : R 0 = v0 := (hI.reg rfl).trans h0
                replace h1 : R 1 = v1 := (hI.reg rfl).trans h1
                replace h2 : R 2 = .bool p2 := (hI.reg rfl).trans h2
                replace h7 : R 7 = ul_u1 := (hI.reg rfl).trans h7
                replace h8 : R 8 = .int .i64 y5 := (hI.reg rfl).trans h8
                replace h9 : R 9 = u11 := (hI.reg rfl).trans h9
                replace h10 : R 10 = .int .i64 y15 := (hI.reg rfl).trans h10
                have z81 := hI.inivR 0 rfl
                have z82 := hI.inivR 1 rfl
                have z83 := (hI.opnR hdn 20 18 rfl rfl rfl rfl rfl).trans z82
                replace f_v0 := f_v0.stp hI.stp
                replace f_v1 := f_v1.stp hI.stp
                replace hAA := hI.low' hAA hA0 (hO.ge (⟨rfl, ⟨rfl, trivial⟩⟩))
                replace hF : Fr w0 w := hF.tr hI.ch (hO.ge (⟨rfl, ⟨rfl, trivial⟩⟩))
                replace hO : IniOK [ob ul_u1 (.vec w0.heap.size 24 (eSl (eInt .i64)) y6), ob u11 (.vec w0.heap.size 3 (eInt .i64) ((y16.set y15.toNat y5).set y15.toNat (min (gtD (y16.set y15.toNat y5) y15) ((gtD (gtD y6 (y5 - (2 : Int))) (y15 - (2 : Int))) + (1 : Int)))))] A w := hI.left hdn [(0, ob ul_u1 (.vec w0.heap.size 24 (eSl (eInt .i64)) y6)), (20, ob u11 (.vec w0.heap.size 3 (eInt .i64) ((y16.set y15.toNat y5).set y15.toNat (min (gtD (y16.set y15.toNat y5) y15) ((gtD (gtD y6 (y5 - (2 : Int))) (y15 - (2 : Int))) + (1 : Int))))))] ⟨rfl, rfl, z81, rfl, rfl, ⟨rfl, rfl, z83, rfl, rfl, trivial⟩⟩
                replace hA := hI.avok
                clear hI
                obtain ⟨e84, hr⟩ := ck_some hr
                refine HT.text (l := ⟨_, true, .raw (.int .i64 y15)⟩ :: ⟨_, true, .raw (.int .i64 (y15 + (1 : Int)))⟩ :: ⟨_, true, .raw (.int .i64 (y15 + (1 : Int)))⟩ :: []) (tl := []) (by kernel_rfl) (by kernel_rfl) (by kernel_rfl) ?_ ?_
                · exact
                    Obls.cons (Obl.plain rfl rfl fun R' w' hw hs hd => by have a0 : R' 10 = .int .i64 y15 := (hs 10 rfl).trans h10; exact of_move a0) <|
                    Obls.cons (Obl.plain rfl rfl fun R' w' hw hs hd => by have a0 : R' 26 = .int .i64 y15 := hd 0 _ _ _ rfl rfl rfl rfl rfl; exact of_add a0 rfl e84) <|
                    Obls.cons (Obl.plain rfl rfl fun R' w' hw hs hd => by have a0 : R' 27 = .int .i64 (y15 + (1 : Int)) := hd 0 _ _ _ rfl rfl rfl rfl rfl; exact of_assign a0) <|
                    Obls.nil
                intro R w hw hs hF'
                replace h0 : R 0 = v0 := (hs 0 rfl).trans h0
                replace h1 : R 1 = v1 := (hs 1 rfl).trans h1
                replace h2 : R 2 = .bool p2 := (hs 2 rfl).trans h2
                replace h7 : R 7 = ul_u1 := (hs 7 rfl).trans h7
                replace h8 : R 8 = .int .i64 y5 := (hs 8 rfl).trans h8
                replace h9 : R 9 = u11 := (hs 9 rfl).trans h9
                have h10 : R 10 = .int .i64 (y15 + (1 : Int)) := hF' 2 _ _ rfl rfl rfl
                replace f_v0 := f_v0.fr hw
                replace f_v1 := f_v1.fr hw
                replace hO := hO.fr hw
                replace hA := hA.fr hw.size
                replace hF := hF.trans hw
                clear hs hF' hw
                refine seqR_nil ?_
                exact Exists.intro k (And.intro (Nat.lt_succ_self k) ⟨_, _, _, hr, hA, hF, hAA, hO, h0, h1, h2, h7, h8, h9, h10, f_v0, f_v1⟩)
              · have hr := cnd_f c73 hr
                refine HT.skip ?_
                obtain ⟨e85, hr⟩ := ck_some hr
                refine HT.text (l := ⟨_, true, .raw (.int .i64 y15)⟩ :: ⟨_, true, .raw (.int .i64 (y15 + (1 : Int)))⟩ :: ⟨_, true, .raw (.int .i64 (y15 + (1 : Int)))⟩ :: []) (tl := []) (by kernel_rfl) (by kernel_rfl) (by kernel_rfl) ?_ ?_
                · exact
                    Obls.cons (Obl.plain rfl rfl fun R' w' hw hs hd => by have a0 : R' 10 = .int .i64 y15 := (hs 10 rfl).trans h10; exact of_move a0) <|
                    Obls.cons (Obl.plain rfl rfl fun R' w' hw hs hd => by have a0 : R' 26 = .int .i64 y15 := hd 0 _ _ _ rfl rfl rfl rfl rfl; exact of_add a0 rfl e85) <|
                    Obls.cons (Obl.plain rfl rfl fun R' w' hw hs hd => by have a0 : R' 27 = .int .i64 (y15 + (1 : Int)) := hd 0 _ _ _ rfl rfl rfl rfl rfl; exact of_assign a0) <|
                    Obls.nil
                intro R w hw hs hF'
                replace h0 : R 0 = v0 := (hs 0 rfl).trans h0
                replace h1 : R 1 = v1 := (hs 1 rfl).trans h1
                replace h2 : R 2 = .bool p2 := (hs 2 rfl).trans h2
                replace h7 : R 7 = ul_u1 := (hs 7 rfl).trans h7
                replace h8 : R 8 = .int .i64 y5 := (hs 8 rfl).trans h8
                replace h9 : R 9 = u11 := (hs 9 rfl).trans h9
                have h10 : R 10 = .int .i64 (y15 + (1 : Int)) := hF' 2 _ _ rfl rfl rfl
                replace f_v0 := f_v0.fr hw
                replace f_v1 := f_v1.fr hw
                replace hO := hO.fr hw
                replace hA := hA.fr hw.size
                replace hF := hF.trans hw
                clear hs hF' hw
                refine seqR_nil ?_
                exact Exists.intro k (And.intro (Nat.lt_succ_self k) ⟨_, _, _, hr, hA, hF, hAA, hO, h0, h1, h2, h7, h8, h9, h10, f_v0, f_v1⟩)
            · have hr := cnd_f c52 hr
              refine HT.seq ?_
              obtain ⟨e86, hr⟩ := ck_some hr
              obtain ⟨e87, hr⟩ := ck_some hr
              obtain ⟨e88, hr⟩ := ck_some hr
              obtain ⟨e89, hr⟩ := ck_some hr
              refine HT.draw (by kernel_rfl) (l := ⟨_, true, .raw v0⟩ :: ⟨_, true, .raw (.int .i64 y5)⟩ :: ⟨_, true, .raw (.int .i64 (y5 - (1 : Int)))⟩ :: ⟨_, true, .raw (.int .u8 (bAt p0 (y5 - (1 : Int))))⟩ :: ⟨_, true, .raw v1⟩ :: ⟨_, true, .raw (.int .i64 y15)⟩ :: ⟨_, true, .raw (.int .i64 (y15 - (1 : Int)))⟩ :: ⟨_, true, .raw (.int .u8 (bAt p1 (y15 - (1 : Int))))⟩ :: ⟨_, true, .raw (.bool ((bAt p0 (y5 - (1 : Int))) == (bAt p1 (y15 - (1 : Int)))))⟩ :: ⟨_, true, .raw (.bool ((bAt p0 (y5 - (1 : Int))) == (bAt p1 (y15 - (1 : Int)))))⟩ :: []) (tl := []) (by kernel_rfl) (by kernel_rfl) (by kernel_rfl) (by kernel_rfl) ?_ ?_
              · exact
                  Obls.cons (Obl.plain rfl rfl fun R' w' hw hs hd => by have a0 : R' 0 = v0 := (hs 0 rfl).trans h0; exact of_move a0) <|
                  Obls.cons (Obl.plain rfl rfl fun R' w' hw hs hd => by have a0 : R' 8 = .int .i64 y5 := (hs 8 rfl).trans h8; exact of_move a0) <|
                  Obls.cons (Obl.plain rfl rfl fun R' w' hw hs hd => by have a0 : R' 71 = .int .i64 y5 := hd 0 _ _ _ rfl rfl rfl rfl rfl; exact of_sub a0 rfl e86) <|
                  Obls.cons (Obl.plain rfl rfl fun R' w' hw hs hd => by have a0 : R' 70 = v0 := hd 0 _ _ _ rfl rfl rfl rfl rfl; have ra0 := (f_v0.fr hw).eq a0; have a1 : R' 72 = .int .i64 (y5 - (1 : Int)) := hd 1 _ _ _ rfl rfl rfl rfl rfl; exact of_strIndex ra0 a1 Try.underlying9 e87) <|
                  Obls.cons (Obl.plain rfl rfl fun R' w' hw hs hd => by have a0 : R' 1 = v1 := (hs 1 rfl).trans h1; exact of_move a0) <|
                  Obls.cons (Obl.plain rfl rfl fun R' w' hw hs hd => by have a0 : R' 10 = .int .i64 y15 := (hs 10 rfl).trans h10; exact of_move a0) <|
                  Obls.cons (Obl.plain rfl rfl fun R' w' hw hs hd => by have a0 : R' 75 = .int .i64 y15 := hd 0 _ _ _ rfl rfl rfl rfl rfl; exact of_sub a0 rfl e88) <|
                  Obls.cons (Obl.plain rfl rfl fun R' w' hw hs hd => by have a0 : R' 74 = v1 := hd 0 _ _ _ rfl rfl rfl rfl rfl; have ra0 := (f_v1.fr hw).eq a0; have a1 : R' 76 = .int .i64 (y15 - (1 : Int)) := hd 1 _ _ _ rfl rfl rfl rfl rfl; exact of_strIndex ra0 a1 Try.underlying9 e89) <|
                  Obls.cons (Obl.plain rfl rfl fun R' w' hw hs hd => by have a0 : R' 73 = .int .u8 (bAt p0 (y5 - (1 : Int))) := hd 0 _ _ _ rfl rfl rfl rfl rfl; have a1 : R' 77 = .int .u8 (bAt p1 (y15 - (1 : Int))) := hd 1 _ _ _ rfl rfl rfl rfl rfl; exact of_eql a0 a1) <|
                  Obls.cons (Obl.plain rfl rfl fun R' w' hw hs hd => by have a0 : R' 78 = .bool ((bAt p0 (y5 - (1 : Int))) == (bAt p1 (y15 - (1 : Int)))) := hd 0 _ _ _ rfl rfl rfl rfl rfl; exact of_assign a0) <|
                  Obls.nil
              intro R w hw hs hF'
              replace h0 : R 0 = v0 := (hs 0 rfl).trans h0
              replace h1 : R 1 = v1 := (hs 1 rfl).trans h1
              replace h2 : R 2 = .bool p2 := (hs 2 rfl).trans h2
              replace h7 : R 7 = ul_u1 := (hs 7 rfl).trans h7
              replace h8 : R 8 = .int .i64 y5 := (hs 8 rfl).trans h8
              replace h9 : R 9 = u11 := (hs 9 rfl).trans h9
              replace h10 : R 10 = .int .i64 y15 := (hs 10 rfl).trans h10
              have h69 : R 69 = .bool ((bAt p0 (y5 - (1 : Int))) == (bAt p1 (y15 - (1 : Int)))) := hF' 9 _ _ rfl rfl rfl
              replace f_v0 := f_v0.fr hw
              replace f_v1 := f_v1.fr hw
              replace hO := hO.fr hw
              replace hA := hA.fr hw.size
              replace hF := hF.trans hw
              clear hs hF' hw
              refine seqR_nil ?_
              refine HT.cond ((bAt p0 (y5 - (1 : Int))) == (bAt p1 (y15 - (1 : Int)))) h69 (fun c90 => ?_) (fun c90 => ?_)
              · have hr := cnd_t c90 hr
                obtain ⟨e91, hr⟩ := ck_some hr
                obtain ⟨e92, hr⟩ := ck_some hr
                obtain ⟨e93, hr⟩ := ck_some hr
                obtain ⟨e94, hr⟩ := ck_some hr
                obtain ⟨e95, hr⟩ := ck_some hr
                refine HT.textR [ob ul_u1 (.vec w0.heap.size 24 (eSl (eInt .i64)) y6), ob u11 (.vec w0.heap.size 3 (eInt .i64) y16)] (⟨_, true, [], none, true, fun A => .raw u11⟩ :: ⟨_, true, [], none, true, fun A => .raw (.int .i64 y15)⟩ :: ⟨_, true, [], none, true, fun A => .raw ul_u1⟩ :: ⟨_, true, [], none, true, fun A => .raw (.int .i64 y5)⟩ :: ⟨_, true, [], none, true, fun A => .raw (.int .i64 (y5 - (1 : Int)))⟩ :: ⟨_, true, [], none, true, fun A => .raw (vptr ul_u1 ((y5 - (1 : Int)).toNat * 1))⟩ :: ⟨_, true, [], none, true, fun A => .rep (eSl (eInt .i64)) A (gtD y6 (y5 - (1 : Int)))⟩ :: ⟨_, true, [], none, true, fun A => .raw (.int .i64 y15)⟩ :: ⟨_, true, [], none, true, fun A => .raw (.int .i64 (y15 - (1 : Int)))⟩ :: ⟨_, true, [], none, true, fun A => .qtr (eInt .i64) A (gtD (gtD y6 (y5 - (1 : Int))) (y15 - (1 : Int)))⟩ :: ⟨_, true, [], none, true, fun A => .raw (.int .i64 (gtD (gtD y6 (y5 - (1 : Int))) (y15 - (1 : Int))))⟩ :: ⟨_, true, [], none, true, fun A => .raw (vptr u11 (y15.toNat * 1))⟩ :: ⟨_, true, [1], some (.vec w0.heap.size 3 (eInt .i64) (y16.set y15.toNat (gtD (gtD y6 (y5 - (1 : Int))) (y15 - (1 : Int))))), false, fun A => .any⟩ :: []) (by kernel_rfl) (by kernel_rfl) (Wf.mk' (by kernel_rfl) (UAll.cons ust_raw (UAll.cons ust_raw (UAll.cons ust_raw (UAll.cons ust_raw (UAll.cons ust_raw (UAll.cons ust_raw (UAll.cons ust_rep (UAll.cons ust_raw (UAll.cons ust_raw (UAll.cons ust_qtr (UAll.cons ust_raw (UAll.cons ust_raw (UAll.cons ust_any (UAll.nil)))))))))))))) (by kernel_rfl) (by kernel_rfl)) hO hA ?_ ?_
                · exact
                    OblsR.cons (OblR.plain rfl rfl rfl rfl fun A' R' w' ho hd => by have a0 : R' 9 = u11 := (ho.old 9 rfl).trans h9; exact of_move a0) <|
                    OblsR.cons (OblR.plain rfl rfl rfl rfl fun A' R' w' ho hd => by have a0 : R' 10 = .int .i64 y15 := (ho.old 10 rfl).trans h10; exact of_move a0) <|
                    OblsR.cons (OblR.plain rfl rfl rfl rfl fun A' R' w' ho hd => by have a0 : R' 7 = ul_u1 := (ho.old 7 rfl).trans h7; exact of_move a0) <|
                    OblsR.cons (OblR.plain rfl rfl rfl rfl fun A' R' w' ho hd => by have a0 : R' 8 = .int .i64 y5 := (ho.old 8 rfl).trans h8; exact of_move a0) <|
                    OblsR.cons (OblR.plain rfl rfl rfl rfl fun A' R' w' ho hd => by have a0 : R' 82 = .int .i64 y5 := hd 0 _ _ _ rfl rfl rfl rfl rfl; exact of_sub a0 rfl e91) <|
                    OblsR.cons (OblR.plain rfl rfl rfl rfl fun A' R' w' ho hd => by have a0 : R' 81 = ul_u1 := hd 0 _ _ _ rfl rfl rfl rfl rfl; have a1 : R' 83 = .int .i64 (y5 - (1 : Int)) := hd 1 _ _ _ rfl rfl rfl rfl rfl; exact of_indexAddr_vec (hO.ok 0 _ rfl).1 a0 a1 Try.underlying75 Try.sizeOf24 e92 rfl) <|
                    OblsR.cons (OblR.plain rfl rfl rfl rfl fun A' R' w' ho hd => by have a0 : R' 84 = (vptr ul_u1 ((y5 - (1 : Int)).toNat * 1)) := hd 0 _ _ _ rfl rfl rfl rfl rfl; exact (of_load_vec (ho.rd 0 _ rfl rfl) a0 e92 rfl (Fld.id _) rfl Try.isAgg24 Try.sizeOf24)) <|
                    OblsR.cons (OblR.plain rfl rfl rfl rfl fun A' R' w' ho hd => by have a0 : R' 10 = .int .i64 y15 := (ho.old 10 rfl).trans h10; exact of_move a0) <|
                    OblsR.cons (OblR.plain rfl rfl rfl rfl fun A' R' w' ho hd => by have a0 : R' 86 = .int .i64 y15 := hd 0 _ _ _ rfl rfl rfl rfl rfl; exact of_sub a0 rfl e93) <|
                    OblsR.cons (OblR.plain rfl rfl rfl rfl fun A' R' w' ho hd => by have a0 : Rep (eSl (eInt .i64)) A' w' (R' 85) (gtD y6 (y5 - (1 : Int))) := hd 0 _ _ _ rfl rfl rfl rfl rfl; have a1 : R' 87 = .int .i64 (y15 - (1 : Int)) := hd 1 _ _ _ rfl rfl rfl rfl rfl; exact of_indexAddr a0 a1 Try.underlying24 Try.sizeOf3 e94) <|
                    OblsR.cons (OblR.plain rfl rfl rfl rfl fun A' R' w' ho hd => by have a0 : QRep (eInt .i64) A' w' (R' 88) (gtD (gtD y6 (y5 - (1 : Int))) (y15 - (1 : Int))) := hd 0 _ _ _ rfl rfl rfl rfl rfl; exact OpF.int (of_load a0.ptr Try.isAgg3 Try.sizeOf3)) <|
                    OblsR.cons (OblR.plain rfl rfl rfl rfl fun A' R' w' ho hd => by have a0 : R' 79 = u11 := hd 0 _ _ _ rfl rfl rfl rfl rfl; have a1 : R' 80 = .int .i64 y15 := hd 1 _ _ _ rfl rfl rfl rfl rfl; exact of_indexAddr_vec (hO.ok 1 _ rfl).1 a0 a1 Try.underlying24 Try.sizeOf3 e95 rfl) <|
                    OblsR.cons (OblR.took 1 _ _ rfl rfl rfl rfl rfl fun A' R' w' ho hd u hok hav hin hop hds => by have a0 : R' 90 = (vptr u11 (y15.toNat * 1)) := hd 0 _ _ _ rfl rfl rfl rfl rfl; have a1 : R' 89 = .int .i64 (gtD (gtD y6 (y5 - (1 : Int))) (y15 - (1 : Int))) := hd 1 _ _ _ rfl rfl rfl rfl rfl; obtain rfl := hin _ rfl; exact took_vstore (rep_int.eq a1) hok hav a0 e95 rfl (FldS.id _) Try.sizeOf3 rfl) <|
                    OblsR.nil
                intro done ρ σ A R w hdn hI
                replace h0 : R 0 = v0 := (hI.reg rfl).trans h0
                replace h1 : R 1 = v1 := (hI.reg rfl).trans h1
                replace h2 : R 2 = .bool p2 := (hI.reg rfl).trans h2
                replace h7 : R 7 = ul_u1 := (hI.reg rfl).trans h7
                replace h8 : R 8 = .int .i64 y5 := (hI.reg rfl).trans h8
                replace h9 : R 9 = u11 := (hI.reg rfl).trans h9
                replace h10 : R 10 = .int .i64 y15 := (hI.reg rfl).trans h10
                have z96 := hI.inivR 0 rfl
                have z97 := hI.inivR 1 rfl
                have z98 := (hI.opnR hdn 14 12 rfl rfl rfl rfl rfl).trans z97
                replace f_v0 := f_v0.stp hI.stp
                replace f_v1 := f_v1.stp hI.stp
                replace hAA := hI.low' hAA hA0 (hO.ge (⟨rfl, ⟨rfl, trivial⟩⟩))
                replace hF : Fr w0 w := hF.tr hI.ch (hO.ge (⟨rfl, ⟨rfl, trivial⟩⟩))
                replace hO : IniOK [ob ul_u1 (.vec w0.heap.size 24 (eSl (eInt .i64)) y6), ob u11 (.vec w0.heap.size 3 (eInt .i64) (y16.set y15.toNat (gtD (gtD y6 (y5 - (1 : Int))) (y15 - (1 : Int)))))] A w := hI.left hdn [(0, ob ul_u1 (.vec w0.heap.size 24 (eSl (eInt .i64)) y6)), (14, ob u11 (.vec w0.heap.size 3 (eInt .i64) (y16.set y15.toNat (gtD (gtD y6 (y5 - (1 : Int))) (y15 - (1 : Int))))))] ⟨rfl, rfl, z96, rfl, rfl, ⟨rfl, rfl, z98, rfl, rfl, trivial⟩⟩
                replace hA := hI.avok
                clear hI
                refine HT.seq ?_
                obtain ⟨x99, q100, hr⟩ := bd_some hr
                obtain ⟨x101, q102, hr⟩ := bd_some hr
                obtain ⟨e103, hr⟩ := ck_some hr
                obtain ⟨e104, hr⟩ := ck_some hr
                obtain ⟨e105, hr⟩ := ck_some hr
                obtain ⟨e106, hr⟩ := ck_some hr
                obtain ⟨x107, q108, hr⟩ := bd_some hr
                obtain ⟨e109, hr⟩ := ck_some hr
                obtain ⟨e110, hr⟩ := ck_some hr
                obtain ⟨e111, hr⟩ := ck_some hr
                obtain ⟨e112, hr⟩ := ck_some hr
                obtain ⟨x113, q114, hr⟩ := bd_some hr
                refine HT.draw (by kernel_rfl) (l := ⟨_, true, .raw (.bool p2)⟩ :: ⟨_, true, .raw (.bool p2)⟩ :: ⟨_, (true && (p2 == true)), .raw (.int .i64 y5)⟩ :: ⟨_, (true && (p2 == true)), .raw (.bool (decide ((1 : Int) < y5)))⟩ :: ⟨_, true, .raw (.bool x99)⟩ :: ⟨_, true, .raw (.bool x99)⟩ :: ⟨_, (true && (x99 == true)), .raw (.int .i64 y15)⟩ :: ⟨_, (true && (x99 == true)), .raw (.bool (decide ((1 : Int) < y15)))⟩ :: ⟨_, true, .raw (.bool x101)⟩ :: ⟨_, true, .raw (.bool x101)⟩ :: ⟨_, (true && (x101 == true)), .raw v0⟩ :: ⟨_, (true && (x101 == true)), .raw (.int .i64 y5)⟩ :: ⟨_, (true && (x101 == true)), .raw (.int .i64 (y5 - (1 : Int)))⟩ :: ⟨_, (true && (x101 == true)), .raw (.int .u8 (bAt p0 (y5 - (1 : Int))))⟩ :: ⟨_, (true && (x101 == true)), .raw v1⟩ :: ⟨_, (true && (x101 == true)), .raw (.int .i64 y15)⟩ :: ⟨_, (true && (x101 == true)), .raw (.int .i64 (y15 - (2 : Int)))⟩ :: ⟨_, (true && (x101 == true)), .raw (.int .u8 (bAt p1 (y15 - (2 : Int))))⟩ :: ⟨_, (true && (x101 == true)), .raw (.bool ((bAt p0 (y5 - (1 : Int))) == (bAt p1 (y15 - (2 : Int)))))⟩ :: ⟨_, true, .raw (.bool x107)⟩ :: ⟨_, true, .raw (.bool x107)⟩ :: ⟨_, (true && (x107 == true)), .raw v0⟩ :: ⟨_, (true && (x107 == true)), .raw (.int .i64 y5)⟩ :: ⟨_, (true && (x107 == true)), .raw (.int .i64 (y5 - (2 : Int)))⟩ :: ⟨_, (true && (x107 == true)), .raw (.int .u8 (bAt p0 (y5 - (2 : Int))))⟩ :: ⟨_, (true && (x107 == true)), .raw v1⟩ :: ⟨_, (true && (x107 == true)), .raw (.int .i64 y15)⟩ :: ⟨_, (true && (x107 == true)), .raw (.int .i64 (y15 - (1 : Int)))⟩ :: ⟨_, (true && (x107 == true)), .raw (.int .u8 (bAt p1 (y15 - (1 : Int))))⟩ :: ⟨_, (true && (x107 == true)), .raw (.bool ((bAt p0 (y5 - (2 : Int))) == (bAt p1 (y15 - (1 : Int)))))⟩ :: ⟨_, true, .raw (.bool x113)⟩ :: []) (tl := []) (by kernel_rfl) (by kernel_rfl) (by kernel_rfl) (by kernel_rfl) ?_ ?_
                · exact
                    Obls.cons (Obl.plain rfl rfl fun R' w' hw hs hd => by have a0 : R' 2 = .bool p2 := (hs 2 rfl).trans h2; exact of_move a0) <|
                    Obls.cons (Obl.plain rfl rfl fun R' w' hw hs hd => by have a0 : R' 91 = .bool p2 := hd 0 _ _ _ rfl rfl rfl rfl rfl; exact of_move a0) <|
                    Obls.cons (Obl.grd 1 true _ _ _ rfl rfl rfl rfl rfl (by kernel_rfl) fun hg R' w' hw hs hd => by have a0 : R' 8 = .int .i64 y5 := (hs 8 rfl).trans h8; exact of_move a0) <|
                    Obls.cons (Obl.grd 1 true _ _ _ rfl rfl rfl rfl rfl (by kernel_rfl) fun hg R' w' hw hs hd => by have a0 : R' 93 = .int .i64 y5 := hd 0 _ _ _ rfl rfl rfl rfl hg; exact of_gtr a0 rfl) <|
                    Obls.cons (Obl.plain rfl rfl fun R' w' hw hs hd => by have a0 : R' 92 = .bool p2 := hd 0 _ _ _ rfl rfl rfl rfl rfl; exact of_pick p2 a0 (fun hc => by have a1 : R' 94 = .bool (decide ((1 : Int) < y5)) := hd 1 _ _ _ rfl rfl rfl rfl (g_and rfl (beq_of hc)); show _ = Value.bool x99; rw [q100, hc]; exact a1) (fun hc => by show _ = Value.bool x99; rw [q100, hc]; exact rfl)) <|
                    Obls.cons (Obl.plain rfl rfl fun R' w' hw hs hd => by have a0 : R' 95 = .bool x99 := hd 0 _ _ _ rfl rfl rfl rfl rfl; exact of_move a0) <|
                    Obls.cons (Obl.grd 5 true _ _ _ rfl rfl rfl rfl rfl (by kernel_rfl) fun hg R' w' hw hs hd => by have a0 : R' 10 = .int .i64 y15 := (hs 10 rfl).trans h10; exact of_move a0) <|
                    Obls.cons (Obl.grd 5 true _ _ _ rfl rfl rfl rfl rfl (by kernel_rfl) fun hg R' w' hw hs hd => by have a0 : R' 97 = .int .i64 y15 := hd 0 _ _ _ rfl rfl rfl rfl hg; exact of_gtr a0 rfl) <|
                    Obls.cons (Obl.plain rfl rfl fun R' w' hw hs hd => by have a0 : R' 96 = .bool x99 := hd 0 _ _ _ rfl rfl rfl rfl rfl; exact of_pick x99 a0 (fun hc => by have a1 : R' 98 = .bool (decide ((1 : Int) < y15)) := hd 1 _ _ _ rfl rfl rfl rfl (g_and rfl (beq_of hc)); show _ = Value.bool x101; rw [q102, hc]; exact a1) (fun hc => by show _ = Value.bool x101; rw [q102, hc]; exact rfl)) <|
                    Obls.cons (Obl.plain rfl rfl fun R' w' hw hs hd => by have a0 : R' 99 = .bool x101 := hd 0 _ _ _ rfl rfl rfl rfl rfl; exact of_move a0) <|
                    Obls.cons (Obl.grd 9 true _ _ _ rfl rfl rfl rfl rfl (by kernel_rfl) fun hg R' w' hw hs hd => by have a0 : R' 0 = v0 := (hs 0 rfl).trans h0; exact of_move a0) <|
                    Obls.cons (Obl.grd 9 true _ _ _ rfl rfl rfl rfl rfl (by kernel_rfl) fun hg R' w' hw hs hd => by have a0 : R' 8 = .int .i64 y5 := (hs 8 rfl).trans h8; exact of_move a0) <|
                    Obls.cons (Obl.grd 9 true _ _ _ rfl rfl rfl rfl rfl (by kernel_rfl) fun hg R' w' hw hs hd => by have a0 : R' 102 = .int .i64 y5 := hd 0 _ _ _ rfl rfl rfl rfl hg; exact of_sub a0 rfl (gd e103 hg)) <|
                    Obls.cons (Obl.grd 9 true _ _ _ rfl rfl rfl rfl rfl (by kernel_rfl) fun hg R' w' hw hs hd => by have a0 : R' 101 = v0 := hd 0 _ _ _ rfl rfl rfl rfl hg; have ra0 := (f_v0.fr hw).eq a0; have a1 : R' 103 = .int .i64 (y5 - (1 : Int)) := hd 1 _ _ _ rfl rfl rfl rfl hg; exact of_strIndex ra0 a1 Try.underlying9 (gd e104 hg)) <|
                    Obls.cons (Obl.grd 9 true _ _ _ rfl rfl rfl rfl rfl (by kernel_rfl) fun hg R' w' hw hs hd => by have a0 : R' 1 = v1 := (hs 1 rfl).trans h1; exact of_move a0) <|
                    Obls.cons (Obl.grd 9 true _ _ _ rfl rfl rfl rfl rfl (by kernel_rfl) fun hg R' w' hw hs hd => by have a0 : R' 10 = .int .i64 y15 := (hs 10 rfl).trans h10; exact of_move a0) <|
                    Obls.cons (Obl.grd 9 true _ _ _ rfl rfl rfl rfl rfl (by kernel_rfl) fun hg R' w' hw hs hd => by have a0 : R' 106 = .int .i64 y15 := hd 0 _ _ _ rfl rfl rfl rfl hg; exact of_sub a0 rfl (gd e105 hg)) <|
                    Obls.cons (Obl.grd 9 true _ _ _ rfl rfl rfl rfl rfl (by kernel_rfl) fun hg R' w' hw hs hd => by have a0 : R' 105 = v1 := hd 0 _ _ _ rfl rfl rfl rfl hg; have ra0 := (f_v1.fr hw).eq a0; have a1 : R' 107 = .int .i64 (y15 - (2 : Int)) := hd 1 _ _ _ rfl rfl rfl rfl hg; exact of_strIndex ra0 a1 Try.underlying9 (gd e106 hg)) <|
                    Obls.cons (Obl.grd 9 true _ _ _ rfl rfl rfl rfl rfl (by kernel_rfl) fun hg R' w' hw hs hd => by have a0 : R' 104 = .int .u8 (bAt p0 (y5 - (1 : Int))) := hd 0 _ _ _ rfl rfl rfl rfl hg; have a1 : R' 108 = .int .u8 (bAt p1 (y15 - (2 : Int))) := hd 1 _ _ _ rfl rfl rfl rfl hg; exact of_eql a0 a1) <|
                    Obls.cons (Obl.plain rfl rfl fun R' w' hw hs hd => by have a0 : R' 100 = .bool x101 := hd 0 _ _ _ rfl rfl rfl rfl rfl; exact of_pick x101 a0 (fun hc => by have a1 : R' 109 = .bool ((bAt p0 (y5 - (1 : Int))) == (bAt p1 (y15 - (2 : Int)))) := hd 1 _ _ _ rfl rfl rfl rfl (g_and rfl (beq_of hc)); show _ = Value.bool x107; rw [q108, hc]; exact a1) (fun hc => by show _ = Value.bool x107; rw [q108, hc]; exact rfl)) <|
                    Obls.cons (Obl.plain rfl rfl fun R' w' hw hs hd => by have a0 : R' 110 = .bool x107 := hd 0 _ _ _ rfl rfl rfl rfl rfl; exact of_move a0) <|
                    Obls.cons (Obl.grd 20 true _ _ _ rfl rfl rfl rfl rfl (by kernel_rfl) fun hg R' w' hw hs hd => by have a0 : R' 0 = v0 := (hs 0 rfl).trans h0; exact of_move a0) <|
                    Obls.cons (Obl.grd 20 true _ _ _ rfl rfl rfl rfl rfl (by kernel_rfl) fun hg R' w' hw hs hd => by have a0 : R' 8 = .int .i64 y5 := (hs 8 rfl).trans h8; exact of_move a0) <|
                    Obls.cons (Obl.grd 20 true _ _ _ rfl rfl rfl rfl rfl (by kernel_rfl) fun hg R' w' hw hs hd => by have a0 : R' 113 = .int .i64 y5 := hd 0 _ _ _ rfl rfl rfl rfl hg; exact of_sub a0 rfl (gd e109 hg)) <|
                    Obls.cons (Obl.grd 20 true _ _ _ rfl rfl rfl rfl rfl (by kernel_rfl) fun hg R' w' hw hs hd => by have a0 : R' 112 = v0 := hd 0 _ _ _ rfl rfl rfl rfl hg; have ra0 := (f_v0.fr hw).eq a0; have a1 : R' 114 = .int .i64 (y5 - (2 : Int)) := hd 1 _ _ _ rfl rfl rfl rfl hg; exact of_strIndex ra0 a1 Try.underlying9 (gd e110 hg)) <|
                    Obls.cons (Obl.grd 20 true _ _ _ rfl rfl rfl rfl rfl (by kernel_rfl) fun hg R' w' hw hs hd => by have a0 : R' 1 = v1 := (hs 1 rfl).trans h1; exact of_move a0) <|
                    Obls.cons (Obl.grd 20 true _ _ _ rfl rfl rfl rfl rfl (by kernel_rfl) fun hg R' w' hw hs hd => by have a0 : R' 10 = .int .i64 y15 := (hs 10 rfl).trans h10; exact of_move a0) <|
                    Obls.cons (Obl.grd 20 true _ _ _ rfl rfl rfl rfl rfl (by kernel_rfl) fun hg R' w' hw hs hd => by have a0 : R' 117 = .int .i64 y15 := hd 0 _ _ _ rfl rfl rfl rfl hg; exact of_sub a0 rfl (gd e111 hg)) <|
                    Obls.cons (Obl.grd 20 true _ _ _ rfl rfl rfl rfl rfl (by kernel_rfl) fun hg R' w' hw hs hd => by have a0 : R' 116 = v1 := hd 0 _ _ _ rfl rfl rfl rfl hg; have ra0 := (f_v1.fr hw).eq a0; have a1 : R' 118 = .int .i64 (y15 - (1 : Int)) := hd 1 _ _ _ rfl rfl rfl rfl hg; exact of_strIndex ra0 a1 Try.underlying9 (gd e112 hg)) <|
                    Obls.cons (Obl.grd 20 true _ _ _ rfl rfl rfl rfl rfl (by kernel_rfl) fun hg R' w' hw hs hd => by have a0 : R' 115 = .int .u8 (bAt p0 (y5 - (2 : Int))) := hd 0 _ _ _ rfl rfl rfl rfl hg; have a1 : R' 119 = .int .u8 (bAt p1 (y15 - (1 : Int))) := hd 1 _ _ _ rfl rfl rfl rfl hg; exact of_eql a0 a1) <|
                    Obls.cons (Obl.plain rfl rfl fun R' w' hw hs hd => by have a0 : R' 111 = .bool x107 := hd 0 _ _ _ rfl rfl rfl rfl rfl; exact of_pick x107 a0 (fun hc => by have a1 : R' 120 = .bool ((bAt p0 (y5 - (2 : Int))) == (bAt p1 (y15 - (1 : Int)))) := hd 1 _ _ _ rfl rfl rfl rfl (g_and rfl (beq_of hc)); show _ = Value.bool x113; rw [q114, hc]; exact a1) (fun hc => by show _ = Value.bool x113; rw [q114, hc]; exact rfl)) <|
                    Obls.nil
                intro R w hw hs hF'
                replace h0 : R 0 = v0 := (hs 0 rfl).trans h0
                replace h1 : R 1 = v1 := (hs 1 rfl).trans h1
                replace h2 : R 2 = .bool p2 := (hs 2 rfl).trans h2
                replace h7 : R 7 = ul_u1 := (hs 7 rfl).trans h7
                replace h8 : R 8 = .int .i64 y5 := (hs 8 rfl).trans h8
                replace h9 : R 9 = u11 := (hs 9 rfl).trans h9
                replace h10 : R 10 = .int .i64 y15 := (hs 10 rfl).trans h10
                have h121 : R 121 = .bool x113 := hF' 30 _ _ rfl rfl rfl
                replace f_v0 := f_v0.fr hw
                replace f_v1 := f_v1.fr hw
                replace hO := hO.fr hw
                replace hA := hA.fr hw.size
                replace hF := hF.trans hw
                clear hs hF' hw
                refine seqR_nil ?_
                refine HT.cond x113 h121 (fun c115 => ?_) (fun c115 => ?_)
                · have hr := cnd_t c115 hr
                  obtain ⟨e116, hr⟩ := ck_some hr
                  obtain ⟨e117, hr⟩ := ck_some hr
                  obtain ⟨e118, hr⟩ := ck_some hr
                  obtain ⟨e119, hr⟩ := ck_some hr
                  obtain ⟨e120, hr⟩ := ck_some hr
                  obtain ⟨e121, hr⟩ := ck_some hr
                  obtain ⟨e122, hr⟩ := ck_some hr
                  refine HT.drawR [ob ul_u1 (.vec w0.heap.size 24 (eSl (eInt .i64)) y6), ob u11 (.vec w0.heap.size 3 (eInt .i64) (y16.set y15.toNat (gtD (gtD y6 (y5 - (1 : Int))) (y15 - (1 : Int)))))] (⟨_, true, [], none, true, fun A => .raw u11⟩ :: ⟨_, true, [], none, true, fun A => .raw (.int .i64 y15)⟩ :: ⟨_, true, [], none, true, fun A => .raw u11⟩ :: ⟨_, true, [], none, true, fun A => .raw (.int .i64 y15)⟩ :: ⟨_, true, [], none, true, fun A => .raw (vptr u11 (y15.toNat * 1))⟩ :: ⟨_, true, [], none, true, fun A => .raw (.int .i64 (gtD (y16.set y15.toNat (gtD (gtD y6 (y5 - (1 : Int))) (y15 - (1 : Int)))) y15))⟩ :: ⟨_, true, [], none, true, fun A => .raw ul_u1⟩ :: ⟨_, true, [], none, true, fun A => .raw (.int .i64 y5)⟩ :: ⟨_, true, [], none, true, fun A => .raw (.int .i64 (y5 - (2 : Int)))⟩ :: ⟨_, true, [], none, true, fun A => .raw (vptr ul_u1 ((y5 - (2 : Int)).toNat * 1))⟩ :: ⟨_, true, [], none, true, fun A => .rep (eSl (eInt .i64)) A (gtD y6 (y5 - (2 : Int)))⟩ :: ⟨_, true, [], none, true, fun A => .raw (.int .i64 y15)⟩ :: ⟨_, true, [], none, true, fun A => .raw (.int .i64 (y15 - (2 : Int)))⟩ :: ⟨_, true, [], none, true, fun A => .qtr (eInt .i64) A (gtD (gtD y6 (y5 - (2 : Int))) (y15 - (2 : Int)))⟩ :: ⟨_, true, [], none, true, fun A => .raw (.int .i64 (gtD (gtD y6 (y5 - (2 : Int))) (y15 - (2 : Int))))⟩ :: ⟨_, true, [], none, true, fun A => .raw (.int .i64 ((gtD (gtD y6 (y5 - (2 : Int))) (y15 - (2 : Int))) + (1 : Int)))⟩ :: ⟨_, true, [], none, true, fun A => .raw (.int .i64 (min (gtD (y16.set y15.toNat (gtD (gtD y6 (y5 - (1 : Int))) (y15 - (1 : Int)))) y15) ((gtD (gtD y6 (y5 - (2 : Int))) (y15 - (2 : Int))) + (1 : Int))))⟩ :: ⟨_, true, [], none, true, fun A => .raw (vptr u11 (y15.toNat * 1))⟩ :: ⟨_, true, [1], some (.vec w0.heap.size 3 (eInt .i64) ((y16.set y15.toNat (gtD (gtD y6 (y5 - (1 : Int))) (y15 - (1 : Int)))).set y15.toNat (min (gtD (y16.set y15.toNat (gtD (gtD y6 (y5 - (1 : Int))) (y15 - (1 : Int)))) y15) ((gtD (gtD y6 (y5 - (2 : Int))) (y15 - (2 : Int))) + (1 : Int))))), false, fun A => .any⟩ :: []) (by kernel_rfl) (by kernel_rfl) (by kernel_rfl) (Wf.mk' (by kernel_rfl) (UAll.cons ust_raw (UAll.cons ust_raw (UAll.cons ust_raw (UAll.cons ust_raw (UAll.cons ust_raw (UAll.cons ust_raw (UAll.cons ust_raw (UAll.cons ust_raw (UAll.cons ust_raw (UAll.cons ust_raw (UAll.cons ust_rep (UAll.cons ust_raw (UAll.cons ust_raw (UAll.cons ust_qtr (UAll.cons ust_raw (UAll.cons ust_raw (UAll.cons ust_raw (UAll.cons ust_raw (UAll.cons ust_any (UAll.nil)))))))))))))))))))) (by kernel_rfl) (by kernel_rfl)) hO hA ?_ ?_
                  · exact
                      OblsR.cons (OblR.plain rfl rfl rfl rfl fun A' R' w' ho hd => by have a0 : R' 9 = u11 := (ho.old 9 rfl).trans h9; exact of_move a0) <|
                      OblsR.cons (OblR.plain rfl rfl rfl rfl fun A' R' w' ho hd => by have a0 : R' 10 = .int .i64 y15 := (ho.old 10 rfl).trans h10; exact of_move a0) <|
                      OblsR.cons (OblR.plain rfl rfl rfl rfl fun A' R' w' ho hd => by have a0 : R' 9 = u11 := (ho.old 9 rfl).trans h9; exact of_move a0) <|
                      OblsR.cons (OblR.plain rfl rfl rfl rfl fun A' R' w' ho hd => by have a0 : R' 10 = .int .i64 y15 := (ho.old 10 rfl).trans h10; exact of_move a0) <|
                      OblsR.cons (OblR.plain rfl rfl rfl rfl fun A' R' w' ho hd => by have a0 : R' 124 = u11 := hd 0 _ _ _ rfl rfl rfl rfl rfl; have a1 : R' 125 = .int .i64 y15 := hd 1 _ _ _ rfl rfl rfl rfl rfl; exact of_indexAddr_vec (hO.ok 1 _ rfl).1 a0 a1 Try.underlying24 Try.sizeOf3 e116 rfl) <|
                      OblsR.cons (OblR.plain rfl rfl rfl rfl fun A' R' w' ho hd => by have a0 : R' 126 = (vptr u11 (y15.toNat * 1)) := hd 0 _ _ _ rfl rfl rfl rfl rfl; exact OpF.int (of_load_vec (ho.rd 1 _ rfl rfl) a0 e116 rfl (Fld.id _) rfl Try.isAgg3 Try.sizeOf3)) <|
                      OblsR.cons (OblR.plain rfl rfl rfl rfl fun A' R' w' ho hd => by have a0 : R' 7 = ul_u1 := (ho.old 7 rfl).trans h7; exact of_move a0) <|
                      OblsR.cons (OblR.plain rfl rfl rfl rfl fun A' R' w' ho hd => by have a0 : R' 8 = .int .i64 y5 := (ho.old 8 rfl).trans h8; exact of_move a0) <|
                      OblsR.cons (OblR.plain rfl rfl rfl rfl fun A' R' w' ho hd => by have a0 : R' 129 = .int .i64 y5 := hd 0 _ _ _ rfl rfl rfl rfl rfl; exact of_sub a0 rfl e117) <|
                      OblsR.cons (OblR.plain rfl rfl rfl rfl fun A' R' w' ho hd => by have a0 : R' 128 = ul_u1 := hd 0 _ _ _ rfl rfl rfl rfl rfl; have a1 : R' 130 = .int .i64 (y5 - (2 : Int)) := hd 1 _ _ _ rfl rfl rfl rfl rfl; exact of_indexAddr_vec (hO.ok 0 _ rfl).1 a0 a1 Try.underlying75 Try.sizeOf24 e118 rfl) <|
                      OblsR.cons (OblR.plain rfl rfl rfl rfl fun A' R' w' ho hd => by have a0 : R' 131 = (vptr ul_u1 ((y5 - (2 : Int)).toNat * 1)) := hd 0 _ _ _ rfl rfl rfl rfl rfl; exact (of_load_vec (ho.rd 0 _ rfl rfl) a0 e118 rfl (Fld.id _) rfl Try.isAgg24 Try.sizeOf24)) <|
                      OblsR.cons (OblR.plain rfl rfl rfl rfl fun A' R' w' ho hd => by have a0 : R' 10 = .int .i64 y15 := (ho.old 10 rfl).trans h10; exact of_move a0) <|
                      OblsR.cons (OblR.plain rfl rfl rfl rfl fun A' R' w' ho hd => by have a0 : R' 133 = .int .i64 y15 := hd 0 _ _ _ rfl rfl rfl rfl rfl; exact of_sub a0 rfl e119) <|
                      OblsR.cons (OblR.plain rfl rfl rfl rfl fun A' R' w' ho hd => by have a0 : Rep (eSl (eInt .i64)) A' w' (R' 132) (gtD y6 (y5 - (2 : Int))) := hd 0 _ _ _ rfl rfl rfl rfl rfl; have a1 : R' 134 = .int .i64 (y15 - (2 : Int)) := hd 1 _ _ _ rfl rfl rfl rfl rfl; exact of_indexAddr a0 a1 Try.underlying24 Try.sizeOf3 e120) <|
                      OblsR.cons (OblR.plain rfl rfl rfl rfl fun A' R' w' ho hd => by have a0 : QRep (eInt .i64) A' w' (R' 135) (gtD (gtD y6 (y5 - (2 : Int))) (y15 - (2 : Int))) := hd 0 _ _ _ rfl rfl rfl rfl rfl; exact OpF.int (of_load a0.ptr Try.isAgg3 Try.sizeOf3)) <|
                      OblsR.cons (OblR.plain rfl rfl rfl rfl fun A' R' w' ho hd => by have a0 : R' 136 = .int .i64 (gtD (gtD y6 (y5 - (2 : Int))) (y15 - (2 : Int))) := hd 0 _ _ _ rfl rfl rfl rfl rfl; exact of_add a0 rfl e121) <|
                      OblsR.cons (OblR.plain rfl rfl rfl rfl fun A' R' w' ho hd => by have a0 : R' 127 = .int .i64 (gtD (y16.set y15.toNat (gtD (gtD y6 (y5 - (1 : Int))) (y15 - (1 : Int)))) y15) := hd 0 _ _ _ rfl rfl rfl rfl rfl; have a1 : R' 137 = .int .i64 ((gtD (gtD y6 (y5 - (2 : Int))) (y15 - (2 : Int))) + (1 : Int)) := hd 1 _ _ _ rfl rfl rfl rfl rfl; exact of_min2 a0 a1) <|
                      OblsR.cons (OblR.plain rfl rfl rfl rfl fun A' R' w' ho hd => by have a0 : R' 122 = u11 := hd 0 _ _ _ rfl rfl rfl rfl rfl; have a1 : R' 123 = .int .i64 y15 := hd 1 _ _ _ rfl rfl rfl rfl rfl; exact of_indexAddr_vec (hO.ok 1 _ rfl).1 a0 a1 Try.underlying24 Try.sizeOf3 e122 rfl) <|
                      OblsR.cons (OblR.took 1 _ _ rfl rfl rfl rfl rfl fun A' R' w' ho hd u hok hav hin hop hds => by have a0 : R' 139 = (vptr u11 (y15.toNat * 1)) := hd 0 _ _ _ rfl rfl rfl rfl rfl; have a1 : R' 138 = .int .i64 (min (gtD (y16.set y15.toNat (gtD (gtD y6 (y5 - (1 : Int))) (y15 - (1 : Int)))) y15) ((gtD (gtD y6 (y5 - (2 : Int))) (y15 - (2 : Int))) + (1 : Int))) := hd 1 _ _ _ rfl rfl rfl rfl rfl; obtain rfl := hin _ rfl; exact took_vstore (rep_int.eq a1) hok hav a0 e122 rfl (FldS.id _) Try.sizeOf3 rfl) <|
                      OblsR.nil
                  intro done ρ σ A R w hdn hI
                  replace h0 : R 0 = v0 := (hI.reg rfl).trans h0
                  replace h1 : R 1 = v1 := (hI.reg rfl).trans h1
                  replace h2 : R 2 = .bool p2 := (hI.reg rfl).trans h2
                  replace h7 : R 7 = ul_u1 := (hI.reg rfl).trans h7
                  replace h8 : R 8 = .int .i64 y5 := (hI.reg rfl).trans h8
                  replace h9 : R 9 = u11 := (hI.reg rfl).trans h9
                  replace h10 : R 10 = .int .i64 y15 := (hI.reg rfl).trans h10
                  have z123 := hI.inivR 0 rfl
                  have z124 := hI.inivR 1 rfl
                  have z125 := (hI.opnR hdn 20 18 rfl rfl rfl rfl rfl).trans z124
                  replace f_v0 := f_v0.stp hI.stp
                  replace f_v1 := f_v1.stp hI.stp
                  replace hAA := hI.low' hAA hA0 (hO.ge (⟨rfl, ⟨rfl, trivial⟩⟩))
                  replace hF : Fr w0 w := hF.tr hI.ch (hO.ge (⟨rfl, ⟨rfl, trivial⟩⟩))
                  replace hO : IniOK [ob ul_u1 (.vec w0.heap.size 24 (eSl (eInt .i64)) y6), ob u11 (.vec w0.heap.size 3 (eInt .i64) ((y16.set y15.toNat (gtD (gtD y6 (y5 - (1 : Int))) (y15 - (1 : Int)))).set y15.toNat (min (gtD (y16.set y15.toNat (gtD (gtD y6 (y5 - (1 : Int))) (y15 - (1 : Int)))) y15) ((gtD (gtD y6 (y5 - (2 : Int))) (y15 - (2 : Int))) + (1 : Int)))))] A w := hI.left hdn [(0, ob ul_u1 (.vec w0.heap.size 24 (eSl (eInt .i64)) y6)), (20, ob u11 (.vec w0.heap.size 3 (eInt .i64) ((y16.set y15.toNat (gtD (gtD y6 (y5 - (1 : Int))) (y15 - (1 : Int)))).set y15.toNat (min (gtD (y16.set y15.toNat (gtD (gtD y6 (y5 - (1 : Int))) (y15 - (1 : Int)))) y15) ((gtD (gtD y6 (y5 - (2 : Int))) (y15 - (2 : Int))) + (1 : Int))))))] ⟨rfl, rfl, z123, rfl, rfl, ⟨rfl, rfl, z125, rfl, rfl, trivial⟩⟩
                  replace hA := hI.avok
                  clear hI
                  obtain ⟨e126, hr⟩ := ck_some hr
                  refine HT.text (l := ⟨_, true, .raw (.int .i64 y15)⟩ :: ⟨_, true, .raw (.int .i64 (y15 + (1 : Int)))⟩ :: ⟨_, true, .raw (.int .i64 (y15 + (1 : Int)))⟩ :: []) (tl := []) (by kernel_rfl) (by kernel_rfl) (by kernel_rfl) ?_ ?_
                  · exact
                      Obls.cons (Obl.plain rfl rfl fun R' w' hw hs hd => by have a0 : R' 10 = .int .i64 y15 := (hs 10 rfl).trans h10; exact of_move a0) <|
                      Obls.cons (Obl.plain rfl rfl fun R' w' hw hs hd => by have a0 : R' 26 = .int .i64 y15 := hd 0 _ _ _ rfl rfl rfl rfl rfl; exact of_add a0 rfl e126) <|
                      Obls.cons (Obl.plain rfl rfl fun R' w' hw hs hd => by have a0 : R' 27 = .int .i64 (y15 + (1 : Int)) := hd 0 _ _ _ rfl rfl rfl rfl rfl; exact of_assign a0) <|
                      Obls.nil
                  intro R w hw hs hF'
                  replace h0 : R 0 = v0 := (hs 0 rfl).trans h0
                  replace h1 : R 1 = v1 := (hs 1 rfl).trans h1
                  replace h2 : R 2 = .bool p2 := (hs 2 rfl).trans h2
                  replace h7 : R 7 = ul_u1 := (hs 7 rfl).trans h7
                  replace h8 : R 8 = .int .i64 y5 := (hs 8 rfl).trans h8
                  replace h9 : R 9 = u11 := (hs 9 rfl).trans h9
                  have h10 : R 10 = .int .i64 (y15 + (1 : Int)) := hF' 2 _ _ rfl rfl rfl
                  replace f_v0 := f_v0.fr hw
                  replace f_v1 := f_v1.fr hw
                  replace hO := hO.fr hw
                  replace hA := hA.fr hw.size
                  replace hF := hF.trans hw
                  clear hs hF' hw
                  refine seqR_nil ?_
                  exact Exists.intro k (And.intro (Nat.lt_succ_self k) ⟨_, _, _, hr, hA, hF, hAA, hO, h0, h1, h2, h7, h8, h9, h10, f_v0, f_v1⟩)
                · have hr := cnd_f c115 hr
                  refine HT.skip ?_
                  obtain ⟨e127, hr⟩ := ck_some hr
                  refine HT.text (l := ⟨_, true, .raw (.int .i64 y15)⟩ :: ⟨_, true, .raw (.int .i64 (y15 + (1 : Int)))⟩ :: ⟨_, true, .raw (.int .i64 (y15 + (1 : Int)))⟩ :: []) (tl := []) (by kernel_rfl) (by kernel_rfl) (by kernel_rfl) ?_ ?_
                  · exact
                      Obls.cons (Obl.plain rfl rfl fun R' w' hw hs hd => by have a0 : R' 10 = .int .i64 y15 := (hs 10 rfl).trans h10; exact of_move a0) <|
                      Obls.cons (Obl.plain rfl rfl fun R' w' hw hs hd => by have a0 : R' 26 = .int .i64 y15 := hd 0 _ _ _ rfl rfl rfl rfl rfl; exact of_add a0 rfl e127) <|
                      Obls.cons (Obl.plain rfl rfl fun R' w' hw hs hd => by have a0 : R' 27 = .int .i64 (y15 + (1 : Int)) := hd 0 _ _ _ rfl rfl rfl rfl rfl; exact of_assign a0) <|
                      Obls.nil
                  intro R w hw hs hF'
                  replace h0 : R 0 = v0 := (hs 0 rfl).trans h0
                  replace h1 : R 1 = v1 := (hs 1 rfl).trans h1
                  replace h2 : R 2 = .bool p2 := (hs 2 rfl).trans h2
                  replace h7 : R 7 = ul_u1 := (hs 7 rfl).trans h7
                  replace h8 : R 8 = .int .i64 y5 := (hs 8 rfl).trans h8
                  replace h9 : R 9 = u11 := (hs 9 rfl).trans h9
                  have h10 : R 10 = .int .i64 (y15 + (1 : Int)) := hF' 2 _ _ rfl rfl rfl
                  replace f_v0 := f_v0.fr hw
                  replace f_v1 := f_v1.fr hw
                  replace hO := hO.fr hw
                  replace hA := hA.fr hw.size
                  replace hF := hF.trans hw
                  clear hs hF' hw
                  refine seqR_nil ?_
                  exact Exists.intro k (And.intro (Nat.lt_succ_self k) ⟨_, _, _, hr, hA, hF, hAA, hO, h0, h1, h2, h7, h8, h9, h10, f_v0, f_v1⟩)
              · have hr := cnd_f c90 hr
                obtain ⟨e128, hr⟩ := ck_some hr
                obtain ⟨e129, hr⟩ := ck_some hr
                obtain ⟨e130, hr⟩ := ck_some hr
                obtain ⟨e131, hr⟩ := ck_some hr
                obtain ⟨e132, hr⟩ := ck_some hr
                obtain ⟨e133, hr⟩ := ck_some hr
                obtain ⟨e134, hr⟩ := ck_some hr
                obtain ⟨e135, hr⟩ := ck_some hr
                obtain ⟨e136, hr⟩ := ck_some hr
                obtain ⟨e137, hr⟩ := ck_some hr
                obtain ⟨e138, hr⟩ := ck_some hr
                refine HT.drawR [ob ul_u1 (.vec w0.heap.size 24 (eSl (eInt .i64)) y6), ob u11 (.vec w0.heap.size 3 (eInt .i64) y16)] (⟨_, true, [], none, true, fun A => .raw u11⟩ :: ⟨_, true, [], none, true, fun A => .raw (.int .i64 y15)⟩ :: ⟨_, true, [], none, true, fun A => .raw ul_u1⟩ :: ⟨_, true, [], none, true, fun A => .raw (.int .i64 y5)⟩ :: ⟨_, true, [], none, true, fun A => .raw (.int .i64 (y5 - (1 : Int)))⟩ :: ⟨_, true, [], none, true, fun A => .raw (vptr ul_u1 ((y5 - (1 : Int)).toNat * 1))⟩ :: ⟨_, true, [], none, true, fun A => .rep (eSl (eInt .i64)) A (gtD y6 (y5 - (1 : Int)))⟩ :: ⟨_, true, [], none, true, fun A => .raw (.int .i64 y15)⟩ :: ⟨_, true, [], none, true, fun A => .qtr (eInt .i64) A (gtD (gtD y6 (y5 - (1 : Int))) y15)⟩ :: ⟨_, true, [], none, true, fun A => .raw (.int .i64 (gtD (gtD y6 (y5 - (1 : Int))) y15))⟩ :: ⟨_, true, [], none, true, fun A => .raw u11⟩ :: ⟨_, true, [], none, true, fun A => .raw (.int .i64 y15)⟩ :: ⟨_, true, [], none, true, fun A => .raw (.int .i64 (y15 - (1 : Int)))⟩ :: ⟨_, true, [], none, true, fun A => .raw (vptr u11 ((y15 - (1 : Int)).toNat * 1))⟩ :: ⟨_, true, [], none, true, fun A => .raw (.int .i64 (gtD y16 (y15 - (1 : Int))))⟩ :: ⟨_, true, [], none, true, fun A => .raw ul_u1⟩ :: ⟨_, true, [], none, true, fun A => .raw (.int .i64 y5)⟩ :: ⟨_, true, [], none, true, fun A => .raw (.int .i64 (y5 - (1 : Int)))⟩ :: ⟨_, true, [], none, true, fun A => .raw (vptr ul_u1 ((y5 - (1 : Int)).toNat * 1))⟩ :: ⟨_, true, [], none, true, fun A => .rep (eSl (eInt .i64)) A (gtD y6 (y5 - (1 : Int)))⟩ :: ⟨_, true, [], none, true, fun A => .raw (.int .i64 y15)⟩ :: ⟨_, true, [], none, true, fun A => .raw (.int .i64 (y15 - (1 : Int)))⟩ :: ⟨_, true, [], none, true, fun A => .qtr (eInt .i64) A (gtD (gtD y6 (y5 - (1 : Int))) (y15 - (1 : Int)))⟩ :: ⟨_, true, [], none, true, fun A => .raw (.int .i64 (gtD (gtD y6 (y5 - (1 : Int))) (y15 - (1 : Int))))⟩ :: ⟨_, true, [], none, true, fun A => .raw (.int .i64 (min (min (gtD (gtD y6 (y5 - (1 : Int))) y15) (gtD y16 (y15 - (1 : Int)))) (gtD (gtD y6 (y5 - (1 : Int))) (y15 - (1 : Int)))))⟩ :: ⟨_, true, [], none, true, fun A => .raw (.int .i64 ((1 : Int) + (min (min (gtD (gtD y6 (y5 - (1 : Int))) y15) (gtD y16 (y15 - (1 : Int)))) (gtD (gtD y6 (y5 - (1 : Int))) (y15 - (1 : Int))))))⟩ :: ⟨_, true, [], none, true, fun A => .raw (vptr u11 (y15.toNat * 1))⟩ :: ⟨_, true, [1], some (.vec w0.heap.size 3 (eInt .i64) (y16.set y15.toNat ((1 : Int) + (min (min (gtD (gtD y6 (y5 - (1 : Int))) y15) (gtD y16 (y15 - (1 : Int)))) (gtD (gtD y6 (y5 - (1 : Int))) (y15 - (1 : Int))))))), false, fun A => .any⟩ :: []) (by kernel_rfl) (by kernel_rfl) (by kernel_rfl) (Wf.mk' (by kernel_rfl) (UAll.cons ust_raw (UAll.cons ust_raw (UAll.cons ust_raw (UAll.cons ust_raw (UAll.cons ust_raw (UAll.cons ust_raw (UAll.cons ust_rep (UAll.cons ust_raw (UAll.cons ust_qtr (UAll.cons ust_raw (UAll.cons ust_raw (UAll.cons ust_raw (UAll.cons ust_raw (UAll.cons ust_raw (UAll.cons ust_raw (UAll.cons ust_raw (UAll.cons ust_raw (UAll.cons ust_raw (UAll.cons ust_raw (UAll.cons ust_rep (UAll.cons ust_raw (UAll.cons ust_raw (UAll.cons ust_qtr (UAll.cons ust_raw (UAll.cons ust_raw (UAll.cons ust_raw (UAll.cons ust_raw (UAll.cons ust_any (UAll.nil))))))))))))))))))))))))))))) (by kernel_rfl) (by kernel_rfl)) hO hA ?_ ?_
                · exact
                    OblsR.cons (OblR.plain rfl rfl rfl rfl fun A' R' w' ho hd => by have a0 : R' 9 = u11 := (ho.old 9 rfl).trans h9; exact of_move a0) <|
                    OblsR.cons (OblR.plain rfl rfl rfl rfl fun A' R' w' ho hd => by have a0 : R' 10 = .int .i64 y15 := (ho.old 10 rfl).trans h10; exact of_move a0) <|
                    OblsR.cons (OblR.plain rfl rfl rfl rfl fun A' R' w' ho hd => by have a0 : R' 7 = ul_u1 := (ho.old 7 rfl).trans h7; exact of_move a0) <|
                    OblsR.cons (OblR.plain rfl rfl rfl rfl fun A' R' w' ho hd => by have a0 : R' 8 = .int .i64 y5 := (ho.old 8 rfl).trans h8; exact of_move a0) <|
                    OblsR.cons (OblR.plain rfl rfl rfl rfl fun A' R' w' ho hd => by have a0 : R' 31 = .int .i64 y5 := hd 0 _ _ _ rfl rfl rfl rfl rfl; exact of_sub a0 rfl e128) <|
                    OblsR.cons (OblR.plain rfl rfl rfl rfl fun A' R' w' ho hd => by have a0 : R' 30 = ul_u1 := hd 0 _ _ _ rfl rfl rfl rfl rfl; have a1 : R' 32 = .int .i64 (y5 - (1 : Int)) := hd 1 _ _ _ rfl rfl rfl rfl rfl; exact of_indexAddr_vec (hO.ok 0 _ rfl).1 a0 a1 Try.underlying75 Try.sizeOf24 e129 rfl) <|
                    OblsR.cons (OblR.plain rfl rfl rfl rfl fun A' R' w' ho hd => by have a0 : R' 33 = (vptr ul_u1 ((y5 - (1 : Int)).toNat * 1)) := hd 0 _ _ _ rfl rfl rfl rfl rfl; exact (of_load_vec (ho.rd 0 _ rfl rfl) a0 e129 rfl (Fld.id _) rfl Try.isAgg24 Try.sizeOf24)) <|
                    OblsR.cons (OblR.plain rfl rfl rfl rfl fun A' R' w' ho hd => by have a0 : R' 10 = .int .i64 y15 := (ho.old 10 rfl).trans h10; exact of_move a0) <|
                    OblsR.cons (OblR.plain rfl rfl rfl rfl fun A' R' w' ho hd => by have a0 : Rep (eSl (eInt .i64)) A' w' (R' 34) (gtD y6 (y5 - (1 : Int))) := hd 0 _ _ _ rfl rfl rfl rfl rfl; have a1 : R' 35 = .int .i64 y15 := hd 1 _ _ _ rfl rfl rfl rfl rfl; exact of_indexAddr a0 a1 Try.underlying24 Try.sizeOf3 e130) <|
                    OblsR.cons (OblR.plain rfl rfl rfl rfl fun A' R' w' ho hd => by have a0 : QRep (eInt .i64) A' w' (R' 36) (gtD (gtD y6 (y5 - (1 : Int))) y15) := hd 0 _ _ _ rfl rfl rfl rfl rfl; exact OpF.int (of_load a0.ptr Try.isAgg3 Try.sizeOf3)) <|
                    OblsR.cons (OblR.plain rfl rfl rfl rfl fun A' R' w' ho hd => by have a0 : R' 9 = u11 := (ho.old 9 rfl).trans h9; exact of_move a0) <|
                    OblsR.cons (OblR.plain rfl rfl rfl rfl fun A' R' w' ho hd => by have a0 : R' 10 = .int .i64 y15 := (ho.old 10 rfl).trans h10; exact of_move a0) <|
                    OblsR.cons (OblR.plain rfl rfl rfl rfl fun A' R' w' ho hd => by have a0 : R' 39 = .int .i64 y15 := hd 0 _ _ _ rfl rfl rfl rfl rfl; exact of_sub a0 rfl e131) <|
                    OblsR.cons (OblR.plain rfl rfl rfl rfl fun A' R' w' ho hd => by have a0 : R' 38 = u11 := hd 0 _ _ _ rfl rfl rfl rfl rfl; have a1 : R' 40 = .int .i64 (y15 - (1 : Int)) := hd 1 _ _ _ rfl rfl rfl rfl rfl; exact of_indexAddr_vec (hO.ok 1 _ rfl).1 a0 a1 Try.underlying24 Try.sizeOf3 e132 rfl) <|
                    OblsR.cons (OblR.plain rfl rfl rfl rfl fun A' R' w' ho hd => by have a0 : R' 41 = (vptr u11 ((y15 - (1 : Int)).toNat * 1)) := hd 0 _ _ _ rfl rfl rfl rfl rfl; exact OpF.int (of_load_vec (ho.rd 1 _ rfl rfl) a0 e132 rfl (Fld.id _) rfl Try.isAgg3 Try.sizeOf3)) <|
                    OblsR.cons (OblR.plain rfl rfl rfl rfl fun A' R' w' ho hd => by have a0 : R' 7 = ul_u1 := (ho.old 7 rfl).trans h7; exact of_move a0) <|
                    OblsR.cons (OblR.plain rfl rfl rfl rfl fun A' R' w' ho hd => by have a0 : R' 8 = .int .i64 y5 := (ho.old 8 rfl).trans h8; exact of_move a0) <|
                    OblsR.cons (OblR.plain rfl rfl rfl rfl fun A' R' w' ho hd => by have a0 : R' 44 = .int .i64 y5 := hd 0 _ _ _ rfl rfl rfl rfl rfl; exact of_sub a0 rfl e133) <|
                    OblsR.cons (OblR.plain rfl rfl rfl rfl fun A' R' w' ho hd => by have a0 : R' 43 = ul_u1 := hd 0 _ _ _ rfl rfl rfl rfl rfl; have a1 : R' 45 = .int .i64 (y5 - (1 : Int)) := hd 1 _ _ _ rfl rfl rfl rfl rfl; exact of_indexAddr_vec (hO.ok 0 _ rfl).1 a0 a1 Try.underlying75 Try.sizeOf24 e134 rfl) <|
                    OblsR.cons (OblR.plain rfl rfl rfl rfl fun A' R' w' ho hd => by have a0 : R' 46 = (vptr ul_u1 ((y5 - (1 : Int)).toNat * 1)) := hd 0 _ _ _ rfl rfl rfl rfl rfl; exact (of_load_vec (ho.rd 0 _ rfl rfl) a0 e134 rfl (Fld.id _) rfl Try.isAgg24 Try.sizeOf24)) <|
                    OblsR.cons (OblR.plain rfl rfl rfl rfl fun A' R' w' ho hd => by have a0 : R' 10 = .int .i64 y15 := (ho.old 10 rfl).trans h10; exact of_move a0) <|
                    OblsR.cons (OblR.plain rfl rfl rfl rfl fun A' R' w' ho hd => by have a0 : R' 48 = .int .i64 y15 := hd 0 _ _ _ rfl rfl rfl rfl rfl; exact of_sub a0 rfl e135) <|
                    OblsR.cons (OblR.plain rfl rfl rfl rfl fun A' R' w' ho hd => by have a0 : Rep (eSl (eInt .i64)) A' w' (R' 47) (gtD y6 (y5 - (1 : Int))) := hd 0 _ _ _ rfl rfl rfl rfl rfl; have a1 : R' 49 = .int .i64 (y15 - (1 : Int)) := hd 1 _ _ _ rfl rfl rfl rfl rfl; exact of_indexAddr a0 a1 Try.underlying24 Try.sizeOf3 e136) <|
                    OblsR.cons (OblR.plain rfl rfl rfl rfl fun A' R' w' ho hd => by have a0 : QRep (eInt .i64) A' w' (R' 50) (gtD (gtD y6 (y5 - (1 : Int))) (y15 - (1 : Int))) := hd 0 _ _ _ rfl rfl rfl rfl rfl; exact OpF.int (of_load a0.ptr Try.isAgg3 Try.sizeOf3)) <|
                    OblsR.cons (OblR.plain rfl rfl rfl rfl fun A' R' w' ho hd => by have a0 : R' 37 = .int .i64 (gtD (gtD y6 (y5 - (1 : Int))) y15) := hd 0 _ _ _ rfl rfl rfl rfl rfl; have a1 : R' 42 = .int .i64 (gtD y16 (y15 - (1 : Int))) := hd 1 _ _ _ rfl rfl rfl rfl rfl; have a2 : R' 51 = .int .i64 (gtD (gtD y6 (y5 - (1 : Int))) (y15 - (1 : Int))) := hd 2 _ _ _ rfl rfl rfl rfl rfl; exact of_min3 a0 a1 a2) <|
                    OblsR.cons (OblR.plain rfl rfl rfl rfl fun A' R' w' ho hd => by have a1 : R' 52 = .int .i64 (min (min (gtD (gtD y6 (y5 - (1 : Int))) y15) (gtD y16 (y15 - (1 : Int)))) (gtD (gtD y6 (y5 - (1 : Int))) (y15 - (1 : Int)))) := hd 0 _ _ _ rfl rfl rfl rfl rfl; exact of_add rfl a1 e137) <|
                    OblsR.cons (OblR.plain rfl rfl rfl rfl fun A' R' w' ho hd => by have a0 : R' 28 = u11 := hd 0 _ _ _ rfl rfl rfl rfl rfl; have a1 : R' 29 = .int .i64 y15 := hd 1 _ _ _ rfl rfl rfl rfl rfl; exact of_indexAddr_vec (hO.ok 1 _ rfl).1 a0 a1 Try.underlying24 Try.sizeOf3 e138 rfl) <|
                    OblsR.cons (OblR.took 1 _ _ rfl rfl rfl rfl rfl fun A' R' w' ho hd u hok hav hin hop hds => by have a0 : R' 54 = (vptr u11 (y15.toNat * 1)) := hd 0 _ _ _ rfl rfl rfl rfl rfl; have a1 : R' 53 = .int .i64 ((1 : Int) + (min (min (gtD (gtD y6 (y5 - (1 : Int))) y15) (gtD y16 (y15 - (1 : Int)))) (gtD (gtD y6 (y5 - (1 : Int))) (y15 - (1 : Int))))) := hd 1 _ _ _ rfl rfl rfl rfl rfl; obtain rfl := hin _ rfl; exact took_vstore (rep_int.eq a1) hok hav a0 e138 rfl (FldS.id _) Try.sizeOf3 rfl) <|
                    OblsR.nil
                intro done ρ σ A R w hdn hI
                replace h0 : R 0 = v0 := (hI.reg rfl).trans h0
                replace h1 : R 1 = v1 := (hI.reg rfl).trans h1
                replace h2 : R 2 = .bool p2 := (hI.reg rfl).trans h2
                replace h7 : R 7 = ul_u1 := (hI.reg rfl).trans h7
                replace h8 : R 8 = .int .i64 y5 := (hI.reg rfl).trans h8
                replace h9 : R 9 = u11 := (hI.reg rfl).trans h9
                replace h10 : R 10 = .int .i64 y15 := (hI.reg rfl).trans h10
                have z139 := hI.inivR 0 rfl
                have z140 := hI.inivR 1 rfl
                have z141 := (hI.opnR hdn 29 27 rfl rfl rfl rfl rfl).trans z140
                replace f_v0 := f_v0.stp hI.stp
                replace f_v1 := f_v1.stp hI.stp
                replace hAA := hI.low' hAA hA0 (hO.ge (⟨rfl, ⟨rfl, trivial⟩⟩))
                replace hF : Fr w0 w := hF.tr hI.ch (hO.ge (⟨rfl, ⟨rfl, trivial⟩⟩))
                replace hO : IniOK [ob ul_u1 (.vec w0.heap.size 24 (eSl (eInt .i64)) y6), ob u11 (.vec w0.heap.size 3 (eInt .i64) (y16.set y15.toNat ((1 : Int) + (min (min (gtD (gtD y6 (y5 - (1 : Int))) y15) (gtD y16 (y15 - (1 : Int)))) (gtD (gtD y6 (y5 - (1 : Int))) (y15 - (1 : Int)))))))] A w := hI.left hdn [(0, ob ul_u1 (.vec w0.heap.size 24 (eSl (eInt .i64)) y6)), (29, ob u11 (.vec w0.heap.size 3 (eInt .i64) (y16.set y15.toNat ((1 : Int) + (min (min (gtD (gtD y6 (y5 - (1 : Int))) y15) (gtD y16 (y15 - (1 : Int)))) (gtD (gtD y6 (y5 - (1 : Int))) (y15 - (1 : Int))))))))] ⟨rfl, rfl, z139, rfl, rfl, ⟨rfl, rfl, z141, rfl, rfl, trivial⟩⟩
                replace hA := hI.avok
                clear hI
                refine HT.seq ?_
                obtain ⟨x142, q143, hr⟩ := bd_some hr
                obtain ⟨x144, q145, hr⟩ := bd_some hr
                obtain ⟨e146, hr⟩ := ck_some hr
                obtain ⟨e147, hr⟩ := ck_some hr
                obtain ⟨e148, hr⟩ := ck_some hr
                obtain ⟨e149, hr⟩ := ck_some hr
                obtain ⟨x150, q151, hr⟩ := bd_some hr
                obtain ⟨e152, hr⟩ := ck_some hr
                obtain ⟨e153, hr⟩ := ck_some hr
                obtain ⟨e154, hr⟩ := ck_some hr
                obtain ⟨e155, hr⟩ := ck_some hr
                obtain ⟨x156, q157, hr⟩ := bd_some hr
                refine HT.draw (by kernel_rfl) (l := ⟨_, true, .raw (.bool p2)⟩ :: ⟨_, true, .raw (.bool p2)⟩ :: ⟨_, (true && (p2 == true)), .raw (.int .i64 y5)⟩ :: ⟨_, (true && (p2 == true)), .raw (.bool (decide ((1 : Int) < y5)))⟩ :: ⟨_, true, .raw (.bool x142)⟩ :: ⟨_, true, .raw (.bool x142)⟩ :: ⟨_, (true && (x142 == true)), .raw (.int .i64 y15)⟩ :: ⟨_, (true && (x142 == true)), .raw (.bool (decide ((1 : Int) < y15)))⟩ :: ⟨_, true, .raw (.bool x144)⟩ :: ⟨_, true, .raw (.bool x144)⟩ :: ⟨_, (true && (x144 == true)), .raw v0⟩ :: ⟨_, (true && (x144 == true)), .raw (.int .i64 y5)⟩ :: ⟨_, (true && (x144 == true)), .raw (.int .i64 (y5 - (1 : Int)))⟩ :: ⟨_, (true && (x144 == true)), .raw (.int .u8 (bAt p0 (y5 - (1 : Int))))⟩ :: ⟨_, (true && (x144 == true)), .raw v1⟩ :: ⟨_, (true && (x144 == true)), .raw (.int .i64 y15)⟩ :: ⟨_, (true && (x144 == true)), .raw (.int .i64 (y15 - (2 : Int)))⟩ :: ⟨_, (true && (x144 == true)), .raw (.int .u8 (bAt p1 (y15 - (2 : Int))))⟩ :: ⟨_, (true && (x144 == true)), .raw (.bool ((bAt p0 (y5 - (1 : Int))) == (bAt p1 (y15 - (2 : Int)))))⟩ :: ⟨_, true, .raw (.bool x150)⟩ :: ⟨_, true, .raw (.bool x150)⟩ :: ⟨_, (true && (x150 == true)), .raw v0⟩ :: ⟨_, (true && (x150 == true)), .raw (.int .i64 y5)⟩ :: ⟨_, (true && (x150 == true)), .raw (.int .i64 (y5 - (2 : Int)))⟩ :: ⟨_, (true && (x150 == true)), .raw (.int .u8 (bAt p0 (y5 - (2 : Int))))⟩ :: ⟨_, (true && (x150 == true)), .raw v1⟩ :: ⟨_, (true && (x150 == true)), .raw (.int .i64 y15)⟩ :: ⟨_, (true && (x150 == true)), .raw (.int .i64 (y15 - (1 : Int)))⟩ :: ⟨_, (true && (x150 == true)), .raw (.int .u8 (bAt p1 (y15 - (1 : Int))))⟩ :: ⟨_, (true && (x150 == true)), .raw (.bool ((bAt p0 (y5 - (2 : Int))) == (bAt p1 (y15 - (1 : Int)))))⟩ :: ⟨_, true, .raw (.bool x156)⟩ :: []) (tl := []) (by kernel_rfl) (by kernel_rfl) (by kernel_rfl) (by kernel_rfl) ?_ ?_
                · exact
                    Obls.cons (Obl.plain rfl rfl fun R' w' hw hs hd => by have a0 : R' 2 = .bool p2 := (hs 2 rfl).trans h2; exact of_move a0) <|
                    Obls.cons (Obl.plain rfl rfl fun R' w' hw hs hd => by have a0 : R' 91 = .bool p2 := hd 0 _ _ _ rfl rfl rfl rfl rfl; exact of_move a0) <|
                    Obls.cons (Obl.grd 1 true _ _ _ rfl rfl rfl rfl rfl (by kernel_rfl) fun hg R' w' hw hs hd => by have a0 : R' 8 = .int .i64 y5 := (hs 8 rfl).trans h8; exact of_move a0) <|
                    Obls.cons (Obl.grd 1 true _ _ _ rfl rfl rfl rfl rfl (by kernel_rfl) fun hg R' w' hw hs hd => by have a0 : R' 93 = .int .i64 y5 := hd 0 _ _ _ rfl rfl rfl rfl hg; exact of_gtr a0 rfl) <|
                    Obls.cons (Obl.plain rfl rfl fun R' w' hw hs hd => by have a0 : R' 92 = .bool p2 := hd 0 _ _ _ rfl rfl rfl rfl rfl; exact of_pick p2 a0 (fun hc => by have a1 : R' 94 = .bool (decide ((1 : Int) < y5)) := hd 1 _ _ _ rfl rfl rfl rfl (g_and rfl (beq_of hc)); show _ = Value.bool x142; rw [q143, hc]; exact a1) (fun hc => by show _ = Value.bool x142; rw [q143, hc]; exact rfl)) <|
                    Obls.cons (Obl.plain rfl rfl fun R' w' hw hs hd => by have a0 : R' 95 = .bool x142 := hd 0 _ _ _ rfl rfl rfl rfl rfl; exact of_move a0) <|
                    Obls.cons (Obl.grd 5 true _ _ _ rfl rfl rfl rfl rfl (by kernel_rfl) fun hg R' w' hw hs hd => by have a0 : R' 10 = .int .i64 y15 := (hs 10 rfl).trans h10; exact of_move a0) <|
                    Obls.cons (Obl.grd 5 true _ _ _ rfl rfl rfl rfl rfl (by kernel_rfl) fun hg R' w' hw hs hd => by have a0 : R' 97 = .int .i64 y15 := hd 0 _ _ _ rfl rfl rfl rfl hg; exact of_gtr a0 rfl) <|
                    Obls.cons (Obl.plain rfl rfl fun R' w' hw hs hd => by have a0 : R' 96 = .bool x142 := hd 0 _ _ _ rfl rfl rfl rfl rfl; exact of_pick x142 a0 (fun hc => by have a1 : R' 98 = .bool (decide ((1 : Int) < y15)) := hd 1 _ _ _ rfl rfl rfl rfl (g_and rfl (beq_of hc)); show _ = Value.bool x144; rw [q145, hc]; exact a1) (fun hc => by show _ = Value.bool x144; rw [q145, hc]; exact rfl)) <|
                    Obls.cons (Obl.plain rfl rfl fun R' w' hw hs hd => by have a0 : R' 99 = .bool x144 := hd 0 _ _ _ rfl rfl rfl rfl rfl; exact of_move a0) <|
                    Obls.cons (Obl.grd 9 true _ _ _ rfl rfl rfl rfl rfl (by kernel_rfl) fun hg R' w' hw hs hd => by have a0 : R' 0 = v0 := (hs 0 rfl).trans h0; exact of_move a0) <|
                    Obls.cons (Obl.grd 9 true _ _ _ rfl rfl rfl rfl rfl (by kernel_rfl) fun hg R' w' hw hs hd => by have a0 : R' 8 = .int .i64 y5 := (hs 8 rfl).trans h8; exact of_move a0) <|
                    Obls.cons (Obl.grd 9 true _ _ _ rfl rfl rfl rfl rfl (by kernel_rfl) fun hg R' w' hw hs hd => by have a0 : R' 102 = .int .i64 y5 := hd 0 _ _ _ rfl rfl rfl rfl hg; exact of_sub a0 rfl (gd e146 hg)) <|
                    Obls.cons (Obl.grd 9 true _ _ _ rfl rfl rfl rfl rfl (by kernel_rfl) fun hg R' w' hw hs hd => by have a0 : R' 101 = v0 := hd 0 _ _ _ rfl rfl rfl rfl hg; have ra0 := (f_v0.fr hw).eq a0; have a1 : R' 103 = .int .i64 (y5 - (1 : Int)) := hd 1 _ _ _ rfl rfl rfl rfl hg; exact of_strIndex ra0 a1 Try.underlying9 (gd e147 hg)) <|
                    Obls.cons (Obl.grd 9 true _ _ _ rfl rfl rfl rfl rfl (by kernel_rfl) fun hg R' w' hw hs hd => by have a0 : R' 1 = v1 := (hs 1 rfl).trans h1; exact of_move a0) <|
                    Obls.cons (Obl.grd 9 true _ _ _ rfl rfl rfl rfl rfl (by kernel_rfl) fun hg R' w' hw hs hd => by have a0 : R' 10 = .int .i64 y15 := (hs 10 rfl).trans h10; exact of_move a0) <|
                    Obls.cons (Obl.grd 9 true _ _ _ rfl rfl rfl rfl rfl (by kernel_rfl) fun hg R' w' hw hs hd => by have a0 : R' 106 = .int .i64 y15 := hd 0 _ _ _ rfl rfl rfl rfl hg; exact of_sub a0 rfl (gd e148 hg)) <|
                    Obls.cons (Obl.grd 9 true _ _ _ rfl rfl rfl rfl rfl (by kernel_rfl) fun hg R' w' hw hs hd => by have a0 : R' 105 = v1 := hd 0 _ _ _ rfl rfl rfl rfl hg; have ra0 := (f_v1.fr hw).eq a0; have a1 : R' 107 = .int .i64 (y15 - (2 : Int)) := hd 1 _ _ _ rfl rfl rfl rfl hg; exact of_strIndex ra0 a1 Try.underlying9 (gd e149 hg)) <|
                    Obls.cons (Obl.grd 9 true _ _ _ rfl rfl rfl rfl rfl (by kernel_rfl) fun hg R' w' hw hs hd => by have a0 : R' 104 = .int .u8 (bAt p0 (y5 - (1 : Int))) := hd 0 _ _ _ rfl rfl rfl rfl hg; have a1 : R' 108 = .int .u8 (bAt p1 (y15 - (2 : Int))) := hd 1 _ _ _ rfl rfl rfl rfl hg; exact of_eql a0 a1) <|
                    Obls.cons (Obl.plain rfl rfl fun R' w' hw hs hd => by have a0 : R' 100 = .bool x144 := hd 0 _ _ _ rfl rfl rfl rfl rfl; exact of_pick x144 a0 (fun hc => by have a1 : R' 109 = .bool ((bAt p0 (y5 - (1 : Int))) == (bAt p1 (y15 - (2 : Int)))) := hd 1 _ _ _ rfl rfl rfl rfl (g_and rfl (beq_of hc)); show _ = Value.bool x150; rw [q151, hc]; exact a1) (fun hc => by show _ = Value.bool x150; rw [q151, hc]; exact rfl)) <|
                    Obls.cons (Obl.plain rfl rfl fun R' w' hw hs hd => by have a0 : R' 110 = .bool x150 := hd 0 _ _ _ rfl rfl rfl rfl rfl; exact of_move a0) <|
                    Obls.cons (Obl.grd 20 true _ _ _ rfl rfl rfl rfl rfl (by kernel_rfl) fun hg R' w' hw hs hd => by have a0 : R' 0 = v0 := (hs 0 rfl).trans h0; exact of_move a0) <|
                    Obls.cons (Obl.grd 20 true _ _ _ rfl rfl rfl rfl rfl (by kernel_rfl) fun hg R' w' hw hs hd => by have a0 : R' 8 = .int .i64 y5 := (hs 8 rfl).trans h8; exact of_move a0) <|
                    Obls.cons (Obl.grd 20 true _ _ _ rfl rfl rfl rfl rfl (by kernel_rfl) fun hg R' w' hw hs hd => by have a0 : R' 113 = .int .i64 y5 := hd 0 _ _ _ rfl rfl rfl rfl hg; exact of_sub a0 rfl (gd e152 hg)) <|
                    Obls.cons (Obl.grd 20 true _ _ _ rfl rfl rfl rfl rfl (by kernel_rfl) fun hg R' w' hw hs hd => by have a0 : R' 112 = v0 := hd 0 _ _ _ rfl rfl rfl rfl hg; have ra0 := (f_v0.fr hw).eq a0; have a1 : R' 114 = .int .i64 (y5 - (2 : Int)) := hd 1 _ _ _ rfl rfl rfl rfl hg; exact of_strIndex ra0 a1 Try.underlying9 (gd e153 hg)) <|
                    Obls.cons (Obl.grd 20 true _ _ _ rfl rfl rfl rfl rfl (by kernel_rfl) fun hg R' w' hw hs hd => by have a0 : R' 1 = v1 := (hs 1 rfl).trans h1; exact of_move a0) <|
                    Obls.cons (Obl.grd 20 true _ _ _ rfl rfl rfl rfl rfl (by kernel_rfl) fun hg R' w' hw hs hd => by have a0 : R' 10 = .int .i64 y15 := (hs 10 rfl).trans h10; exact of_move a0) <|
                    Obls.cons (Obl.grd 20 true _ _ _ rfl rfl rfl rfl rfl (by kernel_rfl) fun hg R' w' hw hs hd => by have a0 : R' 117 = .int .i64 y15 := hd 0 _ _ _ rfl rfl rfl rfl hg; exact of_sub a0 rfl (gd e154 hg)) <|
                    Obls.cons (Obl.grd 20 true _ _ _ rfl rfl rfl rfl rfl (by kernel_rfl) fun hg R' w' hw hs hd => by have a0 : R' 116 = v1 := hd 0 _ _ _ rfl rfl rfl rfl hg; have ra0 := (f_v1.fr hw).eq a0; have a1 : R' 118 = .int .i64 (y15 - (1 : Int)) := hd 1 _ _ _ rfl rfl rfl rfl hg; exact of_strIndex ra0 a1 Try.underlying9 (gd e155 hg)) <|
                    Obls.cons (Obl.grd 20 true _ _ _ rfl rfl rfl rfl rfl (by kernel_rfl) fun hg R' w' hw hs hd => by have a0 : R' 115 = .int .u8 (bAt p0 (y5 - (2 : Int))) := hd 0 _ _ _ rfl rfl rfl rfl hg; have a1 : R' 119 = .int .u8 (bAt p1 (y15 - (1 : Int))) := hd 1 _ _ _ rfl rfl rfl rfl hg; exact of_eql a0 a1) <|
                    Obls.cons (Obl.plain rfl rfl fun R' w' hw hs hd => by have a0 : R' 111 = .bool x150 := hd 0 _ _ _ rfl rfl rfl rfl rfl; exact of_pick x150 a0 (fun hc => by have a1 : R' 120 = .bool ((bAt p0 (y5 - (2 : Int))) == (bAt p1 (y15 - (1 : Int)))) := hd 1 _ _ _ rfl rfl rfl rfl (g_and rfl (beq_of hc)); show _ = Value.bool x156; rw [q157, hc]; exact a1) (fun hc => by show _ = Value.bool x156; rw [q157, hc]; exact rfl)) <|
                    Obls.nil
                intro R w hw hs hF'
                replace h0 : R 0 = v0 := (hs 0 rfl).trans h0
                replace h1 : R 1 = v1 := (hs 1 rfl).trans h1
                replace h2 : R 2 = .bool p2 := (hs 2 rfl).trans h2
                replace h7 : R 7 = ul_u1 := (hs 7 rfl).trans h7
                replace h8 : R 8 = .int .i64 y5 := (hs 8 rfl).trans h8
                replace h9 : R 9 = u11 := (hs 9 rfl).trans h9
                replace h10 : R 10 = .int .i64 y15 := (hs 10 rfl).trans h10
                have h121 : R 121 = .bool x156 := hF' 30 _ _ rfl rfl rfl
                replace f_v0 := f_v0.fr hw
                replace f_v1 := f_v1.fr hw
                replace hO := hO.fr hw
                replace hA := hA.fr hw.size
                replace hF := hF.trans hw
                clear hs hF' hw
                refine seqR_nil ?_
                refine HT.cond x156 h121 (fun c158 => ?_) (fun c158 => ?_)
                · have hr := cnd_t c158 hr
                  obtain ⟨e159, hr⟩ := ck_some hr
                  obtain ⟨e160, hr⟩ := ck_some hr
                  obtain ⟨e161, hr⟩ := ck_some hr
                  obtain ⟨e162, hr⟩ := ck_some hr
                  obtain ⟨e163, hr⟩ := ck_some hr
                  obtain ⟨e164, hr⟩ := ck_some hr
                  obtain ⟨e165, hr⟩ := ck_some hr
                  refine HT.drawR [ob ul_u1 (.vec w0.heap.size 24 (eSl (eInt .i64)) y6), ob u11 (.vec w0.heap.size 3 (eInt .i64) (y16.set y15.toNat ((1 : Int) + (min (min (gtD (gtD y6 (y5 - (1 : Int))) y15) (gtD y16 (y15 - (1 : Int)))) (gtD (gtD y6 (y5 - (1 : Int))) (y15 - (1 : Int)))))))] (⟨_, true, [], none, true, fun A => .raw u11⟩ :: ⟨_, true, [], none, true, fun A => .raw (.int .i64 y15)⟩ :: ⟨_, true, [], none, true, fun A => .raw u11⟩ :: ⟨_, true, [], none, true, fun A => .raw (.int .i64 y15)⟩ :: ⟨_, true, [], none, true, fun A => .raw (vptr u11 (y15.toNat * 1))⟩ :: ⟨_, true, [], none, true, fun A => .raw (.int .i64 (gtD (y16.set y15.toNat ((1 : Int) + (min (min (gtD (gtD y6 (y5 - (1 : Int))) y15) (gtD y16 (y15 - (1 : Int)))) (gtD (gtD y6 (y5 - (1 : Int))) (y15 - (1 : Int)))))) y15))⟩ :: ⟨_, true, [], none, true, fun A => .raw ul_u1⟩ :: ⟨_, true, [], none, true, fun A => .raw (.int .i64 y5)⟩ :: ⟨_, true, [], none, true, fun A => .raw (.int .i64 (y5 - (2 : Int)))⟩ :: ⟨_, true, [], none, true, fun A => .raw (vptr ul_u1 ((y5 - (2 : Int)).toNat * 1))⟩ :: ⟨_, true, [], none, true, fun A => .rep (eSl (eInt .i64)) A (gtD y6 (y5 - (2 : Int)))⟩ :: ⟨_, true, [], none, true, fun A => .raw (.int .i64 y15)⟩ :: ⟨_, true, [], none, true, fun A => .raw (.int .i64 (y15 - (2 : Int)))⟩ :: ⟨_, true, [], none, true, fun A => .qtr (eInt .i64) A (gtD (gtD y6 (y5 - (2 : Int))) (y15 - (2 : Int)))⟩ :: ⟨_, true, [], none, true, fun A => .raw (.int .i64 (gtD (gtD y6 (y5 - (2 : Int))) (y15 - (2 : Int))))⟩ :: ⟨_, true, [], none, true, fun A => .raw (.int .i64 ((gtD (gtD y6 (y5 - (2 : Int))) (y15 - (2 : Int))) + (1 : Int)))⟩ :: ⟨_, true, [], none, true, fun A => .raw (.int .i64 (min (gtD (y16.set y15.toNat ((1 : Int) + (min (min (gtD (gtD y6 (y5 - (1 : Int))) y15) (gtD y16 (y15 - (1 : Int)))) (gtD (gtD y6 (y5 - (1 : Int))) (y15 - (1 : Int)))))) y15) ((gtD (gtD y6 (y5 - (2 : Int))) (y15 - (2 : Int))) + (1 : Int))))⟩ :: ⟨_, true, [], none, true, fun A => .raw (vptr u11 (y15.toNat * 1))⟩ :: ⟨_, true, [1], some (.vec w0.heap.size 3 (eInt .i64) ((y16.set y15.toNat ((1 : Int) + (min (min (gtD (gtD y6 (y5 - (1 : Int))) y15) (gtD y16 (y15 - (1 : Int)))) (gtD (gtD y6 (y5 - (1 : Int))) (y15 - (1 : Int)))))).set y15.toNat (min (gtD (y16.set y15.toNat ((1 : Int) + (min (min (gtD (gtD y6 (y5 - (1 : Int))) y15) (gtD y16 (y15 - (1 : Int)))) (gtD (gtD y6 (y5 - (1 : Int))) (y15 - (1 : Int)))))) y15) ((gtD (gtD y6 (y5 - (2 : Int))) (y15 - (2 : Int))) + (1 : Int))))), false, fun A => .any⟩ :: []) (by kernel_rfl) (by kernel_rfl) (by kernel_rfl) (Wf.mk' (by kernel_rfl) (UAll.cons ust_raw (UAll.cons ust_raw (UAll.cons ust_raw (UAll.cons ust_raw (UAll.cons ust_raw (UAll.cons ust_raw (UAll.cons ust_raw (UAll.cons ust_raw (UAll.cons ust_raw (UAll.cons ust_raw (UAll.cons ust_rep (UAll.cons ust_raw (UAll.cons ust_raw (UAll.cons ust_qtr (UAll.cons ust_raw (UAll.cons ust_raw (UAll.cons ust_raw (UAll.cons ust_raw (UAll.cons ust_any (UAll.nil)))))))))))))))))))) (by kernel_rfl) (by kernel_rfl)) hO hA ?_ ?_
                  · exact
                      OblsR.cons (OblR.plain rfl rfl rfl rfl fun A' R' w' ho hd => by have a0 : R' 9 = u11 := (ho.old 9 rfl).trans h9; exact of_move a0) <|
                      OblsR.cons (OblR.plain rfl rfl rfl rfl fun A' R' w' ho hd => by have a0 : R' 10 = .int .i64 y15 := (ho.old 10 rfl).trans h10; exact of_move a0) <|
                      OblsR.cons (OblR.plain rfl rfl rfl rfl fun A' R' w' ho hd => by have a0 : R' 9 = u11 := (ho.old 9 rfl).trans h9; exact of_move a0) <|
                      OblsR.cons (OblR.plain rfl rfl rfl rfl fun A' R' w' ho hd => by have a0 : R' 10 = .int .i64 y15 := (ho.old 10 rfl).trans h10; exact of_move a0) <|
                      OblsR.cons (OblR.plain rfl rfl rfl rfl fun A' R' w' ho hd => by have a0 : R' 124 = u11 := hd 0 _ _ _ rfl rfl rfl rfl rfl; have a1 : R' 125 = .int .i64 y15 := hd 1 _ _ _ rfl rfl rfl rfl rfl; exact of_indexAddr_vec (hO.ok 1 _ rfl).1 a0 a1 Try.underlying24 Try.sizeOf3 e159 rfl) <|
                      OblsR.cons (OblR.plain rfl rfl rfl rfl fun A' R' w' ho hd => by have a0 : R' 126 = (vptr u11 (y15.toNat * 1)) := hd 0 _ _ _ rfl rfl rfl rfl rfl; exact OpF.int (of_load_vec (ho.rd 1 _ rfl rfl) a0 e159 rfl (Fld.id _) rfl Try.isAgg3 Try.sizeOf3)) <|
                      OblsR.cons (OblR.plain rfl rfl rfl rfl fun A' R' w' ho hd => by have a0 : R' 7 = ul_u1 := (ho.old 7 rfl).trans h7; exact of_move a0) <|
                      OblsR.cons (OblR.plain rfl rfl rfl rfl fun A' R' w' ho hd => by have a0 : R' 8 = .int .i64 y5 := (ho.old 8 rfl).trans h8; exact of_move a0) <|
                      OblsR.cons (OblR.plain rfl rfl rfl rfl fun A' R' w' ho hd => by have a0 : R' 129 = .int .i64 y5 := hd 0 _ _ _ rfl rfl rfl rfl rfl; exact of_sub a0 rfl e160) <|
                      OblsR.cons (OblR.plain rfl rfl rfl rfl fun A' R' w' ho hd => by have a0 : R' 128 = ul_u1 := hd 0 _ _ _ rfl rfl rfl rfl rfl; have a1 : R' 130 = .int .i64 (y5 - (2 : Int)) := hd 1 _ _ _ rfl rfl rfl rfl rfl; exact of_indexAddr_vec (hO.ok 0 _ rfl).1 a0 a1 Try.underlying75 Try.sizeOf24 e161 rfl) <|
                      OblsR.cons (OblR.plain rfl rfl rfl rfl fun A' R' w' ho hd => by have a0 : R' 131 = (vptr ul_u1 ((y5 - (2 : Int)).toNat * 1)) := hd 0 _ _ _ rfl rfl rfl rfl rfl; exact (of_load_vec (ho.rd 0 _ rfl rfl) a0 e161 rfl (Fld.id _) rfl Try.isAgg24 Try.sizeOf24)) <|
                      OblsR.cons (OblR.plain rfl rfl rfl rfl fun A' R' w' ho hd => by have a0 : R' 10 = .int .i64 y15 := (ho.old 10 rfl).trans h10; exact of_move a0) <|
                      OblsR.cons (OblR.plain rfl rfl rfl rfl fun A' R' w' ho hd => by have a0 : R' 133 = .int .i64 y15 := hd 0 _ _ _ rfl rfl rfl rfl rfl; exact of_sub a0 rfl e162) <|
                      OblsR.cons (OblR.plain rfl rfl rfl rfl fun A' R' w' ho hd => by have a0 : Rep (eSl (eInt .i64)) A' w' (R' 132) (gtD y6 (y5 - (2 : Int))) := hd 0 _ _ _ rfl rfl rfl rfl rfl; have a1 : R' 134 = .int .i64 (y15 - (2 : Int)) := hd 1 _ _ _ rfl rfl rfl rfl rfl; exact of_indexAddr a0 a1 Try.underlying24 Try.sizeOf3 e163) <|
                      OblsR.cons (OblR.plain rfl rfl rfl rfl fun A' R' w' ho hd => by have a0 : QRep (eInt .i64) A' w' (R' 135) (gtD (gtD y6 (y5 - (2 : Int))) (y15 - (2 : Int))) := hd 0 _ _ _ rfl rfl rfl rfl rfl; exact OpF.int (of_load a0.ptr Try.isAgg3 Try.sizeOf3)) <|
                      OblsR.cons (OblR.plain rfl rfl rfl rfl fun A' R' w' ho hd => by have a0 : R' 136 = .int .i64 (gtD (gtD y6 (y5 - (2 : Int))) (y15 - (2 : Int))) := hd 0 _ _ _ rfl rfl rfl rfl rfl; exact of_add a0 rfl e164) <|
                      OblsR.cons (OblR.plain rfl rfl rfl rfl fun A' R' w' ho hd => by have a0 : R' 127 = .int .i64 (gtD (y16.set y15.toNat ((1 : Int) + (min (min (gtD (gtD y6 (y5 - (1 : Int))) y15) (gtD y16 (y15 - (1 : Int)))) (gtD (gtD y6 (y5 - (1 : Int))) (y15 - (1 : Int)))))) y15) := hd 0 _ _ _ rfl rfl rfl rfl rfl; have a1 : R' 137 = .int .i64 ((gtD (gtD y6 (y5 - (2 : Int))) (y15 - (2 : Int))) + (1 : Int)) := hd 1 _ _ _ rfl rfl rfl rfl rfl; exact of_min2 a0 a1) <|
                      OblsR.cons (OblR.plain rfl rfl rfl rfl fun A' R' w' ho hd => by have a0 : R' 122 = u11 := hd 0 _ _ _ rfl rfl rfl rfl rfl; have a1 : R' 123 = .int .i64 y15 := hd 1 _ _ _ rfl rfl rfl rfl rfl; exact of_indexAddr_vec (hO.ok 1 _ rfl).1 a0 a1 Try.underlying24 Try.sizeOf3 e165 rfl) <|
                      OblsR.cons (OblR.took 1 _ _ rfl rfl rfl rfl rfl fun A' R' w' ho hd u hok hav hin hop hds => by have a0 : R' 139 = (vptr u11 (y15.toNat * 1)) := hd 0 _ _ _ rfl rfl rfl rfl rfl; have a1 : R' 138 = .int .i64 (min (gtD (y16.set y15.toNat ((1 : Int) + (min (min (gtD (gtD y6 (y5 - (1 : Int))) y15) (gtD y16 (y15 - (1 : Int)))) (gtD (gtD y6 (y5 - (1 : Int))) (y15 - (1 : Int)))))) y15) ((gtD (gtD y6 (y5 - (2 : Int))) (y15 - (2 : Int))) + (1 : Int))) := hd 1 _ _ _ rfl rfl rfl rfl rfl; obtain rfl := hin _ rfl; exact took_vstore (rep_int.eq a1) hok hav a0 e165 rfl (FldS.id _) Try.sizeOf3 rfl) <|
                      OblsR.nil
                  intro done ρ σ A R w hdn hI
                  replace h0 : R 0 = v0 := (hI.reg rfl).trans h0
                  replace h1 : R 1 = v1 := (hI.reg rfl).trans h1
                  replace h2 : R 2 = .bool p2 := (hI.reg rfl).trans h2
                  replace h7 : R 7 = ul_u1 := (hI.reg rfl).trans h7
                  replace h8 : R 8 = .int .i64 y5 := (hI.reg rfl).trans h8
                  replace h9 : R 9 = u11 := (hI.reg rfl).trans h9
                  replace h10 : R 10 = .int .i64 y15 := (hI.reg rfl).trans h10
                  have z166 := hI.inivR 0 rfl
                  have z167 := hI.inivR 1 rfl
                  have z168 := (hI.opnR hdn 20 18 rfl rfl rfl rfl rfl).trans z167
                  replace f_v0 := f_v0.stp hI.stp
                  replace f_v1 := f_v1.stp hI.stp
                  replace hAA := hI.low' hAA hA0 (hO.ge (⟨rfl, ⟨rfl, trivial⟩⟩))
                  replace hF : Fr w0 w := hF.tr hI.ch (hO.ge (⟨rfl, ⟨rfl, trivial⟩⟩))
                  replace hO : IniOK [ob ul_u1 (.vec w0.heap.size 24 (eSl (eInt .i64)) y6), ob u11 (.vec w0.heap.size 3 (eInt .i64) ((y16.set y15.toNat ((1 : Int) + (min (min (gtD (gtD y6 (y5 - (1 : Int))) y15) (gtD y16 (y15 - (1 : Int)))) (gtD (gtD y6 (y5 - (1 : Int))) (y15 - (1 : Int)))))).set y15.toNat (min (gtD (y16.set y15.toNat ((1 : Int) + (min (min (gtD (gtD y6 (y5 - (1 : Int))) y15) (gtD y16 (y15 - (1 : Int)))) (gtD (gtD y6 (y5 - (1 : Int))) (y15 - (1 : Int)))))) y15) ((gtD (gtD y6 (y5 - (2 : Int))) (y15 - (2 : Int))) + (1 : Int)))))] A w := hI.left hdn [(0, ob ul_u1 (.vec w0.heap.size 24 (eSl (eInt .i64)) y6)), (20, ob u11 (.vec w0.heap.size 3 (eInt .i64) ((y16.set y15.toNat ((1 : Int) + (min (min (gtD (gtD y6 (y5 - (1 : Int))) y15) (gtD y16 (y15 - (1 : Int)))) (gtD (gtD y6 (y5 - (1 : Int))) (y15 - (1 : Int)))))).set y15.toNat (min (gtD (y16.set y15.toNat ((1 : Int) + (min (min (gtD (gtD y6 (y5 - (1 : Int))) y15) (gtD y16 (y15 - (1 : Int)))) (gtD (gtD y6 (y5 - (1 : Int))) (y15 - (1 : Int)))))) y15) ((gtD (gtD y6 (y5 - (2 : Int))) (y15 - (2 : Int))) + (1 : Int))))))] ⟨rfl, rfl, z166, rfl, rfl, ⟨rfl, rfl, z168, rfl, rfl, trivial⟩⟩
                  replace hA := hI.avok
                  clear hI
                  obtain ⟨e169, hr⟩ := ck_some hr
                  refine HT.text (l := ⟨_, true, .raw (.int .i64 y15)⟩ :: ⟨_, true, .raw (.int .i64 (y15 + (1 : Int)))⟩ :: ⟨_, true, .raw (.int .i64 (y15 + (1 : Int)))⟩ :: []) (tl := []) (by kernel_rfl) (by kernel_rfl) (by kernel_rfl) ?_ ?_
                  · exact
                      Obls.cons (Obl.plain rfl rfl fun R' w' hw hs hd => by have a0 : R' 10 = .int .i64 y15 := (hs 10 rfl).trans h10; exact of_move a0) <|
                      Obls.cons (Obl.plain rfl rfl fun R' w' hw hs hd => by have a0 : R' 26 = .int .i64 y15 := hd 0 _ _ _ rfl rfl rfl rfl rfl; exact of_add a0 rfl e169) <|
                      Obls.cons (Obl.plain rfl rfl fun R' w' hw hs hd => by have a0 : R' 27 = .int .i64 (y15 + (1 : Int)) := hd 0 _ _ _ rfl rfl rfl rfl rfl; exact of_assign a0) <|
                      Obls.nil
                  intro R w hw hs hF'
                  replace h0 : R 0 = v0 := (hs 0 rfl).trans h0
                  replace h1 : R 1 = v1 := (hs 1 rfl).trans h1
                  replace h2 : R 2 = .bool p2 := (hs 2 rfl).trans h2
                  replace h7 : R 7 = ul_u1 := (hs 7 rfl).trans h7
                  replace h8 : R 8 = .int .i64 y5 := (hs 8 rfl).trans h8
                  replace h9 : R 9 = u11 := (hs 9 rfl).trans h9
                  have h10 : R 10 = .int .i64 (y15 + (1 : Int)) := hF' 2 _ _ rfl rfl rfl
                  replace f_v0 := f_v0.fr hw
                  replace f_v1 := f_v1.fr hw
                  replace hO := hO.fr hw
                  replace hA := hA.fr hw.size
                  replace hF := hF.trans hw
                  clear hs hF' hw
                  refine seqR_nil ?_
                  exact Exists.intro k (And.intro (Nat.lt_succ_self k) ⟨_, _, _, hr, hA, hF, hAA, hO, h0, h1, h2, h7, h8, h9, h10, f_v0, f_v1⟩)
                · have hr := cnd_f c158 hr
                  refine HT.skip ?_
                  obtain ⟨e170, hr⟩ := ck_some hr
                  refine HT.text (l := ⟨_, true, .raw (.int .i64 y15)⟩ :: ⟨_, true, .raw (.int .i64 (y15 + (1 : Int)))⟩ :: ⟨_, true, .raw (.int .i64 (y15 + (1 : Int)))⟩ :: []) (tl := []) (by kernel_rfl) (by kernel_rfl) (by kernel_rfl) ?_ ?_
                  · exact
                      Obls.cons (Obl.plain rfl rfl fun R' w' hw hs hd => by have a0 : R' 10 = .int .i64 y15 := (hs 10 rfl).trans h10; exact of_move a0) <|
                      Obls.cons (Obl.plain rfl rfl fun R' w' hw hs hd => by have a0 : R' 26 = .int .i64 y15 := hd 0 _ _ _ rfl rfl rfl rfl rfl; exact of_add a0 rfl e170) <|
                      Obls.cons (Obl.plain rfl rfl fun R' w' hw hs hd => by have a0 : R' 27 = .int .i64 (y15 + (1 : Int)) := hd 0 _ _ _ rfl rfl rfl rfl rfl; exact of_assign a0) <|
                      Obls.nil
                  intro R w hw hs hF'
                  replace h0 : R 0 = v0 := (hs 0 rfl).trans h0
                  replace h1 : R 1 = v1 := (hs 1 rfl).trans h1
                  replace h2 : R 2 = .bool p2 := (hs 2 rfl).trans h2
                  replace h7 : R 7 = ul_u1 := (hs 7 rfl).trans h7
                  replace h8 : R 8 = .int .i64 y5 := (hs 8 rfl).trans h8
                  replace h9 : R 9 = u11 := (hs 9 rfl).trans h9
                  have h10 : R 10 = .int .i64 (y15 + (1 : Int)) := hF' 2 _ _ rfl rfl rfl
                  replace f_v0 := f_v0.fr hw
                  replace f_v1 := f_v1.fr hw
                  replace hO := hO.fr hw
                  replace hA := hA.fr hw.size
                  replace hF := hF.trans hw
                  clear hs hF' hw
                  refine seqR_nil ?_
                  exact Exists.intro k (And.intro (Nat.lt_succ_self k) ⟨_, _, _, hr, hA, hF, hAA, hO, h0, h1, h2, h7, h8, h9, h10, f_v0, f_v1⟩)
        · have hr := cnd_f c17 hr
          refine HT.exit ?_
          obtain rfl := Option.some.inj hr
          exact Exists.intro _ ⟨_, rfl, hA, hF, hAA, hO, h0, h1, h2, h7, h8, h9, f_v0, f_v1⟩
      rintro R w ⟨A, s14, es, hA, hF, hAA, hO, h0, h1, h2, h7, h8, h9, f_v0, f_v1⟩
      obtain rfl := es.symm
      obtain ⟨e171, hr⟩ := ck_some hr
      refine HT.textR [ob ul_u1 (.vec w0.heap.size 24 (eSl (eInt .i64)) y6), ob u11 (.vec w0.heap.size 3 (eInt .i64) s14)] (⟨_, true, [], none, true, fun A => .raw ul_u1⟩ :: ⟨_, true, [1], some (.nul), false, fun A => .rep (eSl (eInt .i64)) A s14⟩ :: ⟨_, true, [], none, true, fun A => .rep (eSl (eSl (eInt .i64))) A ([s14] : List (List Int))⟩ :: ⟨_, true, [0], some (.vec w0.heap.size 24 (eSl (eInt .i64)) (y6 ++ ([s14] : List (List Int)))), true, fun A => .any⟩ :: ⟨_, true, [5], some (.vec w0.heap.size 24 (eSl (eInt .i64)) (y6 ++ ([s14] : List (List Int)))), true, fun A => .any⟩ :: []) (by kernel_rfl) (by kernel_rfl) (Wf.mk' (by kernel_rfl) (UAll.cons ust_raw (UAll.cons ust_rep (UAll.cons ust_rep (UAll.cons ust_any (UAll.cons ust_any (UAll.nil)))))) (by kernel_rfl) (by kernel_rfl)) hO hA ?_ ?_
      · exact
          OblsR.cons (OblR.plain rfl rfl rfl rfl fun A' R' w' ho hd => by have a0 : R' 7 = ul_u1 := (ho.old 7 rfl).trans h7; exact of_move a0) <|
          OblsR.cons (OblR.frz 1 _ rfl rfl rfl rfl rfl fun A' R' w' ho hd u hok hav hin hop hds => by have a0 : R' 9 = u11 := (ho.old 9 rfl).trans h9; exact frz_move (a0.trans (hin _ rfl).symm) hok ho.av hav) <|
          OblsR.cons (OblR.plain rfl rfl rfl rfl fun A' R' w' ho hd => by have a0 : Rep (eSl (eInt .i64)) A' w' (R' 141) s14 := hd 0 _ _ _ rfl rfl rfl rfl rfl; exact of_build [_] (E := eSl (eInt .i64)) ⟨a0, trivial⟩ Try.underlying75 Try.sizeOf24 Try.zeroValue24 rfl rfl rfl ho.av) <|
          OblsR.cons (OblR.took 0 _ _ rfl rfl rfl rfl rfl fun A' R' w' ho hd u hok hav hin hop hds => by have a0 : R' 140 = ul_u1 := hd 0 _ _ _ rfl rfl rfl rfl rfl; have a1 : Rep (eSl (eSl (eInt .i64))) A' w' (R' 142) ([s14] : List (List Int)) := hd 1 _ _ _ rfl rfl rfl rfl rfl; exact took_append (a0.trans (hin _ rfl).symm) hok hav (Nat.le_trans hF.size ho.ch.size) a1 Try.underlying75 el_24 e171) <|
          OblsR.cons (OblR.took 5 _ _ rfl rfl rfl rfl rfl fun A' R' w' ho hd u hok hav hin hop hds => by exact took_assign (hop _ _ rfl rfl rfl rfl).symm hok hav) <|
          OblsR.nil
      intro done ρ σ A R w hdn hI
      replace h0 : R 0 = v0 := (hI.reg rfl).trans h0
      replace h1 : R 1 = v1 := (hI.reg rfl).trans h1
      replace h2 : R 2 = .bool p2 := (hI.reg rfl).trans h2
      replace h8 : R 8 = .int .i64 y5 := (hI.reg rfl).trans h8
      obtain ⟨u172, e_u172⟩ : ∃ u, ρ 6 = u := ⟨_, rfl⟩
      have h7 : R 7 = u172 := (hI.opvR hdn 6 4 rfl rfl rfl rfl rfl).symm.trans e_u172
      replace f_v0 := f_v0.stp hI.stp
      replace f_v1 := f_v1.stp hI.stp
      replace hAA := hI.low' hAA hA0 (hO.ge (⟨rfl, ⟨rfl, trivial⟩⟩))
      replace hF : Fr w0 w := hF.tr hI.ch (hO.ge (⟨rfl, ⟨rfl, trivial⟩⟩))
      replace hO : IniOK [ob u172 (.vec w0.heap.size 24 (eSl (eInt .i64)) (y6 ++ ([s14] : List (List Int))))] A w := hI.left hdn [(6, ob u172 (.vec w0.heap.size 24 (eSl (eInt .i64)) (y6 ++ ([s14] : List (List Int)))))] ⟨rfl, rfl, e_u172, rfl, rfl, trivial⟩
      replace hA := hI.avok
      clear hI
      obtain ⟨e173, hr⟩ := ck_some hr
      refine HT.text (l := ⟨_, true, .raw (.int .i64 y5)⟩ :: ⟨_, true, .raw (.int .i64 (y5 + (1 : Int)))⟩ :: ⟨_, true, .raw (.int .i64 (y5 + (1 : Int)))⟩ :: []) (tl := []) (by kernel_rfl) (by kernel_rfl) (by kernel_rfl) ?_ ?_
      · exact
          Obls.cons (Obl.plain rfl rfl fun R' w' hw hs hd => by have a0 : R' 8 = .int .i64 y5 := (hs 8 rfl).trans h8; exact of_move a0) <|
          Obls.cons (Obl.plain rfl rfl fun R' w' hw hs hd => by have a0 : R' 16 = .int .i64 y5 := hd 0 _ _ _ rfl rfl rfl rfl rfl; exact of_add a0 rfl e173) <|
          Obls.cons (Obl.plain rfl rfl fun R' w' hw hs hd => by have a0 : R' 17 = .int .i64 (y5 + (1 : Int)) := hd 0 _ _ _ rfl rfl rfl rfl rfl; exact of_assign a0) <|
          Obls.nil
      intro R w hw hs hF'
      replace h0 : R 0 = v0 := (hs 0 rfl).trans h0
      replace h1 : R 1 = v1 := (hs 1 rfl).trans h1
      replace h2 : R 2 = .bool p2 := (hs 2 rfl).trans h2
      replace h7 : R 7 = u172 := (hs 7 rfl).trans h7
      have h8 : R 8 = .int .i64 (y5 + (1 : Int)) := hF' 2 _ _ rfl rfl rfl
      replace f_v0 := f_v0.fr hw
      replace f_v1 := f_v1.fr hw
      replace hO := hO.fr hw
      replace hA := hA.fr hw.size
      replace hF := hF.trans hw
      clear hs hF' hw
      refine seqR_nil ?_
      exact Exists.intro k (And.intro (Nat.lt_succ_self k) ⟨_, _, _, u172, hr, hA, hF, hAA, hO, h0, h1, h2, h7, h8, f_v0, f_v1⟩)
    · have hr := cnd_f c7 hr
      refine HT.exit ?_
      obtain rfl := Option.some.inj hr
      exact Exists.intro _ ⟨_, ul_u1, rfl, hA, hF, hAA, hO, h7⟩
  rintro R w ⟨A, s4, uo_u1, es, hA, hF, hAA, hO, h7⟩
  obtain rfl := es.symm
  refine HT.seq ?_
  refine HT.text (l := ⟨_, true, .raw uo_u1⟩ :: ⟨_, true, .raw uo_u1⟩ :: []) (tl := []) (by kernel_rfl) (by kernel_rfl) (by kernel_rfl) ?_ ?_
  · exact
      Obls.cons (Obl.plain rfl rfl fun R' w' hw hs hd => by have a0 : R' 7 = uo_u1 := (hs 7 rfl).trans h7; exact of_move a0) <|
      Obls.cons (Obl.plain rfl rfl fun R' w' hw hs hd => by have a0 : R' 144 = uo_u1 := hd 0 _ _ _ rfl rfl rfl rfl rfl; exact of_assign a0) <|
      Obls.nil
  intro R w hw hs hF'
  have h6 : R 6 = uo_u1 := hF' 1 _ _ rfl rfl rfl
  replace hO := hO.fr hw
  replace hA := hA.fr hw.size
  replace hF := hF.trans hw
  clear hs hF' hw
  refine seqR_nil ?_
  refine HT.ret ?_
  obtain rfl := Option.some.inj hr
  exact ⟨.inr rfl, [R 6], ⟨rfl, trivial⟩, (own_post (hO.ok 0 _ rfl) hAA h6), hF⟩
theorem M_spec_l4Table_okR {fu : Nat} {A0 : Av} {p0 : List UInt8} {p1 : List UInt8} {p2 : Bool} {r : List (List Int)} (hr : M_spec_l4Table fu p0 p1 p2 = some r) {w : World} {v0 : Value} {v1 : Value} {v2 : Value} (hA : AvOK A0 w) (h0 : Rep eStr A0 w v0 p0) (h1 : Rep eStr A0 w v1 p1) (h2 : v2 = .bool p2) :
    Calls Try.prog 66 #[v0, v1, v2] w fun e w' => ∃ v, e = .returned v ∧ (Rep (eSl (eSl (eInt .i64))) A0 w' v r ∧ Fr w w') := by
  refine Calls.mono (M_spec_l4Table_ok hr hA h0 h1 h2) ?_
  rintro e w' ⟨v, he, hv, hf⟩
  exact ⟨v, he, vec_rep hv (fun b o h => .inl h) hA, hf⟩
end Go.Proofs.Ytofiipblinonoaa
