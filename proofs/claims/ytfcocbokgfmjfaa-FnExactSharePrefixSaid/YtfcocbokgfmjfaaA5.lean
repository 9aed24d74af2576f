/- Printed by dec.py: plain functions and the proofs that the code computes them. No statement of the seat is proved here. -/
import Derived.Test.YtfcocbokgfmjfaaA4
namespace Go.Proofs.Ytfcocbokgfmjfaa
open Go.RowKit
set_option linter.unusedVariables false
def M_laws_markText_L0 (fu : Nat) : Nat → Int → (List UInt8) → Option (List UInt8)
  | 0, _, _ => none
  | k + 1, y7, y8 =>
    bif (decide ((0 : Int) < y7)) then (
      ck ((10 : Int) != 0) <|
      ck (i64B ((48 : Int) + (y7.tmod (10 : Int)))) <|
      ck (lenOK ((strB ([(IntKind.u8.wrap ((48 : Int) + (y7.tmod (10 : Int))))] : List Int)) ++ y8).length) <|
      ck ((10 : Int) != 0) <|
      ck (i64B (y7.tdiv (10 : Int))) <|
      M_laws_markText_L0 fu k (y7.tdiv (10 : Int)) ((strB ([(IntKind.u8.wrap ((48 : Int) + (y7.tmod (10 : Int))))] : List Int)) ++ y8)
    ) else (
      some y8
    )
def M_laws_markText (fu : Nat) (p0 : Int) : Option (List UInt8) :=
  bif (decide (p0 ≤ (0 : Int))) then (
    some ([109, 48] : List UInt8)
  ) else (
    cl true (M_laws_markText_L0 fu fu p0 ([] : List UInt8)) fun s6 =>
    ck (lenOK (([109] : List UInt8) ++ s6).length) <|
    some (([109] : List UInt8) ++ s6)
  )
set_option maxRecDepth 100000 in
set_option maxHeartbeats 4000000 in
theorem M_laws_markText_ok {fu : Nat} {A : Av} {p0 : Int} {r : List UInt8} (hr : M_laws_markText fu p0 = some r) {w : World} {v0 : Value} (hA : AvOK A w) (h0 : v0 = .int .i64 p0) :
    Calls Try.prog 69 #[v0] w fun e w' => ∃ v, e = .returned v ∧ (Rep eStr A w' v r ∧ Fr w w') := by
  unfold M_laws_markText at hr
  obtain ⟨w0, hw0⟩ : ∃ w0, w0 = w := ⟨_, rfl⟩
  have hF : Fr w0 w := hw0 ▸ Fr.refl _
  rw [show Fr w = Fr w0 from hw0 ▸ rfl]
  clear hw0
  refine calls_of_HT2 [.tmp 2] Try.func69 Try.ntmps69 (by decide) rfl rfl (Nat.le_of_ble_eq_true rfl) ?_
  intro R hR
  replace h0 : R 0 = .int .i64 p0 := (hR 0 _ rfl).trans h0
  clear hR
  refine HT.seq ?_
  refine HT.text (l := ⟨_, true, .rep eStr A ([] : List UInt8)⟩ :: []) (tl := []) (by kernel_rfl) (by kernel_rfl) (by kernel_rfl) ?_ ?_
  · exact
      Obls.cons (Obl.plain rfl rfl fun R' w' hw hs hd => by exact of_assign ⟨_, rfl, ⟨_, rfl, rfl, by decide⟩⟩) <|
      Obls.nil
  intro R w hw hs hF'
  replace h0 : R 0 = .int .i64 p0 := (hs 0 rfl).trans h0
  replace hA := hA.fr hw.size
  replace hF := hF.trans hw
  clear hs hF' hw
  refine seqR_nil ?_
  refine HT.seq ?_
  refine HT.seq ?_
  refine HT.text (l := ⟨_, true, .raw (.int .i64 p0)⟩ :: ⟨_, true, .raw (.bool (decide (p0 ≤ (0 : Int))))⟩ :: []) (tl := []) (by kernel_rfl) (by kernel_rfl) (by kernel_rfl) ?_ ?_
  · exact
      Obls.cons (Obl.plain rfl rfl fun R' w' hw hs hd => by have a0 : R' 0 = .int .i64 p0 := (hs 0 rfl).trans h0; exact of_move a0) <|
      Obls.cons (Obl.plain rfl rfl fun R' w' hw hs hd => by have a0 : R' 4 = .int .i64 p0 := hd 0 _ _ _ rfl rfl rfl rfl rfl; exact of_leq a0 rfl) <|
      Obls.nil
  intro R w hw hs hF'
  replace h0 : R 0 = .int .i64 p0 := (hs 0 rfl).trans h0
  have h5 : R 5 = .bool (decide (p0 ≤ (0 : Int))) := hF' 1 _ _ rfl rfl rfl
  replace hA := hA.fr hw.size
  replace hF := hF.trans hw
  clear hs hF' hw
  refine seqR_nil ?_
  refine HT.cond (decide (p0 ≤ (0 : Int))) h5 (fun c1 => ?_) (fun c1 => ?_)
  · have hr := cnd_t c1 hr
    refine HT.seq ?_
    refine HT.text (l := ⟨_, true, .rep eStr A ([109, 48] : List UInt8)⟩ :: []) (tl := []) (by kernel_rfl) (by kernel_rfl) (by kernel_rfl) ?_ ?_
    · exact
        Obls.cons (Obl.plain rfl rfl fun R' w' hw hs hd => by exact of_assign ⟨_, rfl, ⟨_, rfl, rfl, by decide⟩⟩) <|
        Obls.nil
    intro R w hw hs hF'
    obtain ⟨u2, h2, f_u2⟩ : ∃ u, R 2 = u ∧ Rep eStr A w u ([109, 48] : List UInt8) := ⟨_, rfl, hF' 0 _ _ rfl rfl rfl⟩
    replace hA := hA.fr hw.size
    replace hF := hF.trans hw
    clear hs hF' hw
    refine seqR_nil ?_
    refine HT.ret ?_
    obtain rfl := Option.some.inj hr
    exact ⟨.inr rfl, [R 2], ⟨rfl, trivial⟩, (f_u2.eq h2), hF⟩
  · have hr := cnd_f c1 hr
    refine HT.skip ?_
    refine HT.seq ?_
    refine HT.text (l := ⟨_, true, .rep eStr A ([] : List UInt8)⟩ :: []) (tl := []) (by kernel_rfl) (by kernel_rfl) (by kernel_rfl) ?_ ?_
    · exact
        Obls.cons (Obl.plain rfl rfl fun R' w' hw hs hd => by exact of_assign ⟨_, rfl, ⟨_, rfl, rfl, by decide⟩⟩) <|
        Obls.nil
    intro R w hw hs hF'
    replace h0 : R 0 = .int .i64 p0 := (hs 0 rfl).trans h0
    obtain ⟨u3, h3, f_u3⟩ : ∃ u, R 3 = u ∧ Rep eStr A w u ([] : List UInt8) := ⟨_, rfl, hF' 0 _ _ rfl rfl rfl⟩
    replace hA := hA.fr hw.size
    replace hF := hF.trans hw
    clear hs hF' hw
    refine seqR_nil ?_
    obtain ⟨rl4, q5, hr⟩ := cl_some hr
    replace q5 := q5 rfl
    refine HT.cut (fun R w => ∃ (s6 : (List UInt8)) (wo_3 : Value), rl4 = s6 ∧ AvOK A w ∧ Fr w0 w ∧ R 3 = wo_3 ∧ Rep eStr A w wo_3 s6) ?_ ?_
    · refine HT.block ?_
      refine HT.loop (fun k R w => ∃ (y7 : Int) (y8 : List UInt8) (wl_3 : Value), M_laws_markText_L0 fu k y7 y8 = some rl4 ∧ AvOK A w ∧ Fr w0 w ∧ R 0 = .int .i64 y7 ∧ R 3 = wl_3 ∧ Rep eStr A w wl_3 y8) fu ⟨_, _, u3, q5, hA, hF, h0, h3, f_u3⟩ ?_
      have hr0 := hr; clear hr q5
      rintro k R w ⟨y7, y8, wl_3, hr, hA, hF, h0, h3, f_wl_3⟩
      rcases k with _ | k
      · cases (show none = some _ from hr)
      rw [M_laws_markText_L0] at hr
      refine HT.seq ?_
      refine HT.seq ?_
      refine HT.text (l := ⟨_, true, .raw (.int .i64 y7)⟩ :: ⟨_, true, .raw (.bool (decide ((0 : Int) < y7)))⟩ :: []) (tl := []) (by kernel_rfl) (by kernel_rfl) (by kernel_rfl) ?_ ?_
      · exact
          Obls.cons (Obl.plain rfl rfl fun R' w' hw hs hd => by have a0 : R' 0 = .int .i64 y7 := (hs 0 rfl).trans h0; exact of_move a0) <|
          Obls.cons (Obl.plain rfl rfl fun R' w' hw hs hd => by have a0 : R' 6 = .int .i64 y7 := hd 0 _ _ _ rfl rfl rfl rfl rfl; exact of_gtr a0 rfl) <|
          Obls.nil
      intro R w hw hs hF'
      replace h0 : R 0 = .int .i64 y7 := (hs 0 rfl).trans h0
      replace h3 : R 3 = wl_3 := (hs 3 rfl).trans h3
      have h7 : R 7 = .bool (decide ((0 : Int) < y7)) := hF' 1 _ _ rfl rfl rfl
      replace f_wl_3 := f_wl_3.fr hw
      replace hA := hA.fr hw.size
      replace hF := hF.trans hw
      clear hs hF' hw
      refine seqR_nil ?_
      refine HT.cond (decide ((0 : Int) < y7)) h7 (fun c9 => ?_) (fun c9 => ?_)
      · have hr := cnd_t c9 hr
        refine HT.skip ?_
        refine HT.block ?_
        refine HT.seq ?_
        obtain ⟨e10, hr⟩ := ck_some hr
        obtain ⟨e11, hr⟩ := ck_some hr
        obtain ⟨e12, hr⟩ := ck_some hr
        refine HT.text (l := ⟨_, true, .raw (.int .i64 y7)⟩ :: ⟨_, true, .raw (.int .i64 (y7.tmod (10 : Int)))⟩ :: ⟨_, true, .raw (.int .i64 ((48 : Int) + (y7.tmod (10 : Int))))⟩ :: ⟨_, true, .raw (.int .u8 (IntKind.u8.wrap ((48 : Int) + (y7.tmod (10 : Int)))))⟩ :: ⟨_, true, .rep (eSl (eInt .u8)) A ([(IntKind.u8.wrap ((48 : Int) + (y7.tmod (10 : Int))))] : List Int)⟩ :: ⟨_, true, .rep eStr A (strB ([(IntKind.u8.wrap ((48 : Int) + (y7.tmod (10 : Int))))] : List Int))⟩ :: ⟨_, true, .raw wl_3⟩ :: ⟨_, true, .rep eStr A ((strB ([(IntKind.u8.wrap ((48 : Int) + (y7.tmod (10 : Int))))] : List Int)) ++ y8)⟩ :: ⟨_, true, .rep eStr A ((strB ([(IntKind.u8.wrap ((48 : Int) + (y7.tmod (10 : Int))))] : List Int)) ++ y8)⟩ :: []) (tl := []) (by kernel_rfl) (by kernel_rfl) (by kernel_rfl) ?_ ?_
        · exact
            Obls.cons (Obl.plain rfl rfl fun R' w' hw hs hd => by have a0 : R' 0 = .int .i64 y7 := (hs 0 rfl).trans h0; exact of_move a0) <|
            Obls.cons (Obl.plain rfl rfl fun R' w' hw hs hd => by have a0 : R' 8 = .int .i64 y7 := hd 0 _ _ _ rfl rfl rfl rfl rfl; exact of_rem a0 rfl e10) <|
            Obls.cons (Obl.plain rfl rfl fun R' w' hw hs hd => by have a1 : R' 9 = .int .i64 (y7.tmod (10 : Int)) := hd 0 _ _ _ rfl rfl rfl rfl rfl; exact of_add rfl a1 e11) <|
            Obls.cons (Obl.plain rfl rfl fun R' w' hw hs hd => by have a0 : R' 10 = .int .i64 ((48 : Int) + (y7.tmod (10 : Int))) := hd 0 _ _ _ rfl rfl rfl rfl rfl; exact of_conv_int a0 Try.underlying3 Try.underlying5) <|
            Obls.cons (Obl.plain rfl rfl fun R' w' hw hs hd => by have a0 : R' 11 = .int .u8 (IntKind.u8.wrap ((48 : Int) + (y7.tmod (10 : Int)))) := hd 0 _ _ _ rfl rfl rfl rfl rfl; exact of_build [_] (E := eInt .u8) ⟨(rep_int.eq a0), trivial⟩ Try.underlying112 Try.sizeOf5 Try.zeroValue5 rfl rfl rfl (hA.fr hw.size)) <|
            Obls.cons (Obl.plain rfl rfl fun R' w' hw hs hd => by have a0 : Rep (eSl (eInt .u8)) A w' (R' 12) ([(IntKind.u8.wrap ((48 : Int) + (y7.tmod (10 : Int))))] : List Int) := hd 0 _ _ _ rfl rfl rfl rfl rfl; exact of_conv_bytes a0 Try.underlying112 Try.underlying5 Try.underlying9) <|
            Obls.cons (Obl.plain rfl rfl fun R' w' hw hs hd => by have a0 : R' 3 = wl_3 := (hs 3 rfl).trans h3; exact of_move a0) <|
            Obls.cons (Obl.plain rfl rfl fun R' w' hw hs hd => by have a0 : Rep eStr A w' (R' 13) (strB ([(IntKind.u8.wrap ((48 : Int) + (y7.tmod (10 : Int))))] : List Int)) := hd 0 _ _ _ rfl rfl rfl rfl rfl; have a1 : R' 14 = wl_3 := hd 1 _ _ _ rfl rfl rfl rfl rfl; have ra1 := (f_wl_3.fr hw).eq a1; exact of_cat a0 ra1 e12) <|
            Obls.cons (Obl.plain rfl rfl fun R' w' hw hs hd => by have a0 : Rep eStr A w' (R' 15) ((strB ([(IntKind.u8.wrap ((48 : Int) + (y7.tmod (10 : Int))))] : List Int)) ++ y8) := hd 0 _ _ _ rfl rfl rfl rfl rfl; exact of_assign a0) <|
            Obls.nil
        intro R w hw hs hF'
        replace h0 : R 0 = .int .i64 y7 := (hs 0 rfl).trans h0
        obtain ⟨u13, h3, f_u13⟩ : ∃ u, R 3 = u ∧ Rep eStr A w u ((strB ([(IntKind.u8.wrap ((48 : Int) + (y7.tmod (10 : Int))))] : List Int)) ++ y8) := ⟨_, rfl, hF' 8 _ _ rfl rfl rfl⟩
        replace hA := hA.fr hw.size
        replace hF := hF.trans hw
        clear hs hF' hw
        refine seqR_nil ?_
        obtain ⟨e14, hr⟩ := ck_some hr
        obtain ⟨e15, hr⟩ := ck_some hr
        refine HT.text (l := ⟨_, true, .raw (.int .i64 y7)⟩ :: ⟨_, true, .raw (.int .i64 (y7.tdiv (10 : Int)))⟩ :: ⟨_, true, .raw (.int .i64 (y7.tdiv (10 : Int)))⟩ :: []) (tl := []) (by kernel_rfl) (by kernel_rfl) (by kernel_rfl) ?_ ?_
        · exact
            Obls.cons (Obl.plain rfl rfl fun R' w' hw hs hd => by have a0 : R' 0 = .int .i64 y7 := (hs 0 rfl).trans h0; exact of_move a0) <|
            Obls.cons (Obl.plain rfl rfl fun R' w' hw hs hd => by have a0 : R' 16 = .int .i64 y7 := hd 0 _ _ _ rfl rfl rfl rfl rfl; exact of_quo a0 rfl e14 e15) <|
            Obls.cons (Obl.plain rfl rfl fun R' w' hw hs hd => by have a0 : R' 17 = .int .i64 (y7.tdiv (10 : Int)) := hd 0 _ _ _ rfl rfl rfl rfl rfl; exact of_assign a0) <|
            Obls.nil
        intro R w hw hs hF'
        replace h3 : R 3 = u13 := (hs 3 rfl).trans h3
        have h0 : R 0 = .int .i64 (y7.tdiv (10 : Int)) := hF' 2 _ _ rfl rfl rfl
        replace f_u13 := f_u13.fr hw
        replace hA := hA.fr hw.size
        replace hF := hF.trans hw
        clear hs hF' hw
        refine seqR_nil ?_
        exact Exists.intro k (And.intro (Nat.lt_succ_self k) ⟨_, _, u13, hr, hA, hF, h0, h3, f_u13⟩)
      · have hr := cnd_f c9 hr
        refine HT.exit ?_
        obtain rfl := Option.some.inj hr
        exact Exists.intro _ ⟨wl_3, rfl, hA, hF, h3, f_wl_3⟩
    rintro R w ⟨s6, wo_3, es, hA, hF, h3, f_wo_3⟩
    obtain rfl := es.symm
    refine HT.seq ?_
    obtain ⟨e16, hr⟩ := ck_some hr
    refine HT.text (l := ⟨_, true, .raw wo_3⟩ :: ⟨_, true, .rep eStr A (([109] : List UInt8) ++ s6)⟩ :: ⟨_, true, .rep eStr A (([109] : List UInt8) ++ s6)⟩ :: []) (tl := []) (by kernel_rfl) (by kernel_rfl) (by kernel_rfl) ?_ ?_
    · exact
        Obls.cons (Obl.plain rfl rfl fun R' w' hw hs hd => by have a0 : R' 3 = wo_3 := (hs 3 rfl).trans h3; exact of_move a0) <|
        Obls.cons (Obl.plain rfl rfl fun R' w' hw hs hd => by have a1 : R' 18 = wo_3 := hd 0 _ _ _ rfl rfl rfl rfl rfl; have ra1 := (f_wo_3.fr hw).eq a1; exact of_cat ⟨_, rfl, ⟨_, rfl, rfl, by decide⟩⟩ ra1 e16) <|
        Obls.cons (Obl.plain rfl rfl fun R' w' hw hs hd => by have a0 : Rep eStr A w' (R' 19) (([109] : List UInt8) ++ s6) := hd 0 _ _ _ rfl rfl rfl rfl rfl; exact of_assign a0) <|
        Obls.nil
    intro R w hw hs hF'
    obtain ⟨u17, h2, f_u17⟩ : ∃ u, R 2 = u ∧ Rep eStr A w u (([109] : List UInt8) ++ s6) := ⟨_, rfl, hF' 2 _ _ rfl rfl rfl⟩
    replace hA := hA.fr hw.size
    replace hF := hF.trans hw
    clear hs hF' hw
    refine seqR_nil ?_
    refine HT.ret ?_
    obtain rfl := Option.some.inj hr
    exact ⟨.inr rfl, [R 2], ⟨rfl, trivial⟩, (f_u17.eq h2), hF⟩
def M_laws_markTokenCountS_L0 (fu : Nat) : Nat → Int → Int → (List T_impl_TokenCount) → Option (Int × (List T_impl_TokenCount))
  | 0, _, _, _ => none
  | k + 1, y4, y5, y6 =>
    bif (decide (y5 < (y6.length : Int))) then (
      cl true (M_laws_markText fu y4) fun x8 =>
      ck (inR y5 y6.length) <|
      ck (i64B (y4 + (1 : Int))) <|
      ck (inR y5 (y6.set y5.toNat (x8, (gtD y6 y5).2)).length) <|
      ck (i64B ((y4 + (1 : Int)) + (1 : Int))) <|
      ck (i64B (y5 + (1 : Int))) <|
      M_laws_markTokenCountS_L0 fu k ((y4 + (1 : Int)) + (1 : Int)) (y5 + (1 : Int)) ((y6.set y5.toNat (x8, (gtD y6 y5).2)).set y5.toNat ((gtD (y6.set y5.toNat (x8, (gtD y6 y5).2)) y5).1, (y4 + (1 : Int))))
    ) else (
      some (y4, y6)
    )
def M_laws_markTokenCountS (fu : Nat) (p0 : List T_impl_TokenCount) (p1 : Int) : Option (Int × List T_impl_TokenCount) :=
  cl true (M_laws_markTokenCountS_L0 fu fu p1 (0 : Int) p0) fun s3 =>
  some (s3.1, s3.2)
set_option maxRecDepth 100000 in
set_option maxHeartbeats 4000000 in
theorem M_laws_markTokenCountS_ok {fu : Nat} {A0 : Av} {p0 : List T_impl_TokenCount} {p1 : Int} {r : Int × List T_impl_TokenCount} (hr : M_laws_markTokenCountS fu p0 p1 = some r) {w : World} {v0 : Value} {v1 : Value} {B0 : Nat} (hA : AvOK A0 w) (hN : ∀ b o, A0 b o → ¬ ownsB v0 b) (h0 : (Res.vec B0 76 E_impl_TokenCount p0).ok A0 v0 w) (h1 : v1 = .int .i64 p1) :
    Calls Try.prog 21 #[v0, v1] w fun e w' => ∃ v, e = .returned v ∧ (v = .int .i64 r.1 ∧ (Res.vec B0 76 E_impl_TokenCount r.2).ok A0 v0 w' ∧ Ch (ownsB v0) w w') := by
  unfold M_laws_markTokenCountS at hr
  obtain ⟨w0, hw0⟩ : ∃ w0, w0 = w := ⟨_, rfl⟩
  have hF : Ch (ownsB v0) w0 w := hw0 ▸ Ch.refl _ _
  have hA0 : ∀ b o, A0 b o → b < w0.heap.size := fun b o h => hw0 ▸ hA b o h
  have hA00 : AvOK A0 w0 := hA0
  rw [show Ch (ownsB v0) w = Ch (ownsB v0) w0 from hw0 ▸ rfl]
  clear hw0
  obtain ⟨A, hAe⟩ : ∃ A, A = addA A0 v0 := ⟨_, rfl⟩
  have hAA : ∀ b o, A0 b o → A b o := fun b o h => hAe ▸ .inl h
  replace hA : AvOK A w := hAe ▸ hA.one h0
  have hO : IniOK [ob v0 (.vec B0 76 E_impl_TokenCount p0)] A w := hAe ▸ IniOK.one h0 (fun _ _ _ _ _ h => h)
  refine calls_of_HT2 [.tmp 4] Try.func21 Try.ntmps21 (by decide) rfl rfl (Nat.le_of_ble_eq_true rfl) ?_
  intro R hR
  replace h0 : R 0 = v0 := hR 0 _ rfl
  replace h1 : R 1 = .int .i64 p1 := (hR 1 _ rfl).trans h1
  clear hR hAe
  refine HT.seq ?_
  refine HT.text (l := ⟨_, true, .raw (.int .i64 (0 : Int))⟩ :: []) (tl := []) (by kernel_rfl) (by kernel_rfl) (by kernel_rfl) ?_ ?_
  · exact
      Obls.cons (Obl.plain rfl rfl fun R' w' hw hs hd => by exact of_assign rfl) <|
      Obls.nil
  intro R w hw hs hF'
  replace h0 : R 0 = v0 := (hs 0 rfl).trans h0
  replace h1 : R 1 = .int .i64 p1 := (hs 1 rfl).trans h1
  replace hO := hO.fr hw
  replace hA := hA.fr hw.size
  replace hF := hF.tr (hw.ch noB) fun _ h => False.elim h
  clear hs hF' hw
  refine seqR_nil ?_
  refine HT.seq ?_
  refine HT.seq ?_
  refine HT.text (l := ⟨_, true, .raw (.int .i64 (0 : Int))⟩ :: []) (tl := []) (by kernel_rfl) (by kernel_rfl) (by kernel_rfl) ?_ ?_
  · exact
      Obls.cons (Obl.plain rfl rfl fun R' w' hw hs hd => by exact of_assign rfl) <|
      Obls.nil
  intro R w hw hs hF'
  replace h0 : R 0 = v0 := (hs 0 rfl).trans h0
  replace h1 : R 1 = .int .i64 p1 := (hs 1 rfl).trans h1
  have h5 : R 5 = .int .i64 (0 : Int) := hF' 0 _ _ rfl rfl rfl
  replace hO := hO.fr hw
  replace hA := hA.fr hw.size
  replace hF := hF.tr (hw.ch noB) fun _ h => False.elim h
  clear hs hF' hw
  refine seqR_nil ?_
  obtain ⟨rl1, q2, hr⟩ := cl_some hr
  replace q2 := q2 rfl
  refine HT.cut0 (fun R w => ∃ A : Av, ∃ (s3 : Int × (List T_impl_TokenCount)), rl1 = s3 ∧ AvOK A w ∧ Ch (ownsB v0) w0 w ∧ (∀ b o, A0 b o → A b o) ∧ IniOK [ob v0 (.vec B0 76 E_impl_TokenCount s3.2)] A w ∧ R 1 = .int .i64 s3.1) ?_ ?_
  · refine HT.block ?_
    refine HT.loop (fun k R w => ∃ A : Av, ∃ (y4 : Int) (y5 : Int) (y6 : List T_impl_TokenCount), M_laws_markTokenCountS_L0 fu k y4 y5 y6 = some rl1 ∧ AvOK A w ∧ Ch (ownsB v0) w0 w ∧ (∀ b o, A0 b o → A b o) ∧ IniOK [ob v0 (.vec B0 76 E_impl_TokenCount y6)] A w ∧ R 0 = v0 ∧ R 1 = .int .i64 y4 ∧ R 5 = .int .i64 y5) fu ⟨_, _, _, _, q2, hA, hF, hAA, hO, h0, h1, h5⟩ ?_
    have hr0 := hr; clear hr q2
    rintro k R w ⟨A, y4, y5, y6, hr, hA, hF, hAA, hO, h0, h1, h5⟩
    rcases k with _ | k
    · cases (show none = some _ from hr)
    rw [M_laws_markTokenCountS_L0] at hr
    refine HT.seq ?_
    refine HT.seq ?_
    refine HT.text (l := ⟨_, true, .raw (.int .i64 y5)⟩ :: ⟨_, true, .raw v0⟩ :: ⟨_, true, .raw (.int .i64 (y6.length : Int))⟩ :: ⟨_, true, .raw (.bool (decide (y5 < (y6.length : Int))))⟩ :: []) (tl := []) (by kernel_rfl) (by kernel_rfl) (by kernel_rfl) ?_ ?_
    · exact
        Obls.cons (Obl.plain rfl rfl fun R' w' hw hs hd => by have a0 : R' 5 = .int .i64 y5 := (hs 5 rfl).trans h5; exact of_move a0) <|
        Obls.cons (Obl.plain rfl rfl fun R' w' hw hs hd => by have a0 : R' 0 = v0 := (hs 0 rfl).trans h0; exact of_move a0) <|
        Obls.cons (Obl.plain rfl rfl fun R' w' hw hs hd => by have a0 : R' 7 = v0 := hd 0 _ _ _ rfl rfl rfl rfl rfl; exact of_len_vec (hO.ok 0 _ rfl).1 a0 Try.underlying27) <|
        Obls.cons (Obl.plain rfl rfl fun R' w' hw hs hd => by have a0 : R' 6 = .int .i64 y5 := hd 0 _ _ _ rfl rfl rfl rfl rfl; have a1 : R' 8 = .int .i64 (y6.length : Int) := hd 1 _ _ _ rfl rfl rfl rfl rfl; exact of_lss a0 a1) <|
        Obls.nil
    intro R w hw hs hF'
    replace h0 : R 0 = v0 := (hs 0 rfl).trans h0
    replace h1 : R 1 = .int .i64 y4 := (hs 1 rfl).trans h1
    replace h5 : R 5 = .int .i64 y5 := (hs 5 rfl).trans h5
    have h9 : R 9 = .bool (decide (y5 < (y6.length : Int))) := hF' 3 _ _ rfl rfl rfl
    replace hO := hO.fr hw
    replace hA := hA.fr hw.size
    replace hF := hF.tr (hw.ch noB) fun _ h => False.elim h
    clear hs hF' hw
    refine seqR_nil ?_
    refine HT.cond (decide (y5 < (y6.length : Int))) h9 (fun c7 => ?_) (fun c7 => ?_)
    · have hr := cnd_t c7 hr
      refine HT.skip ?_
      refine HT.seq ?_
      refine HT.block ?_
      refine HT.seq ?_
      obtain ⟨x8, q9, hr⟩ := cl_some hr
      obtain ⟨e10, hr⟩ := ck_some hr
      refine HT.textR [ob v0 (.vec B0 76 E_impl_TokenCount y6)] (⟨_, true, [], none, true, fun A => .raw v0⟩ :: ⟨_, true, [], none, true, fun A => .raw (.int .i64 y5)⟩ :: ⟨_, true, [], none, true, fun A => .raw (.int .i64 y4)⟩ :: ⟨_, true, [], none, true, fun A => .rep eStr A x8⟩ :: ⟨_, true, [], none, true, fun A => .raw (vptr v0 (y5.toNat * 2))⟩ :: ⟨_, true, [], none, true, fun A => .raw (vptr v0 (y5.toNat * 2 + 0))⟩ :: ⟨_, true, [0], some (.vec B0 76 E_impl_TokenCount (y6.set y5.toNat (x8, (gtD y6 y5).2))), false, fun A => .any⟩ :: []) (by kernel_rfl) (by kernel_rfl) (Wf.mk' (by kernel_rfl) (UAll.cons ust_raw (UAll.cons ust_raw (UAll.cons ust_raw (UAll.cons ust_rep (UAll.cons ust_raw (UAll.cons ust_raw (UAll.cons ust_any (UAll.nil)))))))) (by kernel_rfl) (by kernel_rfl)) hO hA ?_ ?_
      · exact
          OblsR.cons (OblR.plain rfl rfl rfl rfl fun A' R' w' ho hd => by have a0 : R' 0 = v0 := (ho.old 0 rfl).trans h0; exact of_move a0) <|
          OblsR.cons (OblR.plain rfl rfl rfl rfl fun A' R' w' ho hd => by have a0 : R' 5 = .int .i64 y5 := (ho.old 5 rfl).trans h5; exact of_move a0) <|
          OblsR.cons (OblR.plain rfl rfl rfl rfl fun A' R' w' ho hd => by have a0 : R' 1 = .int .i64 y4 := (ho.old 1 rfl).trans h1; exact of_move a0) <|
          OblsR.cons (OblR.plain rfl rfl rfl rfl fun A' R' w' ho hd => by have a0 : R' 14 = .int .i64 y4 := hd 0 _ _ _ rfl rfl rfl rfl rfl; exact of_call Try.call69 (M_laws_markText_ok (q9 rfl) ho.av a0)) <|
          OblsR.cons (OblR.plain rfl rfl rfl rfl fun A' R' w' ho hd => by have a0 : R' 12 = v0 := hd 0 _ _ _ rfl rfl rfl rfl rfl; have a1 : R' 13 = .int .i64 y5 := hd 1 _ _ _ rfl rfl rfl rfl rfl; exact of_indexAddr_vec (hO.ok 0 _ rfl).1 a0 a1 Try.underlying27 Try.sizeOf76 e10 rfl) <|
          OblsR.cons (OblR.plain rfl rfl rfl rfl fun A' R' w' ho hd => by have a0 : R' 16 = (vptr v0 (y5.toNat * 2)) := hd 0 _ _ _ rfl rfl rfl rfl rfl; exact of_fieldAddr_vec (ho.rd 0 _ rfl rfl) (inR_ne e10) a0 ff_76_0 Try.sizeOf9 (by decide) rfl) <|
          OblsR.cons (OblR.took 0 _ _ rfl rfl rfl rfl rfl fun A' R' w' ho hd u hok hav hin hop hds => by have a0 : R' 17 = (vptr v0 (y5.toNat * 2 + 0)) := hd 0 _ _ _ rfl rfl rfl rfl rfl; have a1 : Rep eStr A' w' (R' 15) x8 := hd 1 _ _ _ rfl rfl rfl rfl rfl; obtain rfl := hin _ rfl; exact took_vstore a1 hok hav a0 e10 rfl fs_impl_TokenCount_0 Try.sizeOf9 rfl) <|
          OblsR.nil
      intro done ρ σ A R w hdn hI
      replace h0 : R 0 = v0 := (hI.reg rfl).trans h0
      replace h1 : R 1 = .int .i64 y4 := (hI.reg rfl).trans h1
      replace h5 : R 5 = .int .i64 y5 := (hI.reg rfl).trans h5
      have z11 := hI.inivR 0 rfl
      have z12 := (hI.opnR hdn 7 6 rfl rfl rfl rfl rfl).trans z11
      replace hAA := hI.lowK hAA hA0 hN (hO.geK (⟨.inr (fun k h => .inr h), trivial⟩))
      replace hF : Ch (ownsB v0) w0 w := hF.tr hI.ch (hO.geK (⟨.inr (fun k h => .inr h), trivial⟩))
      replace hO : IniOK [ob v0 (.vec B0 76 E_impl_TokenCount (y6.set y5.toNat (x8, (gtD y6 y5).2)))] A w := hI.left hdn [(7, ob v0 (.vec B0 76 E_impl_TokenCount (y6.set y5.toNat (x8, (gtD y6 y5).2))))] ⟨rfl, rfl, z12, rfl, rfl, trivial⟩
      replace hA := hI.avok
      clear hI
      refine HT.seq ?_
      obtain ⟨e13, hr⟩ := ck_some hr
      refine HT.text (l := ⟨_, true, .raw (.int .i64 y4)⟩ :: ⟨_, true, .raw (.int .i64 (y4 + (1 : Int)))⟩ :: ⟨_, true, .raw (.int .i64 (y4 + (1 : Int)))⟩ :: []) (tl := []) (by kernel_rfl) (by kernel_rfl) (by kernel_rfl) ?_ ?_
      · exact
          Obls.cons (Obl.plain rfl rfl fun R' w' hw hs hd => by have a0 : R' 1 = .int .i64 y4 := (hs 1 rfl).trans h1; exact of_move a0) <|
          Obls.cons (Obl.plain rfl rfl fun R' w' hw hs hd => by have a0 : R' 18 = .int .i64 y4 := hd 0 _ _ _ rfl rfl rfl rfl rfl; exact of_add a0 rfl e13) <|
          Obls.cons (Obl.plain rfl rfl fun R' w' hw hs hd => by have a0 : R' 19 = .int .i64 (y4 + (1 : Int)) := hd 0 _ _ _ rfl rfl rfl rfl rfl; exact of_assign a0) <|
          Obls.nil
      intro R w hw hs hF'
      replace h0 : R 0 = v0 := (hs 0 rfl).trans h0
      replace h5 : R 5 = .int .i64 y5 := (hs 5 rfl).trans h5
      have h1 : R 1 = .int .i64 (y4 + (1 : Int)) := hF' 2 _ _ rfl rfl rfl
      replace hO := hO.fr hw
      replace hA := hA.fr hw.size
      replace hF := hF.tr (hw.ch noB) fun _ h => False.elim h
      clear hs hF' hw
      refine seqR_nil ?_
      refine HT.seq ?_
      obtain ⟨e14, hr⟩ := ck_some hr
      refine HT.textR [ob v0 (.vec B0 76 E_impl_TokenCount (y6.set y5.toNat (x8, (gtD y6 y5).2)))] (⟨_, true, [], none, true, fun A => .raw v0⟩ :: ⟨_, true, [], none, true, fun A => .raw (.int .i64 y5)⟩ :: ⟨_, true, [], none, true, fun A => .raw (.int .i64 (y4 + (1 : Int)))⟩ :: ⟨_, true, [], none, true, fun A => .raw (vptr v0 (y5.toNat * 2))⟩ :: ⟨_, true, [], none, true, fun A => .raw (vptr v0 (y5.toNat * 2 + 1))⟩ :: ⟨_, true, [0], some (.vec B0 76 E_impl_TokenCount ((y6.set y5.toNat (x8, (gtD y6 y5).2)).set y5.toNat ((gtD (y6.set y5.toNat (x8, (gtD y6 y5).2)) y5).1, (y4 + (1 : Int))))), false, fun A => .any⟩ :: []) (by kernel_rfl) (by kernel_rfl) (Wf.mk' (by kernel_rfl) (UAll.cons ust_raw (UAll.cons ust_raw (UAll.cons ust_raw (UAll.cons ust_raw (UAll.cons ust_raw (UAll.cons ust_any (UAll.nil))))))) (by kernel_rfl) (by kernel_rfl)) hO hA ?_ ?_
      · exact
          OblsR.cons (OblR.plain rfl rfl rfl rfl fun A' R' w' ho hd => by have a0 : R' 0 = v0 := (ho.old 0 rfl).trans h0; exact of_move a0) <|
          OblsR.cons (OblR.plain rfl rfl rfl rfl fun A' R' w' ho hd => by have a0 : R' 5 = .int .i64 y5 := (ho.old 5 rfl).trans h5; exact of_move a0) <|
          OblsR.cons (OblR.plain rfl rfl rfl rfl fun A' R' w' ho hd => by have a0 : R' 1 = .int .i64 (y4 + (1 : Int)) := (ho.old 1 rfl).trans h1; exact of_move a0) <|
          OblsR.cons (OblR.plain rfl rfl rfl rfl fun A' R' w' ho hd => by have a0 : R' 20 = v0 := hd 0 _ _ _ rfl rfl rfl rfl rfl; have a1 : R' 21 = .int .i64 y5 := hd 1 _ _ _ rfl rfl rfl rfl rfl; exact of_indexAddr_vec (hO.ok 0 _ rfl).1 a0 a1 Try.underlying27 Try.sizeOf76 e14 rfl) <|
          OblsR.cons (OblR.plain rfl rfl rfl rfl fun A' R' w' ho hd => by have a0 : R' 23 = (vptr v0 (y5.toNat * 2)) := hd 0 _ _ _ rfl rfl rfl rfl rfl; exact of_fieldAddr_vec (ho.rd 0 _ rfl rfl) (inR_ne e14) a0 ff_76_1 Try.sizeOf3 (by decide) rfl) <|
          OblsR.cons (OblR.took 0 _ _ rfl rfl rfl rfl rfl fun A' R' w' ho hd u hok hav hin hop hds => by have a0 : R' 24 = (vptr v0 (y5.toNat * 2 + 1)) := hd 0 _ _ _ rfl rfl rfl rfl rfl; have a1 : R' 22 = .int .i64 (y4 + (1 : Int)) := hd 1 _ _ _ rfl rfl rfl rfl rfl; obtain rfl := hin _ rfl; exact took_vstore (rep_int.eq a1) hok hav a0 e14 rfl fs_impl_TokenCount_1 Try.sizeOf3 rfl) <|
          OblsR.nil
      intro done ρ σ A R w hdn hI
      replace h0 : R 0 = v0 := (hI.reg rfl).trans h0
      replace h1 : R 1 = .int .i64 (y4 + (1 : Int)) := (hI.reg rfl).trans h1
      replace h5 : R 5 = .int .i64 y5 := (hI.reg rfl).trans h5
      have z15 := hI.inivR 0 rfl
      have z16 := (hI.opnR hdn 6 5 rfl rfl rfl rfl rfl).trans z15
      replace hAA := hI.lowK hAA hA0 hN (hO.geK (⟨.inr (fun k h => .inr h), trivial⟩))
      replace hF : Ch (ownsB v0) w0 w := hF.tr hI.ch (hO.geK (⟨.inr (fun k h => .inr h), trivial⟩))
      replace hO : IniOK [ob v0 (.vec B0 76 E_impl_TokenCount ((y6.set y5.toNat (x8, (gtD y6 y5).2)).set y5.toNat ((gtD (y6.set y5.toNat (x8, (gtD y6 y5).2)) y5).1, (y4 + (1 : Int)))))] A w := hI.left hdn [(6, ob v0 (.vec B0 76 E_impl_TokenCount ((y6.set y5.toNat (x8, (gtD y6 y5).2)).set y5.toNat ((gtD (y6.set y5.toNat (x8, (gtD y6 y5).2)) y5).1, (y4 + (1 : Int))))))] ⟨rfl, rfl, z16, rfl, rfl, trivial⟩
      replace hA := hI.avok
      clear hI
      obtain ⟨e17, hr⟩ := ck_some hr
      refine HT.text (l := ⟨_, true, .raw (.int .i64 (y4 + (1 : Int)))⟩ :: ⟨_, true, .raw (.int .i64 ((y4 + (1 : Int)) + (1 : Int)))⟩ :: ⟨_, true, .raw (.int .i64 ((y4 + (1 : Int)) + (1 : Int)))⟩ :: []) (tl := []) (by kernel_rfl) (by kernel_rfl) (by kernel_rfl) ?_ ?_
      · exact
          Obls.cons (Obl.plain rfl rfl fun R' w' hw hs hd => by have a0 : R' 1 = .int .i64 (y4 + (1 : Int)) := (hs 1 rfl).trans h1; exact of_move a0) <|
          Obls.cons (Obl.plain rfl rfl fun R' w' hw hs hd => by have a0 : R' 25 = .int .i64 (y4 + (1 : Int)) := hd 0 _ _ _ rfl rfl rfl rfl rfl; exact of_add a0 rfl e17) <|
          Obls.cons (Obl.plain rfl rfl fun R' w' hw hs hd => by have a0 : R' 26 = .int .i64 ((y4 + (1 : Int)) + (1 : Int)) := hd 0 _ _ _ rfl rfl rfl rfl rfl; exact of_assign a0) <|
          Obls.nil
      intro R w hw hs hF'
      replace h0 : R 0 = v0 := (hs 0 rfl).trans h0
      replace h5 : R 5 = .int .i64 y5 := (hs 5 rfl).trans h5
      have h1 : R 1 = .int .i64 ((y4 + (1 : Int)) + (1 : Int)) := hF' 2 _ _ rfl rfl rfl
      replace hO := hO.fr hw
      replace hA := hA.fr hw.size
      replace hF := hF.tr (hw.ch noB) fun _ h => False.elim h
      clear hs hF' hw
      refine seqR_nil ?_
      obtain ⟨e18, hr⟩ := ck_some hr
      refine HT.text (l := ⟨_, true, .raw (.int .i64 y5)⟩ :: ⟨_, true, .raw (.int .i64 (y5 + (1 : Int)))⟩ :: ⟨_, true, .raw (.int .i64 (y5 + (1 : Int)))⟩ :: []) (tl := []) (by kernel_rfl) (by kernel_rfl) (by kernel_rfl) ?_ ?_
      · exact
          Obls.cons (Obl.plain rfl rfl fun R' w' hw hs hd => by have a0 : R' 5 = .int .i64 y5 := (hs 5 rfl).trans h5; exact of_move a0) <|
          Obls.cons (Obl.plain rfl rfl fun R' w' hw hs hd => by have a0 : R' 10 = .int .i64 y5 := hd 0 _ _ _ rfl rfl rfl rfl rfl; exact of_add a0 rfl e18) <|
          Obls.cons (Obl.plain rfl rfl fun R' w' hw hs hd => by have a0 : R' 11 = .int .i64 (y5 + (1 : Int)) := hd 0 _ _ _ rfl rfl rfl rfl rfl; exact of_assign a0) <|
          Obls.nil
      intro R w hw hs hF'
      replace h0 : R 0 = v0 := (hs 0 rfl).trans h0
      replace h1 : R 1 = .int .i64 ((y4 + (1 : Int)) + (1 : Int)) := (hs 1 rfl).trans h1
      have h5 : R 5 = .int .i64 (y5 + (1 : Int)) := hF' 2 _ _ rfl rfl rfl
      replace hO := hO.fr hw
      replace hA := hA.fr hw.size
      replace hF := hF.tr (hw.ch noB) fun _ h => False.elim h
      clear hs hF' hw
      refine seqR_nil ?_
      exact Exists.intro k (And.intro (Nat.lt_succ_self k) ⟨_, _, _, _, hr, hA, hF, hAA, hO, h0, h1, h5⟩)
    · have hr := cnd_f c7 hr
      refine HT.exit ?_
      obtain rfl := Option.some.inj hr
      exact Exists.intro _ ⟨_, rfl, hA, hF, hAA, hO, h1⟩
  rintro R w ⟨A, s3, es, hA, hF, hAA, hO, h1⟩
  obtain rfl := es.symm
  refine HT.seq ?_
  refine HT.text (l := ⟨_, true, .raw (.int .i64 s3.1)⟩ :: ⟨_, true, .raw (.int .i64 s3.1)⟩ :: []) (tl := []) (by kernel_rfl) (by kernel_rfl) (by kernel_rfl) ?_ ?_
  · exact
      Obls.cons (Obl.plain rfl rfl fun R' w' hw hs hd => by have a0 : R' 1 = .int .i64 s3.1 := (hs 1 rfl).trans h1; exact of_move a0) <|
      Obls.cons (Obl.plain rfl rfl fun R' w' hw hs hd => by have a0 : R' 27 = .int .i64 s3.1 := hd 0 _ _ _ rfl rfl rfl rfl rfl; exact of_assign a0) <|
      Obls.nil
  intro R w hw hs hF'
  have h4 : R 4 = .int .i64 s3.1 := hF' 1 _ _ rfl rfl rfl
  replace hO := hO.fr hw
  replace hA := hA.fr hw.size
  replace hF := hF.tr (hw.ch noB) fun _ h => False.elim h
  clear hs hF' hw
  refine seqR_nil ?_
  refine HT.ret ?_
  obtain rfl := Option.some.inj hr
  exact ⟨.inr rfl, [R 4], ⟨rfl, trivial⟩, h4, Vec.flat (hO.ok 0 _ rfl).1 (fun _ _ _ _ _ h => h), hF⟩
def M_laws_markStringS_L0 (fu : Nat) : Nat → Int → Int → (List (List UInt8)) → Option (Int × (List (List UInt8)))
  | 0, _, _, _ => none
  | k + 1, y4, y5, y6 =>
    bif (decide (y5 < (y6.length : Int))) then (
      cl true (M_laws_markText fu y4) fun x8 =>
      ck (inR y5 y6.length) <|
      ck (i64B (y4 + (1 : Int))) <|
      ck (i64B (y5 + (1 : Int))) <|
      M_laws_markStringS_L0 fu k (y4 + (1 : Int)) (y5 + (1 : Int)) (y6.set y5.toNat x8)
    ) else (
      some (y4, y6)
    )
def M_laws_markStringS (fu : Nat) (p0 : List (List UInt8)) (p1 : Int) : Option (Int × List (List UInt8)) :=
  cl true (M_laws_markStringS_L0 fu fu p1 (0 : Int) p0) fun s3 =>
  some (s3.1, s3.2)
set_option maxRecDepth 100000 in
set_option maxHeartbeats 4000000 in
theorem M_laws_markStringS_ok {fu : Nat} {A0 : Av} {p0 : List (List UInt8)} {p1 : Int} {r : Int × List (List UInt8)} (hr : M_laws_markStringS fu p0 p1 = some r) {w : World} {v0 : Value} {v1 : Value} {B0 : Nat} (hA : AvOK A0 w) (hN : ∀ b o, A0 b o → ¬ ownsB v0 b) (h0 : (Res.vec B0 9 eStr p0).ok A0 v0 w) (h1 : v1 = .int .i64 p1) :
    Calls Try.prog 22 #[v0, v1] w fun e w' => ∃ v, e = .returned v ∧ (v = .int .i64 r.1 ∧ (Res.vec B0 9 eStr r.2).ok A0 v0 w' ∧ Ch (ownsB v0) w w') := by
  unfold M_laws_markStringS at hr
  obtain ⟨w0, hw0⟩ : ∃ w0, w0 = w := ⟨_, rfl⟩
  have hF : Ch (ownsB v0) w0 w := hw0 ▸ Ch.refl _ _
  have hA0 : ∀ b o, A0 b o → b < w0.heap.size := fun b o h => hw0 ▸ hA b o h
  have hA00 : AvOK A0 w0 := hA0
  rw [show Ch (ownsB v0) w = Ch (ownsB v0) w0 from hw0 ▸ rfl]
  clear hw0
  obtain ⟨A, hAe⟩ : ∃ A, A = addA A0 v0 := ⟨_, rfl⟩
  have hAA : ∀ b o, A0 b o → A b o := fun b o h => hAe ▸ .inl h
  replace hA : AvOK A w := hAe ▸ hA.one h0
  have hO : IniOK [ob v0 (.vec B0 9 eStr p0)] A w := hAe ▸ IniOK.one h0 (fun _ _ _ _ _ h => h)
  refine calls_of_HT2 [.tmp 4] Try.func22 Try.ntmps22 (by decide) rfl rfl (Nat.le_of_ble_eq_true rfl) ?_
  intro R hR
  replace h0 : R 0 = v0 := hR 0 _ rfl
  replace h1 : R 1 = .int .i64 p1 := (hR 1 _ rfl).trans h1
  clear hR hAe
  refine HT.seq ?_
  refine HT.text (l := ⟨_, true, .raw (.int .i64 (0 : Int))⟩ :: []) (tl := []) (by kernel_rfl) (by kernel_rfl) (by kernel_rfl) ?_ ?_
  · exact
      Obls.cons (Obl.plain rfl rfl fun R' w' hw hs hd => by exact of_assign rfl) <|
      Obls.nil
  intro R w hw hs hF'
  replace h0 : R 0 = v0 := (hs 0 rfl).trans h0
  replace h1 : R 1 = .int .i64 p1 := (hs 1 rfl).trans h1
  replace hO := hO.fr hw
  replace hA := hA.fr hw.size
  replace hF := hF.tr (hw.ch noB) fun _ h => False.elim h
  clear hs hF' hw
  refine seqR_nil ?_
  refine HT.seq ?_
  refine HT.seq ?_
  refine HT.text (l := ⟨_, true, .raw (.int .i64 (0 : Int))⟩ :: []) (tl := []) (by kernel_rfl) (by kernel_rfl) (by kernel_rfl) ?_ ?_
  · exact
      Obls.cons (Obl.plain rfl rfl fun R' w' hw hs hd => by exact of_assign rfl) <|
      Obls.nil
  intro R w hw hs hF'
  replace h0 : R 0 = v0 := (hs 0 rfl).trans h0
  replace h1 : R 1 = .int .i64 p1 := (hs 1 rfl).trans h1
  have h5 : R 5 = .int .i64 (0 : Int) := hF' 0 _ _ rfl rfl rfl
  replace hO := hO.fr hw
  replace hA := hA.fr hw.size
  replace hF := hF.tr (hw.ch noB) fun _ h => False.elim h
  clear hs hF' hw
  refine seqR_nil ?_
  obtain ⟨rl1, q2, hr⟩ := cl_some hr
  replace q2 := q2 rfl
  refine HT.cut0 (fun R w => ∃ A : Av, ∃ (s3 : Int × (List (List UInt8))), rl1 = s3 ∧ AvOK A w ∧ Ch (ownsB v0) w0 w ∧ (∀ b o, A0 b o → A b o) ∧ IniOK [ob v0 (.vec B0 9 eStr s3.2)] A w ∧ R 1 = .int .i64 s3.1) ?_ ?_
  · refine HT.block ?_
    refine HT.loop (fun k R w => ∃ A : Av, ∃ (y4 : Int) (y5 : Int) (y6 : List (List UInt8)), M_laws_markStringS_L0 fu k y4 y5 y6 = some rl1 ∧ AvOK A w ∧ Ch (ownsB v0) w0 w ∧ (∀ b o, A0 b o → A b o) ∧ IniOK [ob v0 (.vec B0 9 eStr y6)] A w ∧ R 0 = v0 ∧ R 1 = .int .i64 y4 ∧ R 5 = .int .i64 y5) fu ⟨_, _, _, _, q2, hA, hF, hAA, hO, h0, h1, h5⟩ ?_
    have hr0 := hr; clear hr q2
    rintro k R w ⟨A, y4, y5, y6, hr, hA, hF, hAA, hO, h0, h1, h5⟩
    rcases k with _ | k
    · cases (show none = some _ from hr)
    rw [M_laws_markStringS_L0] at hr
    refine HT.seq ?_
    refine HT.seq ?_
    refine HT.text (l := ⟨_, true, .raw (.int .i64 y5)⟩ :: ⟨_, true, .raw v0⟩ :: ⟨_, true, .raw (.int .i64 (y6.length : Int))⟩ :: ⟨_, true, .raw (.bool (decide (y5 < (y6.length : Int))))⟩ :: []) (tl := []) (by kernel_rfl) (by kernel_rfl) (by kernel_rfl) ?_ ?_
    · exact
        Obls.cons (Obl.plain rfl rfl fun R' w' hw hs hd => by have a0 : R' 5 = .int .i64 y5 := (hs 5 rfl).trans h5; exact of_move a0) <|
        Obls.cons (Obl.plain rfl rfl fun R' w' hw hs hd => by have a0 : R' 0 = v0 := (hs 0 rfl).trans h0; exact of_move a0) <|
        Obls.cons (Obl.plain rfl rfl fun R' w' hw hs hd => by have a0 : R' 7 = v0 := hd 0 _ _ _ rfl rfl rfl rfl rfl; exact of_len_vec (hO.ok 0 _ rfl).1 a0 Try.underlying23) <|
        Obls.cons (Obl.plain rfl rfl fun R' w' hw hs hd => by have a0 : R' 6 = .int .i64 y5 := hd 0 _ _ _ rfl rfl rfl rfl rfl; have a1 : R' 8 = .int .i64 (y6.length : Int) := hd 1 _ _ _ rfl rfl rfl rfl rfl; exact of_lss a0 a1) <|
        Obls.nil
    intro R w hw hs hF'
    replace h0 : R 0 = v0 := (hs 0 rfl).trans h0
    replace h1 : R 1 = .int .i64 y4 := (hs 1 rfl).trans h1
    replace h5 : R 5 = .int .i64 y5 := (hs 5 rfl).trans h5
    have h9 : R 9 = .bool (decide (y5 < (y6.length : Int))) := hF' 3 _ _ rfl rfl rfl
    replace hO := hO.fr hw
    replace hA := hA.fr hw.size
    replace hF := hF.tr (hw.ch noB) fun _ h => False.elim h
    clear hs hF' hw
    refine seqR_nil ?_
    refine HT.cond (decide (y5 < (y6.length : Int))) h9 (fun c7 => ?_) (fun c7 => ?_)
    · have hr := cnd_t c7 hr
      refine HT.skip ?_
      refine HT.seq ?_
      refine HT.block ?_
      refine HT.seq ?_
      obtain ⟨x8, q9, hr⟩ := cl_some hr
      obtain ⟨e10, hr⟩ := ck_some hr
      refine HT.textR [ob v0 (.vec B0 9 eStr y6)] (⟨_, true, [], none, true, fun A => .raw v0⟩ :: ⟨_, true, [], none, true, fun A => .raw (.int .i64 y5)⟩ :: ⟨_, true, [], none, true, fun A => .raw (.int .i64 y4)⟩ :: ⟨_, true, [], none, true, fun A => .rep eStr A x8⟩ :: ⟨_, true, [], none, true, fun A => .raw (vptr v0 (y5.toNat * 1))⟩ :: ⟨_, true, [0], some (.vec B0 9 eStr (y6.set y5.toNat x8)), false, fun A => .any⟩ :: []) (by kernel_rfl) (by kernel_rfl) (Wf.mk' (by kernel_rfl) (UAll.cons ust_raw (UAll.cons ust_raw (UAll.cons ust_raw (UAll.cons ust_rep (UAll.cons ust_raw (UAll.cons ust_any (UAll.nil))))))) (by kernel_rfl) (by kernel_rfl)) hO hA ?_ ?_
      · exact
          OblsR.cons (OblR.plain rfl rfl rfl rfl fun A' R' w' ho hd => by have a0 : R' 0 = v0 := (ho.old 0 rfl).trans h0; exact of_move a0) <|
          OblsR.cons (OblR.plain rfl rfl rfl rfl fun A' R' w' ho hd => by have a0 : R' 5 = .int .i64 y5 := (ho.old 5 rfl).trans h5; exact of_move a0) <|
          OblsR.cons (OblR.plain rfl rfl rfl rfl fun A' R' w' ho hd => by have a0 : R' 1 = .int .i64 y4 := (ho.old 1 rfl).trans h1; exact of_move a0) <|
          OblsR.cons (OblR.plain rfl rfl rfl rfl fun A' R' w' ho hd => by have a0 : R' 14 = .int .i64 y4 := hd 0 _ _ _ rfl rfl rfl rfl rfl; exact of_call Try.call69 (M_laws_markText_ok (q9 rfl) ho.av a0)) <|
          OblsR.cons (OblR.plain rfl rfl rfl rfl fun A' R' w' ho hd => by have a0 : R' 12 = v0 := hd 0 _ _ _ rfl rfl rfl rfl rfl; have a1 : R' 13 = .int .i64 y5 := hd 1 _ _ _ rfl rfl rfl rfl rfl; exact of_indexAddr_vec (hO.ok 0 _ rfl).1 a0 a1 Try.underlying23 Try.sizeOf9 e10 rfl) <|
          OblsR.cons (OblR.took 0 _ _ rfl rfl rfl rfl rfl fun A' R' w' ho hd u hok hav hin hop hds => by have a0 : R' 16 = (vptr v0 (y5.toNat * 1)) := hd 0 _ _ _ rfl rfl rfl rfl rfl; have a1 : Rep eStr A' w' (R' 15) x8 := hd 1 _ _ _ rfl rfl rfl rfl rfl; obtain rfl := hin _ rfl; exact took_vstore a1 hok hav a0 e10 rfl (FldS.id _) Try.sizeOf9 rfl) <|
          OblsR.nil
      intro done ρ σ A R w hdn hI
      replace h0 : R 0 = v0 := (hI.reg rfl).trans h0
      replace h1 : R 1 = .int .i64 y4 := (hI.reg rfl).trans h1
      replace h5 : R 5 = .int .i64 y5 := (hI.reg rfl).trans h5
      have z11 := hI.inivR 0 rfl
      have z12 := (hI.opnR hdn 6 5 rfl rfl rfl rfl rfl).trans z11
      replace hAA := hI.lowK hAA hA0 hN (hO.geK (⟨.inr (fun k h => .inr h), trivial⟩))
      replace hF : Ch (ownsB v0) w0 w := hF.tr hI.ch (hO.geK (⟨.inr (fun k h => .inr h), trivial⟩))
      replace hO : IniOK [ob v0 (.vec B0 9 eStr (y6.set y5.toNat x8))] A w := hI.left hdn [(6, ob v0 (.vec B0 9 eStr (y6.set y5.toNat x8)))] ⟨rfl, rfl, z12, rfl, rfl, trivial⟩
      replace hA := hI.avok
      clear hI
      obtain ⟨e13, hr⟩ := ck_some hr
      refine HT.text (l := ⟨_, true, .raw (.int .i64 y4)⟩ :: ⟨_, true, .raw (.int .i64 (y4 + (1 : Int)))⟩ :: ⟨_, true, .raw (.int .i64 (y4 + (1 : Int)))⟩ :: []) (tl := []) (by kernel_rfl) (by kernel_rfl) (by kernel_rfl) ?_ ?_
      · exact
          Obls.cons (Obl.plain rfl rfl fun R' w' hw hs hd => by have a0 : R' 1 = .int .i64 y4 := (hs 1 rfl).trans h1; exact of_move a0) <|
          Obls.cons (Obl.plain rfl rfl fun R' w' hw hs hd => by have a0 : R' 17 = .int .i64 y4 := hd 0 _ _ _ rfl rfl rfl rfl rfl; exact of_add a0 rfl e13) <|
          Obls.cons (Obl.plain rfl rfl fun R' w' hw hs hd => by have a0 : R' 18 = .int .i64 (y4 + (1 : Int)) := hd 0 _ _ _ rfl rfl rfl rfl rfl; exact of_assign a0) <|
          Obls.nil
      intro R w hw hs hF'
      replace h0 : R 0 = v0 := (hs 0 rfl).trans h0
      replace h5 : R 5 = .int .i64 y5 := (hs 5 rfl).trans h5
      have h1 : R 1 = .int .i64 (y4 + (1 : Int)) := hF' 2 _ _ rfl rfl rfl
      replace hO := hO.fr hw
      replace hA := hA.fr hw.size
      replace hF := hF.tr (hw.ch noB) fun _ h => False.elim h
      clear hs hF' hw
      refine seqR_nil ?_
      obtain ⟨e14, hr⟩ := ck_some hr
      refine HT.text (l := ⟨_, true, .raw (.int .i64 y5)⟩ :: ⟨_, true, .raw (.int .i64 (y5 + (1 : Int)))⟩ :: ⟨_, true, .raw (.int .i64 (y5 + (1 : Int)))⟩ :: []) (tl := []) (by kernel_rfl) (by kernel_rfl) (by kernel_rfl) ?_ ?_
      · exact
          Obls.cons (Obl.plain rfl rfl fun R' w' hw hs hd => by have a0 : R' 5 = .int .i64 y5 := (hs 5 rfl).trans h5; exact of_move a0) <|
          Obls.cons (Obl.plain rfl rfl fun R' w' hw hs hd => by have a0 : R' 10 = .int .i64 y5 := hd 0 _ _ _ rfl rfl rfl rfl rfl; exact of_add a0 rfl e14) <|
          Obls.cons (Obl.plain rfl rfl fun R' w' hw hs hd => by have a0 : R' 11 = .int .i64 (y5 + (1 : Int)) := hd 0 _ _ _ rfl rfl rfl rfl rfl; exact of_assign a0) <|
          Obls.nil
      intro R w hw hs hF'
      replace h0 : R 0 = v0 := (hs 0 rfl).trans h0
      replace h1 : R 1 = .int .i64 (y4 + (1 : Int)) := (hs 1 rfl).trans h1
      have h5 : R 5 = .int .i64 (y5 + (1 : Int)) := hF' 2 _ _ rfl rfl rfl
      replace hO := hO.fr hw
      replace hA := hA.fr hw.size
      replace hF := hF.tr (hw.ch noB) fun _ h => False.elim h
      clear hs hF' hw
      refine seqR_nil ?_
      exact Exists.intro k (And.intro (Nat.lt_succ_self k) ⟨_, _, _, _, hr, hA, hF, hAA, hO, h0, h1, h5⟩)
    · have hr := cnd_f c7 hr
      refine HT.exit ?_
      obtain rfl := Option.some.inj hr
      exact Exists.intro _ ⟨_, rfl, hA, hF, hAA, hO, h1⟩
  rintro R w ⟨A, s3, es, hA, hF, hAA, hO, h1⟩
  obtain rfl := es.symm
  refine HT.seq ?_
  refine HT.text (l := ⟨_, true, .raw (.int .i64 s3.1)⟩ :: ⟨_, true, .raw (.int .i64 s3.1)⟩ :: []) (tl := []) (by kernel_rfl) (by kernel_rfl) (by kernel_rfl) ?_ ?_
  · exact
      Obls.cons (Obl.plain rfl rfl fun R' w' hw hs hd => by have a0 : R' 1 = .int .i64 s3.1 := (hs 1 rfl).trans h1; exact of_move a0) <|
      Obls.cons (Obl.plain rfl rfl fun R' w' hw hs hd => by have a0 : R' 19 = .int .i64 s3.1 := hd 0 _ _ _ rfl rfl rfl rfl rfl; exact of_assign a0) <|
      Obls.nil
  intro R w hw hs hF'
  have h4 : R 4 = .int .i64 s3.1 := hF' 1 _ _ rfl rfl rfl
  replace hO := hO.fr hw
  replace hA := hA.fr hw.size
  replace hF := hF.tr (hw.ch noB) fun _ h => False.elim h
  clear hs hF' hw
  refine seqR_nil ?_
  refine HT.ret ?_
  obtain rfl := Option.some.inj hr
  exact ⟨.inr rfl, [R 4], ⟨rfl, trivial⟩, h4, Vec.flat (hO.ok 0 _ rfl).1 (fun _ _ _ _ _ h => h), hF⟩
def M_laws_heldStringS_L0 (fu : Nat) (p0 : List (List UInt8)) : Nat → Int → Int → Option (Ex Int Int)
  | 0, _, _ => none
  | k + 1, y4, y5 =>
    bif (decide (y5 < (p0.length : Int))) then (
      ck (inR y5 p0.length) <|
      cl true (M_laws_markText fu y4) fun x8 =>
      bif (!((gtD p0 y5) == x8)) then (
        some (Ex.ret (-1 : Int))
      ) else (
        ck (i64B (y4 + (1 : Int))) <|
        ck (i64B (y5 + (1 : Int))) <|
        M_laws_heldStringS_L0 fu p0 k (y4 + (1 : Int)) (y5 + (1 : Int))
      )
    ) else (
      some (Ex.go y4)
    )
def M_laws_heldStringS (fu : Nat) (p0 : List (List UInt8)) (p1 : Int) : Option Int :=
  cl true (M_laws_heldStringS_L0 fu p0 fu p1 (0 : Int)) fun rl1 =>
  exM rl1 (fun r => some r) fun s3 =>
  some s3
set_option maxRecDepth 100000 in
set_option maxHeartbeats 4000000 in
theorem M_laws_heldStringS_ok {fu : Nat} {A : Av} {p0 : List (List UInt8)} {p1 : Int} {r : Int} (hr : M_laws_heldStringS fu p0 p1 = some r) {w : World} {v0 : Value} {v1 : Value} (hA : AvOK A w) (h0 : Rep (eSl eStr) A w v0 p0) (h1 : v1 = .int .i64 p1) :
    Calls Try.prog 23 #[v0, v1] w fun e w' => ∃ v, e = .returned v ∧ (v = .int .i64 r ∧ Fr w w') := by
  unfold M_laws_heldStringS at hr
  obtain ⟨w0, hw0⟩ : ∃ w0, w0 = w := ⟨_, rfl⟩
  have hF : Fr w0 w := hw0 ▸ Fr.refl _
  rw [show Fr w = Fr w0 from hw0 ▸ rfl]
  clear hw0
  refine calls_of_HT2 [.tmp 4] Try.func23 Try.ntmps23 (by decide) rfl rfl (Nat.le_of_ble_eq_true rfl) ?_
  intro R hR
  have f_v0 := h0
  replace h0 : R 0 = v0 := hR 0 _ rfl
  replace h1 : R 1 = .int .i64 p1 := (hR 1 _ rfl).trans h1
  clear hR
  refine HT.seq ?_
  refine HT.text (l := ⟨_, true, .raw (.int .i64 (0 : Int))⟩ :: []) (tl := []) (by kernel_rfl) (by kernel_rfl) (by kernel_rfl) ?_ ?_
  · exact
      Obls.cons (Obl.plain rfl rfl fun R' w' hw hs hd => by exact of_assign rfl) <|
      Obls.nil
  intro R w hw hs hF'
  replace h0 : R 0 = v0 := (hs 0 rfl).trans h0
  replace h1 : R 1 = .int .i64 p1 := (hs 1 rfl).trans h1
  replace f_v0 := f_v0.fr hw
  replace hA := hA.fr hw.size
  replace hF := hF.trans hw
  clear hs hF' hw
  refine seqR_nil ?_
  refine HT.seq ?_
  refine HT.seq ?_
  refine HT.text (l := ⟨_, true, .raw (.int .i64 (0 : Int))⟩ :: []) (tl := []) (by kernel_rfl) (by kernel_rfl) (by kernel_rfl) ?_ ?_
  · exact
      Obls.cons (Obl.plain rfl rfl fun R' w' hw hs hd => by exact of_assign rfl) <|
      Obls.nil
  intro R w hw hs hF'
  replace h0 : R 0 = v0 := (hs 0 rfl).trans h0
  replace h1 : R 1 = .int .i64 p1 := (hs 1 rfl).trans h1
  have h5 : R 5 = .int .i64 (0 : Int) := hF' 0 _ _ rfl rfl rfl
  replace f_v0 := f_v0.fr hw
  replace hA := hA.fr hw.size
  replace hF := hF.trans hw
  clear hs hF' hw
  refine seqR_nil ?_
  obtain ⟨rl1, q2, hr⟩ := cl_some hr
  replace q2 := q2 rfl
  refine HT.cut0 (fun R w => ∃ (s3 : Int), rl1 = Ex.go s3 ∧ AvOK A w ∧ Fr w0 w ∧ R 1 = .int .i64 s3) ?_ ?_
  · refine HT.block ?_
    refine HT.loop (fun k R w => ∃ (y4 : Int) (y5 : Int), M_laws_heldStringS_L0 fu p0 k y4 y5 = some rl1 ∧ AvOK A w ∧ Fr w0 w ∧ R 0 = v0 ∧ R 1 = .int .i64 y4 ∧ R 5 = .int .i64 y5 ∧ Rep (eSl eStr) A w v0 p0) fu ⟨_, _, q2, hA, hF, h0, h1, h5, f_v0⟩ ?_
    have hr0 := hr; clear hr q2
    rintro k R w ⟨y4, y5, hr, hA, hF, h0, h1, h5, f_v0⟩
    rcases k with _ | k
    · cases (show none = some _ from hr)
    rw [M_laws_heldStringS_L0] at hr
    refine HT.seq ?_
    refine HT.seq ?_
    refine HT.text (l := ⟨_, true, .raw (.int .i64 y5)⟩ :: ⟨_, true, .raw v0⟩ :: ⟨_, true, .raw (.int .i64 (p0.length : Int))⟩ :: ⟨_, true, .raw (.bool (decide (y5 < (p0.length : Int))))⟩ :: []) (tl := []) (by kernel_rfl) (by kernel_rfl) (by kernel_rfl) ?_ ?_
    · exact
        Obls.cons (Obl.plain rfl rfl fun R' w' hw hs hd => by have a0 : R' 5 = .int .i64 y5 := (hs 5 rfl).trans h5; exact of_move a0) <|
        Obls.cons (Obl.plain rfl rfl fun R' w' hw hs hd => by have a0 : R' 0 = v0 := (hs 0 rfl).trans h0; exact of_move a0) <|
        Obls.cons (Obl.plain rfl rfl fun R' w' hw hs hd => by have a0 : R' 7 = v0 := hd 0 _ _ _ rfl rfl rfl rfl rfl; have ra0 := (f_v0.fr hw).eq a0; exact of_len_sl (aT := #[]) ra0 Try.underlying23) <|
        Obls.cons (Obl.plain rfl rfl fun R' w' hw hs hd => by have a0 : R' 6 = .int .i64 y5 := hd 0 _ _ _ rfl rfl rfl rfl rfl; have a1 : R' 8 = .int .i64 (p0.length : Int) := hd 1 _ _ _ rfl rfl rfl rfl rfl; exact of_lss a0 a1) <|
        Obls.nil
    intro R w hw hs hF'
    replace h0 : R 0 = v0 := (hs 0 rfl).trans h0
    replace h1 : R 1 = .int .i64 y4 := (hs 1 rfl).trans h1
    replace h5 : R 5 = .int .i64 y5 := (hs 5 rfl).trans h5
    have h9 : R 9 = .bool (decide (y5 < (p0.length : Int))) := hF' 3 _ _ rfl rfl rfl
    replace f_v0 := f_v0.fr hw
    replace hA := hA.fr hw.size
    replace hF := hF.trans hw
    clear hs hF' hw
    refine seqR_nil ?_
    refine HT.cond (decide (y5 < (p0.length : Int))) h9 (fun c6 => ?_) (fun c6 => ?_)
    · have hr := cnd_t c6 hr
      refine HT.skip ?_
      refine HT.seq ?_
      refine HT.block ?_
      refine HT.seq ?_
      refine HT.seq ?_
      obtain ⟨e7, hr⟩ := ck_some hr
      obtain ⟨x8, q9, hr⟩ := cl_some hr
      refine HT.draw (by kernel_rfl) (l := ⟨_, true, .raw v0⟩ :: ⟨_, true, .raw (.int .i64 y5)⟩ :: ⟨_, true, .qtr eStr A (gtD p0 y5)⟩ :: ⟨_, true, .rep eStr A (gtD p0 y5)⟩ :: ⟨_, true, .raw (.int .i64 y4)⟩ :: ⟨_, true, .rep eStr A x8⟩ :: ⟨_, true, .raw (.bool (!((gtD p0 y5) == x8)))⟩ :: []) (tl := []) (by kernel_rfl) (by kernel_rfl) (by kernel_rfl) (by kernel_rfl) ?_ ?_
      · exact
          Obls.cons (Obl.plain rfl rfl fun R' w' hw hs hd => by have a0 : R' 0 = v0 := (hs 0 rfl).trans h0; exact of_move a0) <|
          Obls.cons (Obl.plain rfl rfl fun R' w' hw hs hd => by have a0 : R' 5 = .int .i64 y5 := (hs 5 rfl).trans h5; exact of_move a0) <|
          Obls.cons (Obl.plain rfl rfl fun R' w' hw hs hd => by have a0 : R' 12 = v0 := hd 0 _ _ _ rfl rfl rfl rfl rfl; have a1 : R' 13 = .int .i64 y5 := hd 1 _ _ _ rfl rfl rfl rfl rfl; have ra0 := (f_v0.fr hw).eq a0; exact of_indexAddr ra0 a1 Try.underlying23 Try.sizeOf9 e7) <|
          Obls.cons (Obl.plain rfl rfl fun R' w' hw hs hd => by have a0 : QRep eStr A w' (R' 14) (gtD p0 y5) := hd 0 _ _ _ rfl rfl rfl rfl rfl; exact (of_load a0.ptr Try.isAgg9 Try.sizeOf9)) <|
          Obls.cons (Obl.plain rfl rfl fun R' w' hw hs hd => by have a0 : R' 1 = .int .i64 y4 := (hs 1 rfl).trans h1; exact of_move a0) <|
          Obls.cons (Obl.plain rfl rfl fun R' w' hw hs hd => by have a0 : R' 16 = .int .i64 y4 := hd 0 _ _ _ rfl rfl rfl rfl rfl; exact of_call Try.call69 (M_laws_markText_ok (q9 rfl) (hA.fr hw.size) a0)) <|
          Obls.cons (Obl.plain rfl rfl fun R' w' hw hs hd => by have a0 : Rep eStr A w' (R' 15) (gtD p0 y5) := hd 0 _ _ _ rfl rfl rfl rfl rfl; have a1 : Rep eStr A w' (R' 17) x8 := hd 1 _ _ _ rfl rfl rfl rfl rfl; exact of_sneq a0 a1) <|
          Obls.nil
      intro R w hw hs hF'
      replace h0 : R 0 = v0 := (hs 0 rfl).trans h0
      replace h1 : R 1 = .int .i64 y4 := (hs 1 rfl).trans h1
      replace h5 : R 5 = .int .i64 y5 := (hs 5 rfl).trans h5
      have h18 : R 18 = .bool (!((gtD p0 y5) == x8)) := hF' 6 _ _ rfl rfl rfl
      replace f_v0 := f_v0.fr hw
      replace hA := hA.fr hw.size
      replace hF := hF.trans hw
      clear hs hF' hw
      refine seqR_nil ?_
      refine HT.cond (!((gtD p0 y5) == x8)) h18 (fun c10 => ?_) (fun c10 => ?_)
      · have hr := cnd_t c10 hr
        refine HT.seq ?_
        refine HT.text (l := ⟨_, true, .raw (.int .i64 (-1 : Int))⟩ :: []) (tl := []) (by kernel_rfl) (by kernel_rfl) (by kernel_rfl) ?_ ?_
        · exact
            Obls.cons (Obl.plain rfl rfl fun R' w' hw hs hd => by exact of_assign rfl) <|
            Obls.nil
        intro R w hw hs hF'
        have h4 : R 4 = .int .i64 (-1 : Int) := hF' 0 _ _ rfl rfl rfl
        replace hA := hA.fr hw.size
        replace hF := hF.trans hw
        clear hs hF' hw
        refine seqR_nil ?_
        refine HT.ret ?_
        obtain rfl := Option.some.inj hr
        have hr := hr0
        replace hr : some _ = some _ := hr
        obtain rfl := Option.some.inj hr
        exact ⟨.inr rfl, [R 4], ⟨rfl, trivial⟩, h4, hF⟩
      · have hr := cnd_f c10 hr
        refine HT.skip ?_
        obtain ⟨e11, hr⟩ := ck_some hr
        refine HT.text (l := ⟨_, true, .raw (.int .i64 y4)⟩ :: ⟨_, true, .raw (.int .i64 (y4 + (1 : Int)))⟩ :: ⟨_, true, .raw (.int .i64 (y4 + (1 : Int)))⟩ :: []) (tl := []) (by kernel_rfl) (by kernel_rfl) (by kernel_rfl) ?_ ?_
        · exact
            Obls.cons (Obl.plain rfl rfl fun R' w' hw hs hd => by have a0 : R' 1 = .int .i64 y4 := (hs 1 rfl).trans h1; exact of_move a0) <|
            Obls.cons (Obl.plain rfl rfl fun R' w' hw hs hd => by have a0 : R' 19 = .int .i64 y4 := hd 0 _ _ _ rfl rfl rfl rfl rfl; exact of_add a0 rfl e11) <|
            Obls.cons (Obl.plain rfl rfl fun R' w' hw hs hd => by have a0 : R' 20 = .int .i64 (y4 + (1 : Int)) := hd 0 _ _ _ rfl rfl rfl rfl rfl; exact of_assign a0) <|
            Obls.nil
        intro R w hw hs hF'
        replace h0 : R 0 = v0 := (hs 0 rfl).trans h0
        replace h5 : R 5 = .int .i64 y5 := (hs 5 rfl).trans h5
        have h1 : R 1 = .int .i64 (y4 + (1 : Int)) := hF' 2 _ _ rfl rfl rfl
        replace f_v0 := f_v0.fr hw
        replace hA := hA.fr hw.size
        replace hF := hF.trans hw
        clear hs hF' hw
        refine seqR_nil ?_
        obtain ⟨e12, hr⟩ := ck_some hr
        refine HT.text (l := ⟨_, true, .raw (.int .i64 y5)⟩ :: ⟨_, true, .raw (.int .i64 (y5 + (1 : Int)))⟩ :: ⟨_, true, .raw (.int .i64 (y5 + (1 : Int)))⟩ :: []) (tl := []) (by kernel_rfl) (by kernel_rfl) (by kernel_rfl) ?_ ?_
        · exact
            Obls.cons (Obl.plain rfl rfl fun R' w' hw hs hd => by have a0 : R' 5 = .int .i64 y5 := (hs 5 rfl).trans h5; exact of_move a0) <|
            Obls.cons (Obl.plain rfl rfl fun R' w' hw hs hd => by have a0 : R' 10 = .int .i64 y5 := hd 0 _ _ _ rfl rfl rfl rfl rfl; exact of_add a0 rfl e12) <|
            Obls.cons (Obl.plain rfl rfl fun R' w' hw hs hd => by have a0 : R' 11 = .int .i64 (y5 + (1 : Int)) := hd 0 _ _ _ rfl rfl rfl rfl rfl; exact of_assign a0) <|
            Obls.nil
        intro R w hw hs hF'
        replace h0 : R 0 = v0 := (hs 0 rfl).trans h0
        replace h1 : R 1 = .int .i64 (y4 + (1 : Int)) := (hs 1 rfl).trans h1
        have h5 : R 5 = .int .i64 (y5 + (1 : Int)) := hF' 2 _ _ rfl rfl rfl
        replace f_v0 := f_v0.fr hw
        replace hA := hA.fr hw.size
        replace hF := hF.trans hw
        clear hs hF' hw
        refine seqR_nil ?_
        exact Exists.intro k (And.intro (Nat.lt_succ_self k) ⟨_, _, hr, hA, hF, h0, h1, h5, f_v0⟩)
    · have hr := cnd_f c6 hr
      refine HT.exit ?_
      obtain rfl := Option.some.inj hr
      exact Exists.intro _ ⟨rfl, hA, hF, h1⟩
  rintro R w ⟨s3, rfl, hA, hF, h1⟩
  have hr := exM_go hr
  refine HT.seq ?_
  refine HT.text (l := ⟨_, true, .raw (.int .i64 s3)⟩ :: ⟨_, true, .raw (.int .i64 s3)⟩ :: []) (tl := []) (by kernel_rfl) (by kernel_rfl) (by kernel_rfl) ?_ ?_
  · exact
      Obls.cons (Obl.plain rfl rfl fun R' w' hw hs hd => by have a0 : R' 1 = .int .i64 s3 := (hs 1 rfl).trans h1; exact of_move a0) <|
      Obls.cons (Obl.plain rfl rfl fun R' w' hw hs hd => by have a0 : R' 21 = .int .i64 s3 := hd 0 _ _ _ rfl rfl rfl rfl rfl; exact of_assign a0) <|
      Obls.nil
  intro R w hw hs hF'
  have h4 : R 4 = .int .i64 s3 := hF' 1 _ _ rfl rfl rfl
  replace hA := hA.fr hw.size
  replace hF := hF.trans hw
  clear hs hF' hw
  refine seqR_nil ?_
  refine HT.ret ?_
  obtain rfl := Option.some.inj hr
  exact ⟨.inr rfl, [R 4], ⟨rfl, trivial⟩, h4, hF⟩
def M_laws_FnExactOrderTokens (fu : Nat) (p0 : List T_impl_TokenCount) (p1 : List (List UInt8)) : Option Bool :=
  cl true (M_laws_szTokenCountS fu p0 (1048576 : Int)) fun x1 =>
  bif (decide (x1 < (0 : Int))) then (
    some true
  ) else (
    cl true (M_laws_szStringS fu p1 x1) fun x4 =>
    bif (decide (x4 < (0 : Int))) then (
      some true
    ) else (
      cl true (M_laws_toTokenCountS fu p0) fun x7 =>
      cl true (M_laws_toStringS fu p1) fun x9 =>
      cl true (M_spec_OrderTokens fu x7 x9) fun x11 =>
      cl true (M_laws_toTokenCountS fu p0) fun x14 =>
      cl true (M_laws_toStringS fu p1) fun x17 =>
      cl true (M_impl_OrderTokens fu x14 x17) fun x21 =>
      cl true (M_laws_eqStringS fu x21 x11) fun x26 =>
      bif (!x26) then (
        some false
      ) else (
        cl true (M_laws_toTokenCountS fu p0) fun x29 =>
        cl true (M_laws_eqTokenCountS fu x14 x29) fun x31 =>
        bif (!x31) then (
          some false
        ) else (
          cl true (M_laws_toStringS fu p1) fun x34 =>
          cl true (M_laws_eqStringS fu x17 x34) fun x36 =>
          bif (!x36) then (
            some false
          ) else (
            cl true (M_laws_markTokenCountS fu x14 (1 : Int)) fun x39 =>
            cl true (M_laws_markStringS fu x17 x39.1) fun x45 =>
            cl (true && ((decide (x45.1 < (0 : Int))) == false)) (M_laws_eqStringS fu x21 x11) fun x50 =>
            bd ((decide (x45.1 < (0 : Int))) || (!x50)) fun x52 =>
            bif x52 then (
              some false
            ) else (
              cl true (M_laws_markStringS fu x21 (1 : Int)) fun x55 =>
              cl true (M_laws_heldStringS fu x55.2 (1 : Int)) fun x59 =>
              bif (decide (x59 < (0 : Int))) then (
                some false
              ) else (
                bif (x59 != x55.1) then (
                  some false
                ) else (
                  cl true (M_laws_toTokenCountS fu p0) fun x63 =>
                  cl true (M_laws_toStringS fu p1) fun x65 =>
                  cl true (M_impl_OrderTokens fu x63 x65) fun x67 =>
                  cl true (M_laws_eqStringS fu x67 x11) fun x70 =>
                  bif (!x70) then (
                    some false
                  ) else (
                    cl true (M_laws_heldStringS fu x55.2 (1 : Int)) fun x73 =>
                    bif (decide (x73 < (0 : Int))) then (
                      some false
                    ) else (
                      bif (x73 != x55.1) then (
                        some false
                      ) else (
                        some true
                      )
                    )
                  )
                )
              )
            )
          )
        )
      )
    )
  )
set_option maxRecDepth 100000 in
set_option maxHeartbeats 4000000 in
theorem M_laws_FnExactOrderTokens_ok {fu : Nat} {A0 : Av} {p0 : List T_impl_TokenCount} {p1 : List (List UInt8)} {r : Bool} (hr : M_laws_FnExactOrderTokens fu p0 p1 = some r) {w : World} {v0 : Value} {v1 : Value} (hA : AvOK A0 w) (h0 : Rep (eSl E_impl_TokenCount) A0 w v0 p0) (h1 : Rep (eSl eStr) A0 w v1 p1) :
    Calls Try.prog 3 #[v0, v1] w fun e w' => ∃ v, e = .returned v ∧ (v = .bool r ∧ Fr w w') := by
  unfold M_laws_FnExactOrderTokens at hr
  obtain ⟨w0, hw0⟩ : ∃ w0, w0 = w := ⟨_, rfl⟩
  have hF : Fr w0 w := hw0 ▸ Fr.refl _
  have hA0 : ∀ b o, A0 b o → b < w0.heap.size := fun b o h => hw0 ▸ hA b o h
  have hA00 : AvOK A0 w0 := hA0
  rw [show Fr w = Fr w0 from hw0 ▸ rfl]
  clear hw0
  obtain ⟨A, hAe⟩ : ∃ A, A = A0 := ⟨_, rfl⟩
  have hAA : ∀ b o, A0 b o → A b o := fun b o h => hAe ▸ h
  replace hA : AvOK A w := hAe ▸ hA
  have hO : IniOK [] A w := IniOK.nil
  refine calls_of_HT2 [.tmp 4] Try.func3 Try.ntmps3 (by decide) rfl rfl (Nat.le_of_ble_eq_true rfl) ?_
  intro R hR
  have f_v0 : Rep (eSl E_impl_TokenCount) A w v0 p0 := hAe ▸ h0
  replace h0 : R 0 = v0 := hR 0 _ rfl
  have f_v1 : Rep (eSl eStr) A w v1 p1 := hAe ▸ h1
  replace h1 : R 1 = v1 := hR 1 _ rfl
  clear hR hAe
  refine HT.seq ?_
  refine HT.text (l := ⟨_, true, .raw (.bool false)⟩ :: []) (tl := []) (by kernel_rfl) (by kernel_rfl) (by kernel_rfl) ?_ ?_
  · exact
      Obls.cons (Obl.plain rfl rfl fun R' w' hw hs hd => by exact of_assign rfl) <|
      Obls.nil
  intro R w hw hs hF'
  replace h0 : R 0 = v0 := (hs 0 rfl).trans h0
  replace h1 : R 1 = v1 := (hs 1 rfl).trans h1
  replace f_v0 := f_v0.fr hw
  replace f_v1 := f_v1.fr hw
  replace hO := hO.fr hw
  replace hA := hA.fr hw.size
  replace hF := hF.trans hw
  clear hs hF' hw
  refine seqR_nil ?_
  refine HT.seq ?_
  refine HT.text (l := ⟨_, true, .raw (.int .i64 (1048576 : Int))⟩ :: []) (tl := []) (by kernel_rfl) (by kernel_rfl) (by kernel_rfl) ?_ ?_
  · exact
      Obls.cons (Obl.plain rfl rfl fun R' w' hw hs hd => by exact of_assign rfl) <|
      Obls.nil
  intro R w hw hs hF'
  replace h0 : R 0 = v0 := (hs 0 rfl).trans h0
  replace h1 : R 1 = v1 := (hs 1 rfl).trans h1
  have h5 : R 5 = .int .i64 (1048576 : Int) := hF' 0 _ _ rfl rfl rfl
  replace f_v0 := f_v0.fr hw
  replace f_v1 := f_v1.fr hw
  replace hO := hO.fr hw
  replace hA := hA.fr hw.size
  replace hF := hF.trans hw
  clear hs hF' hw
  refine seqR_nil ?_
  refine HT.seq ?_
  obtain ⟨x1, q2, hr⟩ := cl_some hr
  refine HT.text (l := ⟨_, true, .raw v0⟩ :: ⟨_, true, .raw (.int .i64 (1048576 : Int))⟩ :: ⟨_, true, .raw (.int .i64 x1)⟩ :: ⟨_, true, .raw (.int .i64 x1)⟩ :: []) (tl := []) (by kernel_rfl) (by kernel_rfl) (by kernel_rfl) ?_ ?_
  · exact
      Obls.cons (Obl.plain rfl rfl fun R' w' hw hs hd => by have a0 : R' 0 = v0 := (hs 0 rfl).trans h0; exact of_move a0) <|
      Obls.cons (Obl.plain rfl rfl fun R' w' hw hs hd => by have a0 : R' 5 = .int .i64 (1048576 : Int) := (hs 5 rfl).trans h5; exact of_move a0) <|
      Obls.cons (Obl.plain rfl rfl fun R' w' hw hs hd => by have a0 : R' 14 = v0 := hd 0 _ _ _ rfl rfl rfl rfl rfl; have ra0 := (f_v0.fr hw).eq a0; have a1 : R' 15 = .int .i64 (1048576 : Int) := hd 1 _ _ _ rfl rfl rfl rfl rfl; exact of_call Try.call13 (M_laws_szTokenCountS_ok (q2 rfl) (hA.fr hw.size) ra0 a1)) <|
      Obls.cons (Obl.plain rfl rfl fun R' w' hw hs hd => by have a0 : R' 16 = .int .i64 x1 := hd 0 _ _ _ rfl rfl rfl rfl rfl; exact of_assign a0) <|
      Obls.nil
  intro R w hw hs hF'
  replace h0 : R 0 = v0 := (hs 0 rfl).trans h0
  replace h1 : R 1 = v1 := (hs 1 rfl).trans h1
  have h5 : R 5 = .int .i64 x1 := hF' 3 _ _ rfl rfl rfl
  replace f_v0 := f_v0.fr hw
  replace f_v1 := f_v1.fr hw
  replace hO := hO.fr hw
  replace hA := hA.fr hw.size
  replace hF := hF.trans hw
  clear hs hF' hw
  refine seqR_nil ?_
  refine HT.seq ?_
  refine HT.seq ?_
  refine HT.text (l := ⟨_, true, .raw (.int .i64 x1)⟩ :: ⟨_, true, .raw (.bool (decide (x1 < (0 : Int))))⟩ :: []) (tl := []) (by kernel_rfl) (by kernel_rfl) (by kernel_rfl) ?_ ?_
  · exact
      Obls.cons (Obl.plain rfl rfl fun R' w' hw hs hd => by have a0 : R' 5 = .int .i64 x1 := (hs 5 rfl).trans h5; exact of_move a0) <|
      Obls.cons (Obl.plain rfl rfl fun R' w' hw hs hd => by have a0 : R' 17 = .int .i64 x1 := hd 0 _ _ _ rfl rfl rfl rfl rfl; exact of_lss a0 rfl) <|
      Obls.nil
  intro R w hw hs hF'
  replace h0 : R 0 = v0 := (hs 0 rfl).trans h0
  replace h1 : R 1 = v1 := (hs 1 rfl).trans h1
  replace h5 : R 5 = .int .i64 x1 := (hs 5 rfl).trans h5
  have h18 : R 18 = .bool (decide (x1 < (0 : Int))) := hF' 1 _ _ rfl rfl rfl
  replace f_v0 := f_v0.fr hw
  replace f_v1 := f_v1.fr hw
  replace hO := hO.fr hw
  replace hA := hA.fr hw.size
  replace hF := hF.trans hw
  clear hs hF' hw
  refine seqR_nil ?_
  refine HT.cond (decide (x1 < (0 : Int))) h18 (fun c3 => ?_) (fun c3 => ?_)
  · have hr := cnd_t c3 hr
    refine HT.seq ?_
    refine HT.text (l := ⟨_, true, .raw (.bool true)⟩ :: []) (tl := []) (by kernel_rfl) (by kernel_rfl) (by kernel_rfl) ?_ ?_
    · exact
        Obls.cons (Obl.plain rfl rfl fun R' w' hw hs hd => by exact of_assign rfl) <|
        Obls.nil
    intro R w hw hs hF'
    have h4 : R 4 = .bool true := hF' 0 _ _ rfl rfl rfl
    replace hO := hO.fr hw
    replace hA := hA.fr hw.size
    replace hF := hF.trans hw
    clear hs hF' hw
    refine seqR_nil ?_
    refine HT.ret ?_
    obtain rfl := Option.some.inj hr
    exact ⟨.inr rfl, [R 4], ⟨rfl, trivial⟩, h4, hF⟩
  · have hr := cnd_f c3 hr
    refine HT.skip ?_
    refine HT.seq ?_
    obtain ⟨x4, q5, hr⟩ := cl_some hr
    refine HT.text (l := ⟨_, true, .raw v1⟩ :: ⟨_, true, .raw (.int .i64 x1)⟩ :: ⟨_, true, .raw (.int .i64 x4)⟩ :: ⟨_, true, .raw (.int .i64 x4)⟩ :: []) (tl := []) (by kernel_rfl) (by kernel_rfl) (by kernel_rfl) ?_ ?_
    · exact
        Obls.cons (Obl.plain rfl rfl fun R' w' hw hs hd => by have a0 : R' 1 = v1 := (hs 1 rfl).trans h1; exact of_move a0) <|
        Obls.cons (Obl.plain rfl rfl fun R' w' hw hs hd => by have a0 : R' 5 = .int .i64 x1 := (hs 5 rfl).trans h5; exact of_move a0) <|
        Obls.cons (Obl.plain rfl rfl fun R' w' hw hs hd => by have a0 : R' 19 = v1 := hd 0 _ _ _ rfl rfl rfl rfl rfl; have ra0 := (f_v1.fr hw).eq a0; have a1 : R' 20 = .int .i64 x1 := hd 1 _ _ _ rfl rfl rfl rfl rfl; exact of_call Try.call14 (M_laws_szStringS_ok (q5 rfl) (hA.fr hw.size) ra0 a1)) <|
        Obls.cons (Obl.plain rfl rfl fun R' w' hw hs hd => by have a0 : R' 21 = .int .i64 x4 := hd 0 _ _ _ rfl rfl rfl rfl rfl; exact of_assign a0) <|
        Obls.nil
    intro R w hw hs hF'
    replace h0 : R 0 = v0 := (hs 0 rfl).trans h0
    replace h1 : R 1 = v1 := (hs 1 rfl).trans h1
    have h5 : R 5 = .int .i64 x4 := hF' 3 _ _ rfl rfl rfl
    replace f_v0 := f_v0.fr hw
    replace f_v1 := f_v1.fr hw
    replace hO := hO.fr hw
    replace hA := hA.fr hw.size
    replace hF := hF.trans hw
    clear hs hF' hw
    refine seqR_nil ?_
    refine HT.seq ?_
    refine HT.seq ?_
    refine HT.text (l := ⟨_, true, .raw (.int .i64 x4)⟩ :: ⟨_, true, .raw (.bool (decide (x4 < (0 : Int))))⟩ :: []) (tl := []) (by kernel_rfl) (by kernel_rfl) (by kernel_rfl) ?_ ?_
    · exact
        Obls.cons (Obl.plain rfl rfl fun R' w' hw hs hd => by have a0 : R' 5 = .int .i64 x4 := (hs 5 rfl).trans h5; exact of_move a0) <|
        Obls.cons (Obl.plain rfl rfl fun R' w' hw hs hd => by have a0 : R' 22 = .int .i64 x4 := hd 0 _ _ _ rfl rfl rfl rfl rfl; exact of_lss a0 rfl) <|
        Obls.nil
    intro R w hw hs hF'
    replace h0 : R 0 = v0 := (hs 0 rfl).trans h0
    replace h1 : R 1 = v1 := (hs 1 rfl).trans h1
    have h23 : R 23 = .bool (decide (x4 < (0 : Int))) := hF' 1 _ _ rfl rfl rfl
    replace f_v0 := f_v0.fr hw
    replace f_v1 := f_v1.fr hw
    replace hO := hO.fr hw
    replace hA := hA.fr hw.size
    replace hF := hF.trans hw
    clear hs hF' hw
    refine seqR_nil ?_
    refine HT.cond (decide (x4 < (0 : Int))) h23 (fun c6 => ?_) (fun c6 => ?_)
    · have hr := cnd_t c6 hr
      refine HT.seq ?_
      refine HT.text (l := ⟨_, true, .raw (.bool true)⟩ :: []) (tl := []) (by kernel_rfl) (by kernel_rfl) (by kernel_rfl) ?_ ?_
      · exact
          Obls.cons (Obl.plain rfl rfl fun R' w' hw hs hd => by exact of_assign rfl) <|
          Obls.nil
      intro R w hw hs hF'
      have h4 : R 4 = .bool true := hF' 0 _ _ rfl rfl rfl
      replace hO := hO.fr hw
      replace hA := hA.fr hw.size
      replace hF := hF.trans hw
      clear hs hF' hw
      refine seqR_nil ?_
      refine HT.ret ?_
      obtain rfl := Option.some.inj hr
      exact ⟨.inr rfl, [R 4], ⟨rfl, trivial⟩, h4, hF⟩
    · have hr := cnd_f c6 hr
      refine HT.skip ?_
      refine HT.seq ?_
      obtain ⟨x7, q8, hr⟩ := cl_some hr
      obtain ⟨x9, q10, hr⟩ := cl_some hr
      obtain ⟨x11, q12, hr⟩ := cl_some hr
      refine HT.text (l := ⟨_, true, .raw v0⟩ :: ⟨_, true, .rep (eSl E_impl_TokenCount) A x7⟩ :: ⟨_, true, .raw v1⟩ :: ⟨_, true, .rep (eSl eStr) A x9⟩ :: ⟨_, true, .rep (eSl eStr) A x11⟩ :: ⟨_, true, .rep (eSl eStr) A x11⟩ :: []) (tl := []) (by kernel_rfl) (by kernel_rfl) (by kernel_rfl) ?_ ?_
      · exact
          Obls.cons (Obl.plain rfl rfl fun R' w' hw hs hd => by have a0 : R' 0 = v0 := (hs 0 rfl).trans h0; exact of_move a0) <|
          Obls.cons (Obl.plain rfl rfl fun R' w' hw hs hd => by have a0 : R' 24 = v0 := hd 0 _ _ _ rfl rfl rfl rfl rfl; have ra0 := (f_v0.fr hw).eq a0; exact of_call Try.call16 (M_laws_toTokenCountS_okR (q8 rfl) (hA.fr hw.size) ra0)) <|
          Obls.cons (Obl.plain rfl rfl fun R' w' hw hs hd => by have a0 : R' 1 = v1 := (hs 1 rfl).trans h1; exact of_move a0) <|
          Obls.cons (Obl.plain rfl rfl fun R' w' hw hs hd => by have a0 : R' 26 = v1 := hd 0 _ _ _ rfl rfl rfl rfl rfl; have ra0 := (f_v1.fr hw).eq a0; exact of_call Try.call17 (M_laws_toStringS_okR (q10 rfl) (hA.fr hw.size) ra0)) <|
          Obls.cons (Obl.plain rfl rfl fun R' w' hw hs hd => by have a0 : Rep (eSl E_impl_TokenCount) A w' (R' 25) x7 := hd 0 _ _ _ rfl rfl rfl rfl rfl; have a1 : Rep (eSl eStr) A w' (R' 27) x9 := hd 1 _ _ _ rfl rfl rfl rfl rfl; exact of_call Try.call15 (M_spec_OrderTokens_okR (q12 rfl) (hA.fr hw.size) a0 a1)) <|
          Obls.cons (Obl.plain rfl rfl fun R' w' hw hs hd => by have a0 : Rep (eSl eStr) A w' (R' 28) x11 := hd 0 _ _ _ rfl rfl rfl rfl rfl; exact of_assign a0) <|
          Obls.nil
      intro R w hw hs hF'
      replace h0 : R 0 = v0 := (hs 0 rfl).trans h0
      replace h1 : R 1 = v1 := (hs 1 rfl).trans h1
      obtain ⟨u13, h6, f_u13⟩ : ∃ u, R 6 = u ∧ Rep (eSl eStr) A w u x11 := ⟨_, rfl, hF' 5 _ _ rfl rfl rfl⟩
      replace f_v0 := f_v0.fr hw
      replace f_v1 := f_v1.fr hw
      replace hO := hO.fr hw
      replace hA := hA.fr hw.size
      replace hF := hF.trans hw
      clear hs hF' hw
      refine seqR_nil ?_
      refine HT.seq ?_
      obtain ⟨x14, q15, hr⟩ := cl_some hr
      refine HT.textR [] (⟨_, true, [], none, true, fun A => .raw v0⟩ :: ⟨_, true, [], some (.vec w0.heap.size 76 E_impl_TokenCount x14), true, fun A => .any⟩ :: ⟨_, true, [1], some (.vec w0.heap.size 76 E_impl_TokenCount x14), true, fun A => .any⟩ :: []) (by kernel_rfl) (by kernel_rfl) (Wf.mk' (by kernel_rfl) (UAll.cons ust_raw (UAll.cons ust_any (UAll.cons ust_any (UAll.nil)))) (by kernel_rfl) (by kernel_rfl)) hO hA ?_ ?_
      · exact
          OblsR.cons (OblR.plain rfl rfl rfl rfl fun A' R' w' ho hd => by have a0 : R' 0 = v0 := (ho.old 0 rfl).trans h0; exact of_move a0) <|
          OblsR.cons (OblR.made _ rfl rfl rfl rfl fun A' R' w' ho hd => by have a0 : R' 29 = v0 := hd 0 _ _ _ rfl rfl rfl rfl rfl; have ra0 := (f_v0.stp ho.stp).eq a0; exact made_call Try.call16 (M_laws_toTokenCountS_ok (q15 rfl) ho.av ra0) (Nat.le_trans hF.size ho.ch.size)) <|
          OblsR.cons (OblR.took 1 _ _ rfl rfl rfl rfl rfl fun A' R' w' ho hd u hok hav hin hop hds => by exact took_assign (hop _ _ rfl rfl rfl rfl).symm hok hav) <|
          OblsR.nil
      intro done ρ σ A R w hdn hI
      replace h0 : R 0 = v0 := (hI.reg rfl).trans h0
      replace h1 : R 1 = v1 := (hI.reg rfl).trans h1
      replace h6 : R 6 = u13 := (hI.reg rfl).trans h6
      obtain ⟨u16, e_u16⟩ : ∃ u, ρ 2 = u := ⟨_, rfl⟩
      have h7 : R 7 = u16 := (hI.opvR hdn 2 2 rfl rfl rfl rfl rfl).symm.trans e_u16
      replace f_u13 := f_u13.stp hI.stp
      replace f_v0 := f_v0.stp hI.stp
      replace f_v1 := f_v1.stp hI.stp
      replace hAA := hI.low' hAA hA0 (hO.ge (trivial))
      replace hF : Fr w0 w := hF.tr hI.ch (hO.ge (trivial))
      replace hO : IniOK [ob u16 (.vec w0.heap.size 76 E_impl_TokenCount x14)] A w := hI.left hdn [(2, ob u16 (.vec w0.heap.size 76 E_impl_TokenCount x14))] ⟨rfl, rfl, e_u16, rfl, rfl, trivial⟩
      replace hA := hI.avok
      clear hI
      refine HT.seq ?_
      obtain ⟨x17, q18, hr⟩ := cl_some hr
      refine HT.textR [ob u16 (.vec w0.heap.size 76 E_impl_TokenCount x14)] (⟨_, true, [], none, true, fun A => .raw v1⟩ :: ⟨_, true, [], some (.vec w0.heap.size 9 eStr x17), true, fun A => .any⟩ :: ⟨_, true, [2], some (.vec w0.heap.size 9 eStr x17), true, fun A => .any⟩ :: []) (by kernel_rfl) (by kernel_rfl) (Wf.mk' (by kernel_rfl) (UAll.cons ust_raw (UAll.cons ust_any (UAll.cons ust_any (UAll.nil)))) (by kernel_rfl) (by kernel_rfl)) hO hA ?_ ?_
      · exact
          OblsR.cons (OblR.plain rfl rfl rfl rfl fun A' R' w' ho hd => by have a0 : R' 1 = v1 := (ho.old 1 rfl).trans h1; exact of_move a0) <|
          OblsR.cons (OblR.made _ rfl rfl rfl rfl fun A' R' w' ho hd => by have a0 : R' 31 = v1 := hd 0 _ _ _ rfl rfl rfl rfl rfl; have ra0 := (f_v1.stp ho.stp).eq a0; exact made_call Try.call17 (M_laws_toStringS_ok (q18 rfl) ho.av ra0) (Nat.le_trans hF.size ho.ch.size)) <|
          OblsR.cons (OblR.took 2 _ _ rfl rfl rfl rfl rfl fun A' R' w' ho hd u hok hav hin hop hds => by exact took_assign (hop _ _ rfl rfl rfl rfl).symm hok hav) <|
          OblsR.nil
      intro done ρ σ A R w hdn hI
      replace h0 : R 0 = v0 := (hI.reg rfl).trans h0
      replace h1 : R 1 = v1 := (hI.reg rfl).trans h1
      replace h6 : R 6 = u13 := (hI.reg rfl).trans h6
      replace h7 : R 7 = u16 := (hI.reg rfl).trans h7
      have z19 := hI.inivR 0 rfl
      obtain ⟨u20, e_u20⟩ : ∃ u, ρ 3 = u := ⟨_, rfl⟩
      have h8 : R 8 = u20 := (hI.opvR hdn 3 2 rfl rfl rfl rfl rfl).symm.trans e_u20
      replace f_u13 := f_u13.stp hI.stp
      replace f_v0 := f_v0.stp hI.stp
      replace f_v1 := f_v1.stp hI.stp
      replace hAA := hI.low' hAA hA0 (hO.ge (⟨rfl, trivial⟩))
      replace hF : Fr w0 w := hF.tr hI.ch (hO.ge (⟨rfl, trivial⟩))
      replace hO : IniOK [ob u16 (.vec w0.heap.size 76 E_impl_TokenCount x14), ob u20 (.vec w0.heap.size 9 eStr x17)] A w := hI.left hdn [(0, ob u16 (.vec w0.heap.size 76 E_impl_TokenCount x14)), (3, ob u20 (.vec w0.heap.size 9 eStr x17))] ⟨rfl, rfl, z19, rfl, rfl, ⟨rfl, rfl, e_u20, rfl, rfl, trivial⟩⟩
      replace hA := hI.avok
      clear hI
      refine HT.seq ?_
      obtain ⟨x21, q22, hr⟩ := cl_some hr
      refine HT.textR [ob u16 (.vec w0.heap.size 76 E_impl_TokenCount x14), ob u20 (.vec w0.heap.size 9 eStr x17)] (⟨_, true, [], none, true, fun A => .raw u16⟩ :: ⟨_, true, [], none, true, fun A => .raw u20⟩ :: ⟨_, true, [], some (.vec w0.heap.size 9 eStr x21), true, fun A => .any⟩ :: ⟨_, true, [4], some (.vec w0.heap.size 9 eStr x21), true, fun A => .any⟩ :: []) (by kernel_rfl) (by kernel_rfl) (Wf.mk' (by kernel_rfl) (UAll.cons ust_raw (UAll.cons ust_raw (UAll.cons ust_any (UAll.cons ust_any (UAll.nil))))) (by kernel_rfl) (by kernel_rfl)) hO hA ?_ ?_
      · exact
          OblsR.cons (OblR.plain rfl rfl rfl rfl fun A' R' w' ho hd => by have a0 : R' 7 = u16 := (ho.old 7 rfl).trans h7; exact of_move a0) <|
          OblsR.cons (OblR.plain rfl rfl rfl rfl fun A' R' w' ho hd => by have a0 : R' 8 = u20 := (ho.old 8 rfl).trans h8; exact of_move a0) <|
          OblsR.cons (OblR.made _ rfl rfl rfl rfl fun A' R' w' ho hd => by have a0 : R' 33 = u16 := hd 0 _ _ _ rfl rfl rfl rfl rfl; have ra0 := (vec_rep (ho.rd 0 _ rfl rfl) (ho.low' hAA hA0 (hO.ge (⟨rfl, ⟨rfl, trivial⟩⟩))) hA0).eq a0; have a1 : R' 34 = u20 := hd 1 _ _ _ rfl rfl rfl rfl rfl; have ra1 := (vec_rep (ho.rd 1 _ rfl rfl) (ho.low' hAA hA0 (hO.ge (⟨rfl, ⟨rfl, trivial⟩⟩))) hA0).eq a1; exact made_call0 Try.call18 (M_impl_OrderTokens_ok (q22 rfl) (hA00.fr ((Nat.le_trans hF.size ho.ch.size))) ra0 ra1) (Nat.le_trans hF.size ho.ch.size) (ho.low' hAA hA0 (hO.ge (⟨rfl, ⟨rfl, trivial⟩⟩))) (fun _ _ _ _ _ h => h)) <|
          OblsR.cons (OblR.took 4 _ _ rfl rfl rfl rfl rfl fun A' R' w' ho hd u hok hav hin hop hds => by exact took_assign (hop _ _ rfl rfl rfl rfl).symm hok hav) <|
          OblsR.nil
      intro done ρ σ A R w hdn hI
      replace h0 : R 0 = v0 := (hI.reg rfl).trans h0
      replace h1 : R 1 = v1 := (hI.reg rfl).trans h1
      replace h6 : R 6 = u13 := (hI.reg rfl).trans h6
      replace h7 : R 7 = u16 := (hI.reg rfl).trans h7
      replace h8 : R 8 = u20 := (hI.reg rfl).trans h8
      have z23 := hI.inivR 0 rfl
      have z24 := hI.inivR 1 rfl
      obtain ⟨u25, e_u25⟩ : ∃ u, ρ 5 = u := ⟨_, rfl⟩
      have h9 : R 9 = u25 := (hI.opvR hdn 5 3 rfl rfl rfl rfl rfl).symm.trans e_u25
      replace f_u13 := f_u13.stp hI.stp
      replace f_v0 := f_v0.stp hI.stp
      replace f_v1 := f_v1.stp hI.stp
      replace hAA := hI.low' hAA hA0 (hO.ge (⟨rfl, ⟨rfl, trivial⟩⟩))
      replace hF : Fr w0 w := hF.tr hI.ch (hO.ge (⟨rfl, ⟨rfl, trivial⟩⟩))
      replace hO : IniOK [ob u16 (.vec w0.heap.size 76 E_impl_TokenCount x14), ob u20 (.vec w0.heap.size 9 eStr x17), ob u25 (.vec w0.heap.size 9 eStr x21)] A w := hI.left hdn [(0, ob u16 (.vec w0.heap.size 76 E_impl_TokenCount x14)), (1, ob u20 (.vec w0.heap.size 9 eStr x17)), (5, ob u25 (.vec w0.heap.size 9 eStr x21))] ⟨rfl, rfl, z23, rfl, rfl, ⟨rfl, rfl, z24, rfl, rfl, ⟨rfl, rfl, e_u25, rfl, rfl, trivial⟩⟩⟩
      replace hA := hI.avok
      clear hI
      refine HT.seq ?_
      refine HT.seq ?_
      obtain ⟨x26, q27, hr⟩ := cl_some hr
      refine HT.text (l := ⟨_, true, .raw u25⟩ :: ⟨_, true, .raw u13⟩ :: ⟨_, true, .raw (.bool x26)⟩ :: ⟨_, true, .raw (.bool (!x26))⟩ :: []) (tl := []) (by kernel_rfl) (by kernel_rfl) (by kernel_rfl) ?_ ?_
      · exact
          Obls.cons (Obl.plain rfl rfl fun R' w' hw hs hd => by have a0 : R' 9 = u25 := (hs 9 rfl).trans h9; exact of_move a0) <|
          Obls.cons (Obl.plain rfl rfl fun R' w' hw hs hd => by have a0 : R' 6 = u13 := (hs 6 rfl).trans h6; exact of_move a0) <|
          Obls.cons (Obl.plain rfl rfl fun R' w' hw hs hd => by have a0 : R' 36 = u25 := hd 0 _ _ _ rfl rfl rfl rfl rfl; have ra0 := (vec_rep ((hO.fr hw).ok 2 _ rfl).1 hAA hA0).eq a0; have a1 : R' 37 = u13 := hd 1 _ _ _ rfl rfl rfl rfl rfl; have ra1 := (f_u13.fr hw).eq a1; exact of_call Try.call19 (M_laws_eqStringS_ok (q27 rfl) (hA00.fr ((Nat.le_trans hF.size hw.size))) ra0 (ra1.down hAA))) <|
          Obls.cons (Obl.plain rfl rfl fun R' w' hw hs hd => by have a0 : R' 38 = .bool x26 := hd 0 _ _ _ rfl rfl rfl rfl rfl; exact of_not a0) <|
          Obls.nil
      intro R w hw hs hF'
      replace h0 : R 0 = v0 := (hs 0 rfl).trans h0
      replace h1 : R 1 = v1 := (hs 1 rfl).trans h1
      replace h6 : R 6 = u13 := (hs 6 rfl).trans h6
      replace h7 : R 7 = u16 := (hs 7 rfl).trans h7
      replace h8 : R 8 = u20 := (hs 8 rfl).trans h8
      replace h9 : R 9 = u25 := (hs 9 rfl).trans h9
      have h39 : R 39 = .bool (!x26) := hF' 3 _ _ rfl rfl rfl
      replace f_u13 := f_u13.fr hw
      replace f_v0 := f_v0.fr hw
      replace f_v1 := f_v1.fr hw
      replace hO := hO.fr hw
      replace hA := hA.fr hw.size
      replace hF := hF.trans hw
      clear hs hF' hw
      refine seqR_nil ?_
      refine HT.cond (!x26) h39 (fun c28 => ?_) (fun c28 => ?_)
      · have hr := cnd_t c28 hr
        refine HT.seq ?_
        refine HT.text (l := ⟨_, true, .raw (.bool false)⟩ :: []) (tl := []) (by kernel_rfl) (by kernel_rfl) (by kernel_rfl) ?_ ?_
        · exact
            Obls.cons (Obl.plain rfl rfl fun R' w' hw hs hd => by exact of_assign rfl) <|
            Obls.nil
        intro R w hw hs hF'
        have h4 : R 4 = .bool false := hF' 0 _ _ rfl rfl rfl
        replace hO := hO.fr hw
        replace hO : IniOK [] A w := hO.sub [] trivial
        replace hA := hA.fr hw.size
        replace hF := hF.trans hw
        clear hs hF' hw
        refine seqR_nil ?_
        refine HT.ret ?_
        obtain rfl := Option.some.inj hr
        exact ⟨.inr rfl, [R 4], ⟨rfl, trivial⟩, h4, hF⟩
      · have hr := cnd_f c28 hr
        refine HT.skip ?_
        refine HT.seq ?_
        refine HT.seq ?_
        obtain ⟨x29, q30, hr⟩ := cl_some hr
        obtain ⟨x31, q32, hr⟩ := cl_some hr
        refine HT.text (l := ⟨_, true, .raw u16⟩ :: ⟨_, true, .raw v0⟩ :: ⟨_, true, .rep (eSl E_impl_TokenCount) A x29⟩ :: ⟨_, true, .raw (.bool x31)⟩ :: ⟨_, true, .raw (.bool (!x31))⟩ :: []) (tl := []) (by kernel_rfl) (by kernel_rfl) (by kernel_rfl) ?_ ?_
        · exact
            Obls.cons (Obl.plain rfl rfl fun R' w' hw hs hd => by have a0 : R' 7 = u16 := (hs 7 rfl).trans h7; exact of_move a0) <|
            Obls.cons (Obl.plain rfl rfl fun R' w' hw hs hd => by have a0 : R' 0 = v0 := (hs 0 rfl).trans h0; exact of_move a0) <|
            Obls.cons (Obl.plain rfl rfl fun R' w' hw hs hd => by have a0 : R' 41 = v0 := hd 0 _ _ _ rfl rfl rfl rfl rfl; have ra0 := (f_v0.fr hw).eq a0; exact of_call Try.call16 (M_laws_toTokenCountS_okR (q30 rfl) (hA.fr hw.size) ra0)) <|
            Obls.cons (Obl.plain rfl rfl fun R' w' hw hs hd => by have a0 : R' 40 = u16 := hd 0 _ _ _ rfl rfl rfl rfl rfl; have ra0 := (vec_rep ((hO.fr hw).ok 0 _ rfl).1 hAA hA0).eq a0; have a1 : Rep (eSl E_impl_TokenCount) A w' (R' 42) x29 := hd 1 _ _ _ rfl rfl rfl rfl rfl; exact of_call Try.call20 (M_laws_eqTokenCountS_ok (q32 rfl) (hA00.fr ((Nat.le_trans hF.size hw.size))) ra0 (a1.down hAA))) <|
            Obls.cons (Obl.plain rfl rfl fun R' w' hw hs hd => by have a0 : R' 43 = .bool x31 := hd 0 _ _ _ rfl rfl rfl rfl rfl; exact of_not a0) <|
            Obls.nil
        intro R w hw hs hF'
        replace h0 : R 0 = v0 := (hs 0 rfl).trans h0
        replace h1 : R 1 = v1 := (hs 1 rfl).trans h1
        replace h6 : R 6 = u13 := (hs 6 rfl).trans h6
        replace h7 : R 7 = u16 := (hs 7 rfl).trans h7
        replace h8 : R 8 = u20 := (hs 8 rfl).trans h8
        replace h9 : R 9 = u25 := (hs 9 rfl).trans h9
        have h44 : R 44 = .bool (!x31) := hF' 4 _ _ rfl rfl rfl
        replace f_u13 := f_u13.fr hw
        replace f_v0 := f_v0.fr hw
        replace f_v1 := f_v1.fr hw
        replace hO := hO.fr hw
        replace hA := hA.fr hw.size
        replace hF := hF.trans hw
        clear hs hF' hw
        refine seqR_nil ?_
        refine HT.cond (!x31) h44 (fun c33 => ?_) (fun c33 => ?_)
        · have hr := cnd_t c33 hr
          refine HT.seq ?_
          refine HT.text (l := ⟨_, true, .raw (.bool false)⟩ :: []) (tl := []) (by kernel_rfl) (by kernel_rfl) (by kernel_rfl) ?_ ?_
          · exact
              Obls.cons (Obl.plain rfl rfl fun R' w' hw hs hd => by exact of_assign rfl) <|
              Obls.nil
          intro R w hw hs hF'
          have h4 : R 4 = .bool false := hF' 0 _ _ rfl rfl rfl
          replace hO := hO.fr hw
          replace hO : IniOK [] A w := hO.sub [] trivial
          replace hA := hA.fr hw.size
          replace hF := hF.trans hw
          clear hs hF' hw
          refine seqR_nil ?_
          refine HT.ret ?_
          obtain rfl := Option.some.inj hr
          exact ⟨.inr rfl, [R 4], ⟨rfl, trivial⟩, h4, hF⟩
        · have hr := cnd_f c33 hr
          refine HT.skip ?_
          refine HT.seq ?_
          refine HT.seq ?_
          obtain ⟨x34, q35, hr⟩ := cl_some hr
          obtain ⟨x36, q37, hr⟩ := cl_some hr
          refine HT.text (l := ⟨_, true, .raw u20⟩ :: ⟨_, true, .raw v1⟩ :: ⟨_, true, .rep (eSl eStr) A x34⟩ :: ⟨_, true, .raw (.bool x36)⟩ :: ⟨_, true, .raw (.bool (!x36))⟩ :: []) (tl := []) (by kernel_rfl) (by kernel_rfl) (by kernel_rfl) ?_ ?_
          · exact
              Obls.cons (Obl.plain rfl rfl fun R' w' hw hs hd => by have a0 : R' 8 = u20 := (hs 8 rfl).trans h8; exact of_move a0) <|
              Obls.cons (Obl.plain rfl rfl fun R' w' hw hs hd => by have a0 : R' 1 = v1 := (hs 1 rfl).trans h1; exact of_move a0) <|
              Obls.cons (Obl.plain rfl rfl fun R' w' hw hs hd => by have a0 : R' 46 = v1 := hd 0 _ _ _ rfl rfl rfl rfl rfl; have ra0 := (f_v1.fr hw).eq a0; exact of_call Try.call17 (M_laws_toStringS_okR (q35 rfl) (hA.fr hw.size) ra0)) <|
              Obls.cons (Obl.plain rfl rfl fun R' w' hw hs hd => by have a0 : R' 45 = u20 := hd 0 _ _ _ rfl rfl rfl rfl rfl; have ra0 := (vec_rep ((hO.fr hw).ok 1 _ rfl).1 hAA hA0).eq a0; have a1 : Rep (eSl eStr) A w' (R' 47) x34 := hd 1 _ _ _ rfl rfl rfl rfl rfl; exact of_call Try.call19 (M_laws_eqStringS_ok (q37 rfl) (hA00.fr ((Nat.le_trans hF.size hw.size))) ra0 (a1.down hAA))) <|
              Obls.cons (Obl.plain rfl rfl fun R' w' hw hs hd => by have a0 : R' 48 = .bool x36 := hd 0 _ _ _ rfl rfl rfl rfl rfl; exact of_not a0) <|
              Obls.nil
          intro R w hw hs hF'
          replace h0 : R 0 = v0 := (hs 0 rfl).trans h0
          replace h1 : R 1 = v1 := (hs 1 rfl).trans h1
          replace h6 : R 6 = u13 := (hs 6 rfl).trans h6
          replace h7 : R 7 = u16 := (hs 7 rfl).trans h7
          replace h8 : R 8 = u20 := (hs 8 rfl).trans h8
          replace h9 : R 9 = u25 := (hs 9 rfl).trans h9
          have h49 : R 49 = .bool (!x36) := hF' 4 _ _ rfl rfl rfl
          replace f_u13 := f_u13.fr hw
          replace f_v0 := f_v0.fr hw
          replace f_v1 := f_v1.fr hw
          replace hO := hO.fr hw
          replace hA := hA.fr hw.size
          replace hF := hF.trans hw
          clear hs hF' hw
          refine seqR_nil ?_
          refine HT.cond (!x36) h49 (fun c38 => ?_) (fun c38 => ?_)
          · have hr := cnd_t c38 hr
            refine HT.seq ?_
            refine HT.text (l := ⟨_, true, .raw (.bool false)⟩ :: []) (tl := []) (by kernel_rfl) (by kernel_rfl) (by kernel_rfl) ?_ ?_
            · exact
                Obls.cons (Obl.plain rfl rfl fun R' w' hw hs hd => by exact of_assign rfl) <|
                Obls.nil
            intro R w hw hs hF'
            have h4 : R 4 = .bool false := hF' 0 _ _ rfl rfl rfl
            replace hO := hO.fr hw
            replace hO : IniOK [] A w := hO.sub [] trivial
            replace hA := hA.fr hw.size
            replace hF := hF.trans hw
            clear hs hF' hw
            refine seqR_nil ?_
            refine HT.ret ?_
            obtain rfl := Option.some.inj hr
            exact ⟨.inr rfl, [R 4], ⟨rfl, trivial⟩, h4, hF⟩
          · have hr := cnd_f c38 hr
            refine HT.skip ?_
            refine HT.seq ?_
            refine HT.text (l := ⟨_, true, .raw (.int .i64 (1 : Int))⟩ :: []) (tl := []) (by kernel_rfl) (by kernel_rfl) (by kernel_rfl) ?_ ?_
            · exact
                Obls.cons (Obl.plain rfl rfl fun R' w' hw hs hd => by exact of_assign rfl) <|
                Obls.nil
            intro R w hw hs hF'
            replace h0 : R 0 = v0 := (hs 0 rfl).trans h0
            replace h1 : R 1 = v1 := (hs 1 rfl).trans h1
            replace h6 : R 6 = u13 := (hs 6 rfl).trans h6
            replace h7 : R 7 = u16 := (hs 7 rfl).trans h7
            replace h8 : R 8 = u20 := (hs 8 rfl).trans h8
            replace h9 : R 9 = u25 := (hs 9 rfl).trans h9
            have h10 : R 10 = .int .i64 (1 : Int) := hF' 0 _ _ rfl rfl rfl
            replace f_u13 := f_u13.fr hw
            replace f_v0 := f_v0.fr hw
            replace f_v1 := f_v1.fr hw
            replace hO := hO.fr hw
            replace hA := hA.fr hw.size
            replace hF := hF.trans hw
            clear hs hF' hw
            refine seqR_nil ?_
            refine HT.seq ?_
            obtain ⟨x39, q40, hr⟩ := cl_some hr
            refine HT.textR [ob u16 (.vec w0.heap.size 76 E_impl_TokenCount x14), ob u20 (.vec w0.heap.size 9 eStr x17), ob u25 (.vec w0.heap.size 9 eStr x21)] (⟨_, true, [], none, true, fun A => .raw u16⟩ :: ⟨_, true, [], none, true, fun A => .raw (.int .i64 (1 : Int))⟩ :: ⟨_, true, [0], some (.vec w0.heap.size 76 E_impl_TokenCount x39.2), false, fun A => .raw (.int .i64 x39.1)⟩ :: ⟨_, true, [], none, true, fun A => .raw (.int .i64 x39.1)⟩ :: []) (by kernel_rfl) (by kernel_rfl) (Wf.mk' (by kernel_rfl) (UAll.cons ust_raw (UAll.cons ust_raw (UAll.cons ust_raw (UAll.cons ust_raw (UAll.nil))))) (by kernel_rfl) (by kernel_rfl)) hO hA ?_ ?_
            · exact
                OblsR.cons (OblR.plain rfl rfl rfl rfl fun A' R' w' ho hd => by have a0 : R' 7 = u16 := (ho.old 7 rfl).trans h7; exact of_move a0) <|
                OblsR.cons (OblR.plain rfl rfl rfl rfl fun A' R' w' ho hd => by have a0 : R' 10 = .int .i64 (1 : Int) := (ho.old 10 rfl).trans h10; exact of_move a0) <|
                OblsR.cons (OblR.took 0 _ _ rfl rfl rfl rfl rfl fun A' R' w' ho hd u hok hav hin hop hds => by have a0 : R' 50 = u16 := hd 0 _ _ _ rfl rfl rfl rfl rfl; have a1 : R' 51 = .int .i64 (1 : Int) := hd 1 _ _ _ rfl rfl rfl rfl rfl; have hu0 : evalR R' (.tmp 50) = u := a0.trans (hin _ rfl).symm; exact took_call Try.call21 hav (fun _ _ _ _ _ h => h) (by simp only [List.map, hu0]; exact Calls.mono (M_laws_markTokenCountS_ok (q40 rfl) (ho.av.sub _) (fun b o h => h.2) (Vec.flat hok (fun _ _ _ _ _ h => h)) a1) (fun _ _ ⟨v, h1, h2, h3, h4⟩ => ⟨v, h1, h2, h3, h4⟩))) <|
                OblsR.cons (OblR.plain rfl rfl rfl rfl fun A' R' w' ho hd => by have a0 : R' 52 = .int .i64 x39.1 := hd 0 _ _ _ rfl rfl rfl rfl rfl; exact of_assign a0) <|
                OblsR.nil
            intro done ρ σ A R w hdn hI
            replace h0 : R 0 = v0 := (hI.reg rfl).trans h0
            replace h1 : R 1 = v1 := (hI.reg rfl).trans h1
            replace h6 : R 6 = u13 := (hI.reg rfl).trans h6
            replace h8 : R 8 = u20 := (hI.reg rfl).trans h8
            replace h9 : R 9 = u25 := (hI.reg rfl).trans h9
            have z41 := hI.inivR 0 rfl
            have z42 := (hI.opnR hdn 5 2 rfl rfl rfl rfl rfl).trans z41
            have z43 := hI.inivR 1 rfl
            have z44 := hI.inivR 2 rfl
            have h10 : R 10 = .int .i64 x39.1 := hI.fact hdn (i := 3) rfl rfl rfl
            replace f_u13 := f_u13.stp hI.stp
            replace f_v0 := f_v0.stp hI.stp
            replace f_v1 := f_v1.stp hI.stp
            replace hAA := hI.low' hAA hA0 (hO.ge (⟨rfl, ⟨rfl, ⟨rfl, trivial⟩⟩⟩))
            replace hF : Fr w0 w := hF.tr hI.ch (hO.ge (⟨rfl, ⟨rfl, ⟨rfl, trivial⟩⟩⟩))
            replace hO : IniOK [ob u20 (.vec w0.heap.size 9 eStr x17), ob u25 (.vec w0.heap.size 9 eStr x21)] A w := hI.left hdn [(1, ob u20 (.vec w0.heap.size 9 eStr x17)), (2, ob u25 (.vec w0.heap.size 9 eStr x21))] ⟨rfl, rfl, z43, rfl, rfl, ⟨rfl, rfl, z44, rfl, rfl, trivial⟩⟩
            replace hA := hI.avok
            clear hI
            refine HT.seq ?_
            obtain ⟨x45, q46, hr⟩ := cl_some hr
            refine HT.textR [ob u20 (.vec w0.heap.size 9 eStr x17), ob u25 (.vec w0.heap.size 9 eStr x21)] (⟨_, true, [], none, true, fun A => .raw u20⟩ :: ⟨_, true, [], none, true, fun A => .raw (.int .i64 x39.1)⟩ :: ⟨_, true, [0], some (.vec w0.heap.size 9 eStr x45.2), false, fun A => .raw (.int .i64 x45.1)⟩ :: ⟨_, true, [], none, true, fun A => .raw (.int .i64 x45.1)⟩ :: []) (by kernel_rfl) (by kernel_rfl) (Wf.mk' (by kernel_rfl) (UAll.cons ust_raw (UAll.cons ust_raw (UAll.cons ust_raw (UAll.cons ust_raw (UAll.nil))))) (by kernel_rfl) (by kernel_rfl)) hO hA ?_ ?_
            · exact
                OblsR.cons (OblR.plain rfl rfl rfl rfl fun A' R' w' ho hd => by have a0 : R' 8 = u20 := (ho.old 8 rfl).trans h8; exact of_move a0) <|
                OblsR.cons (OblR.plain rfl rfl rfl rfl fun A' R' w' ho hd => by have a0 : R' 10 = .int .i64 x39.1 := (ho.old 10 rfl).trans h10; exact of_move a0) <|
                OblsR.cons (OblR.took 0 _ _ rfl rfl rfl rfl rfl fun A' R' w' ho hd u hok hav hin hop hds => by have a0 : R' 53 = u20 := hd 0 _ _ _ rfl rfl rfl rfl rfl; have a1 : R' 54 = .int .i64 x39.1 := hd 1 _ _ _ rfl rfl rfl rfl rfl; have hu0 : evalR R' (.tmp 53) = u := a0.trans (hin _ rfl).symm; exact took_call Try.call22 hav (fun _ _ _ _ _ h => h) (by simp only [List.map, hu0]; exact Calls.mono (M_laws_markStringS_ok (q46 rfl) (ho.av.sub _) (fun b o h => h.2) (Vec.flat hok (fun _ _ _ _ _ h => h)) a1) (fun _ _ ⟨v, h1, h2, h3, h4⟩ => ⟨v, h1, h2, h3, h4⟩))) <|
                OblsR.cons (OblR.plain rfl rfl rfl rfl fun A' R' w' ho hd => by have a0 : R' 55 = .int .i64 x45.1 := hd 0 _ _ _ rfl rfl rfl rfl rfl; exact of_assign a0) <|
                OblsR.nil
            intro done ρ σ A R w hdn hI
            replace h0 : R 0 = v0 := (hI.reg rfl).trans h0
            replace h1 : R 1 = v1 := (hI.reg rfl).trans h1
            replace h6 : R 6 = u13 := (hI.reg rfl).trans h6
            replace h9 : R 9 = u25 := (hI.reg rfl).trans h9
            have z47 := hI.inivR 0 rfl
            have z48 := (hI.opnR hdn 4 2 rfl rfl rfl rfl rfl).trans z47
            have z49 := hI.inivR 1 rfl
            have h10 : R 10 = .int .i64 x45.1 := hI.fact hdn (i := 3) rfl rfl rfl
            replace f_u13 := f_u13.stp hI.stp
            replace f_v0 := f_v0.stp hI.stp
            replace f_v1 := f_v1.stp hI.stp
            replace hAA := hI.low' hAA hA0 (hO.ge (⟨rfl, ⟨rfl, trivial⟩⟩))
            replace hF : Fr w0 w := hF.tr hI.ch (hO.ge (⟨rfl, ⟨rfl, trivial⟩⟩))
            replace hO : IniOK [ob u25 (.vec w0.heap.size 9 eStr x21)] A w := hI.left hdn [(1, ob u25 (.vec w0.heap.size 9 eStr x21))] ⟨rfl, rfl, z49, rfl, rfl, trivial⟩
            replace hA := hI.avok
            clear hI
            refine HT.seq ?_
            refine HT.seq ?_
            obtain ⟨x50, q51, hr⟩ := cl_some hr
            obtain ⟨x52, q53, hr⟩ := bd_some hr
            refine HT.text (l := ⟨_, true, .raw (.int .i64 x45.1)⟩ :: ⟨_, true, .raw (.bool (decide (x45.1 < (0 : Int))))⟩ :: ⟨_, true, .raw (.bool (decide (x45.1 < (0 : Int))))⟩ :: ⟨_, (true && ((decide (x45.1 < (0 : Int))) == false)), .raw u25⟩ :: ⟨_, (true && ((decide (x45.1 < (0 : Int))) == false)), .raw u13⟩ :: ⟨_, (true && ((decide (x45.1 < (0 : Int))) == false)), .raw (.bool x50)⟩ :: ⟨_, (true && ((decide (x45.1 < (0 : Int))) == false)), .raw (.bool (!x50))⟩ :: ⟨_, true, .raw (.bool x52)⟩ :: []) (tl := []) (by kernel_rfl) (by kernel_rfl) (by kernel_rfl) ?_ ?_
            · exact
                Obls.cons (Obl.plain rfl rfl fun R' w' hw hs hd => by have a0 : R' 10 = .int .i64 x45.1 := (hs 10 rfl).trans h10; exact of_move a0) <|
                Obls.cons (Obl.plain rfl rfl fun R' w' hw hs hd => by have a0 : R' 56 = .int .i64 x45.1 := hd 0 _ _ _ rfl rfl rfl rfl rfl; exact of_lss a0 rfl) <|
                Obls.cons (Obl.plain rfl rfl fun R' w' hw hs hd => by have a0 : R' 57 = .bool (decide (x45.1 < (0 : Int))) := hd 0 _ _ _ rfl rfl rfl rfl rfl; exact of_move a0) <|
                Obls.cons (Obl.grd 2 false _ _ _ rfl rfl rfl rfl rfl (by kernel_rfl) fun hg R' w' hw hs hd => by have a0 : R' 9 = u25 := (hs 9 rfl).trans h9; exact of_move a0) <|
                Obls.cons (Obl.grd 2 false _ _ _ rfl rfl rfl rfl rfl (by kernel_rfl) fun hg R' w' hw hs hd => by have a0 : R' 6 = u13 := (hs 6 rfl).trans h6; exact of_move a0) <|
                Obls.cons (Obl.grd 2 false _ _ _ rfl rfl rfl rfl rfl (by kernel_rfl) fun hg R' w' hw hs hd => by have a0 : R' 59 = u25 := hd 0 _ _ _ rfl rfl rfl rfl hg; have ra0 := (vec_rep ((hO.fr hw).ok 0 _ rfl).1 hAA hA0).eq a0; have a1 : R' 60 = u13 := hd 1 _ _ _ rfl rfl rfl rfl hg; have ra1 := (f_u13.fr hw).eq a1; exact of_call Try.call19 (M_laws_eqStringS_ok (q51 hg) (hA00.fr ((Nat.le_trans hF.size hw.size))) ra0 (ra1.down hAA))) <|
                Obls.cons (Obl.grd 2 false _ _ _ rfl rfl rfl rfl rfl (by kernel_rfl) fun hg R' w' hw hs hd => by have a0 : R' 61 = .bool x50 := hd 0 _ _ _ rfl rfl rfl rfl hg; exact of_not a0) <|
                Obls.cons (Obl.plain rfl rfl fun R' w' hw hs hd => by have a0 : R' 58 = .bool (decide (x45.1 < (0 : Int))) := hd 0 _ _ _ rfl rfl rfl rfl rfl; exact of_pick (decide (x45.1 < (0 : Int))) a0 (fun hc => by show _ = Value.bool x52; rw [q53, hc]; exact rfl) (fun hc => by have a2 : R' 62 = .bool (!x50) := hd 1 _ _ _ rfl rfl rfl rfl (g_and rfl (beq_of hc)); show _ = Value.bool x52; rw [q53, hc]; exact a2)) <|
                Obls.nil
            intro R w hw hs hF'
            replace h0 : R 0 = v0 := (hs 0 rfl).trans h0
            replace h1 : R 1 = v1 := (hs 1 rfl).trans h1
            replace h6 : R 6 = u13 := (hs 6 rfl).trans h6
            replace h9 : R 9 = u25 := (hs 9 rfl).trans h9
            have h63 : R 63 = .bool x52 := hF' 7 _ _ rfl rfl rfl
            replace f_u13 := f_u13.fr hw
            replace f_v0 := f_v0.fr hw
            replace f_v1 := f_v1.fr hw
            replace hO := hO.fr hw
            replace hA := hA.fr hw.size
            replace hF := hF.trans hw
            clear hs hF' hw
            refine seqR_nil ?_
            refine HT.cond x52 h63 (fun c54 => ?_) (fun c54 => ?_)
            · have hr := cnd_t c54 hr
              refine HT.seq ?_
              refine HT.text (l := ⟨_, true, .raw (.bool false)⟩ :: []) (tl := []) (by kernel_rfl) (by kernel_rfl) (by kernel_rfl) ?_ ?_
              · exact
                  Obls.cons (Obl.plain rfl rfl fun R' w' hw hs hd => by exact of_assign rfl) <|
                  Obls.nil
              intro R w hw hs hF'
              have h4 : R 4 = .bool false := hF' 0 _ _ rfl rfl rfl
              replace hO := hO.fr hw
              replace hO : IniOK [] A w := hO.sub [] trivial
              replace hA := hA.fr hw.size
              replace hF := hF.trans hw
              clear hs hF' hw
              refine seqR_nil ?_
              refine HT.ret ?_
              obtain rfl := Option.some.inj hr
              exact ⟨.inr rfl, [R 4], ⟨rfl, trivial⟩, h4, hF⟩
            · have hr := cnd_f c54 hr
              refine HT.skip ?_
              refine HT.seq ?_
              refine HT.text (l := ⟨_, true, .raw (.int .i64 (1 : Int))⟩ :: []) (tl := []) (by kernel_rfl) (by kernel_rfl) (by kernel_rfl) ?_ ?_
              · exact
                  Obls.cons (Obl.plain rfl rfl fun R' w' hw hs hd => by exact of_assign rfl) <|
                  Obls.nil
              intro R w hw hs hF'
              replace h0 : R 0 = v0 := (hs 0 rfl).trans h0
              replace h1 : R 1 = v1 := (hs 1 rfl).trans h1
              replace h6 : R 6 = u13 := (hs 6 rfl).trans h6
              replace h9 : R 9 = u25 := (hs 9 rfl).trans h9
              have h11 : R 11 = .int .i64 (1 : Int) := hF' 0 _ _ rfl rfl rfl
              replace f_u13 := f_u13.fr hw
              replace f_v0 := f_v0.fr hw
              replace f_v1 := f_v1.fr hw
              replace hO := hO.fr hw
              replace hA := hA.fr hw.size
              replace hF := hF.trans hw
              clear hs hF' hw
              refine seqR_nil ?_
              refine HT.seq ?_
              obtain ⟨x55, q56, hr⟩ := cl_some hr
              refine HT.textR [ob u25 (.vec w0.heap.size 9 eStr x21)] (⟨_, true, [], none, true, fun A => .raw u25⟩ :: ⟨_, true, [], none, true, fun A => .raw (.int .i64 (1 : Int))⟩ :: ⟨_, true, [0], some (.vec w0.heap.size 9 eStr x55.2), false, fun A => .raw (.int .i64 x55.1)⟩ :: ⟨_, true, [], none, true, fun A => .raw (.int .i64 x55.1)⟩ :: []) (by kernel_rfl) (by kernel_rfl) (Wf.mk' (by kernel_rfl) (UAll.cons ust_raw (UAll.cons ust_raw (UAll.cons ust_raw (UAll.cons ust_raw (UAll.nil))))) (by kernel_rfl) (by kernel_rfl)) hO hA ?_ ?_
              · exact
                  OblsR.cons (OblR.plain rfl rfl rfl rfl fun A' R' w' ho hd => by have a0 : R' 9 = u25 := (ho.old 9 rfl).trans h9; exact of_move a0) <|
                  OblsR.cons (OblR.plain rfl rfl rfl rfl fun A' R' w' ho hd => by have a0 : R' 11 = .int .i64 (1 : Int) := (ho.old 11 rfl).trans h11; exact of_move a0) <|
                  OblsR.cons (OblR.took 0 _ _ rfl rfl rfl rfl rfl fun A' R' w' ho hd u hok hav hin hop hds => by have a0 : R' 64 = u25 := hd 0 _ _ _ rfl rfl rfl rfl rfl; have a1 : R' 65 = .int .i64 (1 : Int) := hd 1 _ _ _ rfl rfl rfl rfl rfl; have hu0 : evalR R' (.tmp 64) = u := a0.trans (hin _ rfl).symm; exact took_call Try.call22 hav (fun _ _ _ _ _ h => h) (by simp only [List.map, hu0]; exact Calls.mono (M_laws_markStringS_ok (q56 rfl) (ho.av.sub _) (fun b o h => h.2) (Vec.flat hok (fun _ _ _ _ _ h => h)) a1) (fun _ _ ⟨v, h1, h2, h3, h4⟩ => ⟨v, h1, h2, h3, h4⟩))) <|
                  OblsR.cons (OblR.plain rfl rfl rfl rfl fun A' R' w' ho hd => by have a0 : R' 66 = .int .i64 x55.1 := hd 0 _ _ _ rfl rfl rfl rfl rfl; exact of_assign a0) <|
                  OblsR.nil
              intro done ρ σ A R w hdn hI
              replace h0 : R 0 = v0 := (hI.reg rfl).trans h0
              replace h1 : R 1 = v1 := (hI.reg rfl).trans h1
              replace h6 : R 6 = u13 := (hI.reg rfl).trans h6
              replace h9 : R 9 = u25 := (hI.reg rfl).trans h9
              have z57 := hI.inivR 0 rfl
              have z58 := (hI.opnR hdn 3 2 rfl rfl rfl rfl rfl).trans z57
              have h11 : R 11 = .int .i64 x55.1 := hI.fact hdn (i := 3) rfl rfl rfl
              replace f_u13 := f_u13.stp hI.stp
              replace f_v0 := f_v0.stp hI.stp
              replace f_v1 := f_v1.stp hI.stp
              replace hAA := hI.low' hAA hA0 (hO.ge (⟨rfl, trivial⟩))
              replace hF : Fr w0 w := hF.tr hI.ch (hO.ge (⟨rfl, trivial⟩))
              replace hO : IniOK [ob u25 (.vec w0.heap.size 9 eStr x55.2)] A w := hI.left hdn [(3, ob u25 (.vec w0.heap.size 9 eStr x55.2))] ⟨rfl, rfl, z58, rfl, rfl, trivial⟩
              replace hA := hI.avok
              clear hI
              refine HT.seq ?_
              refine HT.text (l := ⟨_, true, .raw (.int .i64 (1 : Int))⟩ :: []) (tl := []) (by kernel_rfl) (by kernel_rfl) (by kernel_rfl) ?_ ?_
              · exact
                  Obls.cons (Obl.plain rfl rfl fun R' w' hw hs hd => by exact of_assign rfl) <|
                  Obls.nil
              intro R w hw hs hF'
              replace h0 : R 0 = v0 := (hs 0 rfl).trans h0
              replace h1 : R 1 = v1 := (hs 1 rfl).trans h1
              replace h6 : R 6 = u13 := (hs 6 rfl).trans h6
              replace h9 : R 9 = u25 := (hs 9 rfl).trans h9
              replace h11 : R 11 = .int .i64 x55.1 := (hs 11 rfl).trans h11
              have h12 : R 12 = .int .i64 (1 : Int) := hF' 0 _ _ rfl rfl rfl
              replace f_u13 := f_u13.fr hw
              replace f_v0 := f_v0.fr hw
              replace f_v1 := f_v1.fr hw
              replace hO := hO.fr hw
              replace hA := hA.fr hw.size
              replace hF := hF.trans hw
              clear hs hF' hw
              refine seqR_nil ?_
              refine HT.seq ?_
              obtain ⟨x59, q60, hr⟩ := cl_some hr
              refine HT.text (l := ⟨_, true, .raw u25⟩ :: ⟨_, true, .raw (.int .i64 (1 : Int))⟩ :: ⟨_, true, .raw (.int .i64 x59)⟩ :: ⟨_, true, .raw (.int .i64 x59)⟩ :: []) (tl := []) (by kernel_rfl) (by kernel_rfl) (by kernel_rfl) ?_ ?_
              · exact
                  Obls.cons (Obl.plain rfl rfl fun R' w' hw hs hd => by have a0 : R' 9 = u25 := (hs 9 rfl).trans h9; exact of_move a0) <|
                  Obls.cons (Obl.plain rfl rfl fun R' w' hw hs hd => by have a0 : R' 12 = .int .i64 (1 : Int) := (hs 12 rfl).trans h12; exact of_move a0) <|
                  Obls.cons (Obl.plain rfl rfl fun R' w' hw hs hd => by have a0 : R' 67 = u25 := hd 0 _ _ _ rfl rfl rfl rfl rfl; have ra0 := (vec_rep ((hO.fr hw).ok 0 _ rfl).1 hAA hA0).eq a0; have a1 : R' 68 = .int .i64 (1 : Int) := hd 1 _ _ _ rfl rfl rfl rfl rfl; exact of_call Try.call23 (M_laws_heldStringS_ok (q60 rfl) (hA00.fr ((Nat.le_trans hF.size hw.size))) ra0 a1)) <|
                  Obls.cons (Obl.plain rfl rfl fun R' w' hw hs hd => by have a0 : R' 69 = .int .i64 x59 := hd 0 _ _ _ rfl rfl rfl rfl rfl; exact of_assign a0) <|
                  Obls.nil
              intro R w hw hs hF'
              replace h0 : R 0 = v0 := (hs 0 rfl).trans h0
              replace h1 : R 1 = v1 := (hs 1 rfl).trans h1
              replace h6 : R 6 = u13 := (hs 6 rfl).trans h6
              replace h9 : R 9 = u25 := (hs 9 rfl).trans h9
              replace h11 : R 11 = .int .i64 x55.1 := (hs 11 rfl).trans h11
              have h12 : R 12 = .int .i64 x59 := hF' 3 _ _ rfl rfl rfl
              replace f_u13 := f_u13.fr hw
              replace f_v0 := f_v0.fr hw
              replace f_v1 := f_v1.fr hw
              replace hO := hO.fr hw
              replace hA := hA.fr hw.size
              replace hF := hF.trans hw
              clear hs hF' hw
              refine seqR_nil ?_
              refine HT.seq ?_
              refine HT.seq ?_
              refine HT.text (l := ⟨_, true, .raw (.int .i64 x59)⟩ :: ⟨_, true, .raw (.bool (decide (x59 < (0 : Int))))⟩ :: []) (tl := []) (by kernel_rfl) (by kernel_rfl) (by kernel_rfl) ?_ ?_
              · exact
                  Obls.cons (Obl.plain rfl rfl fun R' w' hw hs hd => by have a0 : R' 12 = .int .i64 x59 := (hs 12 rfl).trans h12; exact of_move a0) <|
                  Obls.cons (Obl.plain rfl rfl fun R' w' hw hs hd => by have a0 : R' 70 = .int .i64 x59 := hd 0 _ _ _ rfl rfl rfl rfl rfl; exact of_lss a0 rfl) <|
                  Obls.nil
              intro R w hw hs hF'
              replace h0 : R 0 = v0 := (hs 0 rfl).trans h0
              replace h1 : R 1 = v1 := (hs 1 rfl).trans h1
              replace h6 : R 6 = u13 := (hs 6 rfl).trans h6
              replace h9 : R 9 = u25 := (hs 9 rfl).trans h9
              replace h11 : R 11 = .int .i64 x55.1 := (hs 11 rfl).trans h11
              replace h12 : R 12 = .int .i64 x59 := (hs 12 rfl).trans h12
              have h71 : R 71 = .bool (decide (x59 < (0 : Int))) := hF' 1 _ _ rfl rfl rfl
              replace f_u13 := f_u13.fr hw
              replace f_v0 := f_v0.fr hw
              replace f_v1 := f_v1.fr hw
              replace hO := hO.fr hw
              replace hA := hA.fr hw.size
              replace hF := hF.trans hw
              clear hs hF' hw
              refine seqR_nil ?_
              refine HT.cond (decide (x59 < (0 : Int))) h71 (fun c61 => ?_) (fun c61 => ?_)
              · have hr := cnd_t c61 hr
                refine HT.seq ?_
                refine HT.text (l := ⟨_, true, .raw (.bool false)⟩ :: []) (tl := []) (by kernel_rfl) (by kernel_rfl) (by kernel_rfl) ?_ ?_
                · exact
                    Obls.cons (Obl.plain rfl rfl fun R' w' hw hs hd => by exact of_assign rfl) <|
                    Obls.nil
                intro R w hw hs hF'
                have h4 : R 4 = .bool false := hF' 0 _ _ rfl rfl rfl
                replace hO := hO.fr hw
                replace hO : IniOK [] A w := hO.sub [] trivial
                replace hA := hA.fr hw.size
                replace hF := hF.trans hw
                clear hs hF' hw
                refine seqR_nil ?_
                refine HT.ret ?_
                obtain rfl := Option.some.inj hr
                exact ⟨.inr rfl, [R 4], ⟨rfl, trivial⟩, h4, hF⟩
              · have hr := cnd_f c61 hr
                refine HT.skip ?_
                refine HT.seq ?_
                refine HT.seq ?_
                refine HT.text (l := ⟨_, true, .raw (.int .i64 x59)⟩ :: ⟨_, true, .raw (.int .i64 x55.1)⟩ :: ⟨_, true, .raw (.bool (x59 != x55.1))⟩ :: []) (tl := []) (by kernel_rfl) (by kernel_rfl) (by kernel_rfl) ?_ ?_
                · exact
                    Obls.cons (Obl.plain rfl rfl fun R' w' hw hs hd => by have a0 : R' 12 = .int .i64 x59 := (hs 12 rfl).trans h12; exact of_move a0) <|
                    Obls.cons (Obl.plain rfl rfl fun R' w' hw hs hd => by have a0 : R' 11 = .int .i64 x55.1 := (hs 11 rfl).trans h11; exact of_move a0) <|
                    Obls.cons (Obl.plain rfl rfl fun R' w' hw hs hd => by have a0 : R' 72 = .int .i64 x59 := hd 0 _ _ _ rfl rfl rfl rfl rfl; have a1 : R' 73 = .int .i64 x55.1 := hd 1 _ _ _ rfl rfl rfl rfl rfl; exact of_neq a0 a1) <|
                    Obls.nil
                intro R w hw hs hF'
                replace h0 : R 0 = v0 := (hs 0 rfl).trans h0
                replace h1 : R 1 = v1 := (hs 1 rfl).trans h1
                replace h6 : R 6 = u13 := (hs 6 rfl).trans h6
                replace h9 : R 9 = u25 := (hs 9 rfl).trans h9
                replace h11 : R 11 = .int .i64 x55.1 := (hs 11 rfl).trans h11
                have h74 : R 74 = .bool (x59 != x55.1) := hF' 2 _ _ rfl rfl rfl
                replace f_u13 := f_u13.fr hw
                replace f_v0 := f_v0.fr hw
                replace f_v1 := f_v1.fr hw
                replace hO := hO.fr hw
                replace hA := hA.fr hw.size
                replace hF := hF.trans hw
                clear hs hF' hw
                refine seqR_nil ?_
                refine HT.cond (x59 != x55.1) h74 (fun c62 => ?_) (fun c62 => ?_)
                · have hr := cnd_t c62 hr
                  refine HT.seq ?_
                  refine HT.text (l := ⟨_, true, .raw (.bool false)⟩ :: []) (tl := []) (by kernel_rfl) (by kernel_rfl) (by kernel_rfl) ?_ ?_
                  · exact
                      Obls.cons (Obl.plain rfl rfl fun R' w' hw hs hd => by exact of_assign rfl) <|
                      Obls.nil
                  intro R w hw hs hF'
                  have h4 : R 4 = .bool false := hF' 0 _ _ rfl rfl rfl
                  replace hO := hO.fr hw
                  replace hO : IniOK [] A w := hO.sub [] trivial
                  replace hA := hA.fr hw.size
                  replace hF := hF.trans hw
                  clear hs hF' hw
                  refine seqR_nil ?_
                  refine HT.ret ?_
                  obtain rfl := Option.some.inj hr
                  exact ⟨.inr rfl, [R 4], ⟨rfl, trivial⟩, h4, hF⟩
                · have hr := cnd_f c62 hr
                  refine HT.skip ?_
                  refine HT.seq ?_
                  obtain ⟨x63, q64, hr⟩ := cl_some hr
                  obtain ⟨x65, q66, hr⟩ := cl_some hr
                  obtain ⟨x67, q68, hr⟩ := cl_some hr
                  refine HT.text (l := ⟨_, true, .raw v0⟩ :: ⟨_, true, .rep (eSl E_impl_TokenCount) A x63⟩ :: ⟨_, true, .raw v1⟩ :: ⟨_, true, .rep (eSl eStr) A x65⟩ :: ⟨_, true, .rep (eSl eStr) A x67⟩ :: ⟨_, true, .rep (eSl eStr) A x67⟩ :: []) (tl := []) (by kernel_rfl) (by kernel_rfl) (by kernel_rfl) ?_ ?_
                  · exact
                      Obls.cons (Obl.plain rfl rfl fun R' w' hw hs hd => by have a0 : R' 0 = v0 := (hs 0 rfl).trans h0; exact of_move a0) <|
                      Obls.cons (Obl.plain rfl rfl fun R' w' hw hs hd => by have a0 : R' 75 = v0 := hd 0 _ _ _ rfl rfl rfl rfl rfl; have ra0 := (f_v0.fr hw).eq a0; exact of_call Try.call16 (M_laws_toTokenCountS_okR (q64 rfl) (hA.fr hw.size) ra0)) <|
                      Obls.cons (Obl.plain rfl rfl fun R' w' hw hs hd => by have a0 : R' 1 = v1 := (hs 1 rfl).trans h1; exact of_move a0) <|
                      Obls.cons (Obl.plain rfl rfl fun R' w' hw hs hd => by have a0 : R' 77 = v1 := hd 0 _ _ _ rfl rfl rfl rfl rfl; have ra0 := (f_v1.fr hw).eq a0; exact of_call Try.call17 (M_laws_toStringS_okR (q66 rfl) (hA.fr hw.size) ra0)) <|
                      Obls.cons (Obl.plain rfl rfl fun R' w' hw hs hd => by have a0 : Rep (eSl E_impl_TokenCount) A w' (R' 76) x63 := hd 0 _ _ _ rfl rfl rfl rfl rfl; have a1 : Rep (eSl eStr) A w' (R' 78) x65 := hd 1 _ _ _ rfl rfl rfl rfl rfl; exact of_call Try.call18 (M_impl_OrderTokens_okR (q68 rfl) (hA.fr hw.size) a0 a1)) <|
                      Obls.cons (Obl.plain rfl rfl fun R' w' hw hs hd => by have a0 : Rep (eSl eStr) A w' (R' 79) x67 := hd 0 _ _ _ rfl rfl rfl rfl rfl; exact of_assign a0) <|
                      Obls.nil
                  intro R w hw hs hF'
                  replace h6 : R 6 = u13 := (hs 6 rfl).trans h6
                  replace h9 : R 9 = u25 := (hs 9 rfl).trans h9
                  replace h11 : R 11 = .int .i64 x55.1 := (hs 11 rfl).trans h11
                  obtain ⟨u69, h13, f_u69⟩ : ∃ u, R 13 = u ∧ Rep (eSl eStr) A w u x67 := ⟨_, rfl, hF' 5 _ _ rfl rfl rfl⟩
                  replace f_u13 := f_u13.fr hw
                  replace hO := hO.fr hw
                  replace hA := hA.fr hw.size
                  replace hF := hF.trans hw
                  clear hs hF' hw
                  refine seqR_nil ?_
                  refine HT.seq ?_
                  refine HT.seq ?_
                  obtain ⟨x70, q71, hr⟩ := cl_some hr
                  refine HT.text (l := ⟨_, true, .raw u69⟩ :: ⟨_, true, .raw u13⟩ :: ⟨_, true, .raw (.bool x70)⟩ :: ⟨_, true, .raw (.bool (!x70))⟩ :: []) (tl := []) (by kernel_rfl) (by kernel_rfl) (by kernel_rfl) ?_ ?_
                  · exact
                      Obls.cons (Obl.plain rfl rfl fun R' w' hw hs hd => by have a0 : R' 13 = u69 := (hs 13 rfl).trans h13; exact of_move a0) <|
                      Obls.cons (Obl.plain rfl rfl fun R' w' hw hs hd => by have a0 : R' 6 = u13 := (hs 6 rfl).trans h6; exact of_move a0) <|
                      Obls.cons (Obl.plain rfl rfl fun R' w' hw hs hd => by have a0 : R' 80 = u69 := hd 0 _ _ _ rfl rfl rfl rfl rfl; have ra0 := (f_u69.fr hw).eq a0; have a1 : R' 81 = u13 := hd 1 _ _ _ rfl rfl rfl rfl rfl; have ra1 := (f_u13.fr hw).eq a1; exact of_call Try.call19 (M_laws_eqStringS_ok (q71 rfl) (hA.fr hw.size) ra0 ra1)) <|
                      Obls.cons (Obl.plain rfl rfl fun R' w' hw hs hd => by have a0 : R' 82 = .bool x70 := hd 0 _ _ _ rfl rfl rfl rfl rfl; exact of_not a0) <|
                      Obls.nil
                  intro R w hw hs hF'
                  replace h9 : R 9 = u25 := (hs 9 rfl).trans h9
                  replace h11 : R 11 = .int .i64 x55.1 := (hs 11 rfl).trans h11
                  have h83 : R 83 = .bool (!x70) := hF' 3 _ _ rfl rfl rfl
                  replace hO := hO.fr hw
                  replace hA := hA.fr hw.size
                  replace hF := hF.trans hw
                  clear hs hF' hw
                  refine seqR_nil ?_
                  refine HT.cond (!x70) h83 (fun c72 => ?_) (fun c72 => ?_)
                  · have hr := cnd_t c72 hr
                    refine HT.seq ?_
                    refine HT.text (l := ⟨_, true, .raw (.bool false)⟩ :: []) (tl := []) (by kernel_rfl) (by kernel_rfl) (by kernel_rfl) ?_ ?_
                    · exact
                        Obls.cons (Obl.plain rfl rfl fun R' w' hw hs hd => by exact of_assign rfl) <|
                        Obls.nil
                    intro R w hw hs hF'
                    have h4 : R 4 = .bool false := hF' 0 _ _ rfl rfl rfl
                    replace hO := hO.fr hw
                    replace hO : IniOK [] A w := hO.sub [] trivial
                    replace hA := hA.fr hw.size
                    replace hF := hF.trans hw
                    clear hs hF' hw
                    refine seqR_nil ?_
                    refine HT.ret ?_
                    obtain rfl := Option.some.inj hr
                    exact ⟨.inr rfl, [R 4], ⟨rfl, trivial⟩, h4, hF⟩
                  · have hr := cnd_f c72 hr
                    refine HT.skip ?_
                    refine HT.seq ?_
                    refine HT.text (l := ⟨_, true, .raw (.int .i64 (1 : Int))⟩ :: []) (tl := []) (by kernel_rfl) (by kernel_rfl) (by kernel_rfl) ?_ ?_
                    · exact
                        Obls.cons (Obl.plain rfl rfl fun R' w' hw hs hd => by exact of_assign rfl) <|
                        Obls.nil
                    intro R w hw hs hF'
                    replace h9 : R 9 = u25 := (hs 9 rfl).trans h9
                    replace h11 : R 11 = .int .i64 x55.1 := (hs 11 rfl).trans h11
                    have h12 : R 12 = .int .i64 (1 : Int) := hF' 0 _ _ rfl rfl rfl
                    replace hO := hO.fr hw
                    replace hA := hA.fr hw.size
                    replace hF := hF.trans hw
                    clear hs hF' hw
                    refine seqR_nil ?_
                    refine HT.seq ?_
                    obtain ⟨x73, q74, hr⟩ := cl_some hr
                    refine HT.text (l := ⟨_, true, .raw u25⟩ :: ⟨_, true, .raw (.int .i64 (1 : Int))⟩ :: ⟨_, true, .raw (.int .i64 x73)⟩ :: ⟨_, true, .raw (.int .i64 x73)⟩ :: []) (tl := []) (by kernel_rfl) (by kernel_rfl) (by kernel_rfl) ?_ ?_
                    · exact
                        Obls.cons (Obl.plain rfl rfl fun R' w' hw hs hd => by have a0 : R' 9 = u25 := (hs 9 rfl).trans h9; exact of_move a0) <|
                        Obls.cons (Obl.plain rfl rfl fun R' w' hw hs hd => by have a0 : R' 12 = .int .i64 (1 : Int) := (hs 12 rfl).trans h12; exact of_move a0) <|
                        Obls.cons (Obl.plain rfl rfl fun R' w' hw hs hd => by have a0 : R' 84 = u25 := hd 0 _ _ _ rfl rfl rfl rfl rfl; have ra0 := (vec_rep ((hO.fr hw).ok 0 _ rfl).1 hAA hA0).eq a0; have a1 : R' 85 = .int .i64 (1 : Int) := hd 1 _ _ _ rfl rfl rfl rfl rfl; exact of_call Try.call23 (M_laws_heldStringS_ok (q74 rfl) (hA00.fr ((Nat.le_trans hF.size hw.size))) ra0 a1)) <|
                        Obls.cons (Obl.plain rfl rfl fun R' w' hw hs hd => by have a0 : R' 86 = .int .i64 x73 := hd 0 _ _ _ rfl rfl rfl rfl rfl; exact of_assign a0) <|
                        Obls.nil
                    intro R w hw hs hF'
                    replace h11 : R 11 = .int .i64 x55.1 := (hs 11 rfl).trans h11
                    have h12 : R 12 = .int .i64 x73 := hF' 3 _ _ rfl rfl rfl
                    replace hO := hO.fr hw
                    replace hO : IniOK [] A w := hO.sub [] trivial
                    replace hA := hA.fr hw.size
                    replace hF := hF.trans hw
                    clear hs hF' hw
                    refine seqR_nil ?_
                    refine HT.seq ?_
                    refine HT.seq ?_
                    refine HT.text (l := ⟨_, true, .raw (.int .i64 x73)⟩ :: ⟨_, true, .raw (.bool (decide (x73 < (0 : Int))))⟩ :: []) (tl := []) (by kernel_rfl) (by kernel_rfl) (by kernel_rfl) ?_ ?_
                    · exact
                        Obls.cons (Obl.plain rfl rfl fun R' w' hw hs hd => by have a0 : R' 12 = .int .i64 x73 := (hs 12 rfl).trans h12; exact of_move a0) <|
                        Obls.cons (Obl.plain rfl rfl fun R' w' hw hs hd => by have a0 : R' 87 = .int .i64 x73 := hd 0 _ _ _ rfl rfl rfl rfl rfl; exact of_lss a0 rfl) <|
                        Obls.nil
                    intro R w hw hs hF'
                    replace h11 : R 11 = .int .i64 x55.1 := (hs 11 rfl).trans h11
                    replace h12 : R 12 = .int .i64 x73 := (hs 12 rfl).trans h12
                    have h88 : R 88 = .bool (decide (x73 < (0 : Int))) := hF' 1 _ _ rfl rfl rfl
                    replace hO := hO.fr hw
                    replace hA := hA.fr hw.size
                    replace hF := hF.trans hw
                    clear hs hF' hw
                    refine seqR_nil ?_
                    refine HT.cond (decide (x73 < (0 : Int))) h88 (fun c75 => ?_) (fun c75 => ?_)
                    · have hr := cnd_t c75 hr
                      refine HT.seq ?_
                      refine HT.text (l := ⟨_, true, .raw (.bool false)⟩ :: []) (tl := []) (by kernel_rfl) (by kernel_rfl) (by kernel_rfl) ?_ ?_
                      · exact
                          Obls.cons (Obl.plain rfl rfl fun R' w' hw hs hd => by exact of_assign rfl) <|
                          Obls.nil
                      intro R w hw hs hF'
                      have h4 : R 4 = .bool false := hF' 0 _ _ rfl rfl rfl
                      replace hO := hO.fr hw
                      replace hA := hA.fr hw.size
                      replace hF := hF.trans hw
                      clear hs hF' hw
                      refine seqR_nil ?_
                      refine HT.ret ?_
                      obtain rfl := Option.some.inj hr
                      exact ⟨.inr rfl, [R 4], ⟨rfl, trivial⟩, h4, hF⟩
                    · have hr := cnd_f c75 hr
                      refine HT.skip ?_
                      refine HT.seq ?_
                      refine HT.seq ?_
                      refine HT.text (l := ⟨_, true, .raw (.int .i64 x73)⟩ :: ⟨_, true, .raw (.int .i64 x55.1)⟩ :: ⟨_, true, .raw (.bool (x73 != x55.1))⟩ :: []) (tl := []) (by kernel_rfl) (by kernel_rfl) (by kernel_rfl) ?_ ?_
                      · exact
                          Obls.cons (Obl.plain rfl rfl fun R' w' hw hs hd => by have a0 : R' 12 = .int .i64 x73 := (hs 12 rfl).trans h12; exact of_move a0) <|
                          Obls.cons (Obl.plain rfl rfl fun R' w' hw hs hd => by have a0 : R' 11 = .int .i64 x55.1 := (hs 11 rfl).trans h11; exact of_move a0) <|
                          Obls.cons (Obl.plain rfl rfl fun R' w' hw hs hd => by have a0 : R' 89 = .int .i64 x73 := hd 0 _ _ _ rfl rfl rfl rfl rfl; have a1 : R' 90 = .int .i64 x55.1 := hd 1 _ _ _ rfl rfl rfl rfl rfl; exact of_neq a0 a1) <|
                          Obls.nil
                      intro R w hw hs hF'
                      have h91 : R 91 = .bool (x73 != x55.1) := hF' 2 _ _ rfl rfl rfl
                      replace hO := hO.fr hw
                      replace hA := hA.fr hw.size
                      replace hF := hF.trans hw
                      clear hs hF' hw
                      refine seqR_nil ?_
                      refine HT.cond (x73 != x55.1) h91 (fun c76 => ?_) (fun c76 => ?_)
                      · have hr := cnd_t c76 hr
                        refine HT.seq ?_
                        refine HT.text (l := ⟨_, true, .raw (.bool false)⟩ :: []) (tl := []) (by kernel_rfl) (by kernel_rfl) (by kernel_rfl) ?_ ?_
                        · exact
                            Obls.cons (Obl.plain rfl rfl fun R' w' hw hs hd => by exact of_assign rfl) <|
                            Obls.nil
                        intro R w hw hs hF'
                        have h4 : R 4 = .bool false := hF' 0 _ _ rfl rfl rfl
                        replace hO := hO.fr hw
                        replace hA := hA.fr hw.size
                        replace hF := hF.trans hw
                        clear hs hF' hw
                        refine seqR_nil ?_
                        refine HT.ret ?_
                        obtain rfl := Option.some.inj hr
                        exact ⟨.inr rfl, [R 4], ⟨rfl, trivial⟩, h4, hF⟩
                      · have hr := cnd_f c76 hr
                        refine HT.skip ?_
                        refine HT.seq ?_
                        refine HT.text (l := ⟨_, true, .raw (.bool true)⟩ :: []) (tl := []) (by kernel_rfl) (by kernel_rfl) (by kernel_rfl) ?_ ?_
                        · exact
                            Obls.cons (Obl.plain rfl rfl fun R' w' hw hs hd => by exact of_assign rfl) <|
                            Obls.nil
                        intro R w hw hs hF'
                        have h4 : R 4 = .bool true := hF' 0 _ _ rfl rfl rfl
                        replace hO := hO.fr hw
                        replace hA := hA.fr hw.size
                        replace hF := hF.trans hw
                        clear hs hF' hw
                        refine seqR_nil ?_
                        refine HT.ret ?_
                        obtain rfl := Option.some.inj hr
                        exact ⟨.inr rfl, [R 4], ⟨rfl, trivial⟩, h4, hF⟩
end Go.Proofs.Ytfcocbokgfmjfaa
