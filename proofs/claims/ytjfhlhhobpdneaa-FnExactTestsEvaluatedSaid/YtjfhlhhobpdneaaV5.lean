/- Printed by dec.py: plain functions and the proofs that the code computes them. No statement of the seat is proved here. -/
import Derived.Test.YtjfhlhhobpdneaaV4
namespace Go.Proofs.Ytjfhlhhobpdneaa
open Go.RowKit
set_option linter.unusedVariables false
def M_laws_eqIntS_L0 (fu : Nat) (p0 : List Int) (p1 : List Int) : Nat → Int → Option (Ex Bool Unit)
  | 0, _ => none
  | k + 1, y5 =>
    bif (decide (y5 < (p0.length : Int))) then (
      ck (inR y5 p0.length) <|
      ck (inR y5 p1.length) <|
      bif ((gtD p0 y5) != (gtD p1 y5)) then (
        some (Ex.ret false)
      ) else (
        ck (i64B (y5 + (1 : Int))) <|
        M_laws_eqIntS_L0 fu p0 p1 k (y5 + (1 : Int))
      )
    ) else (
      some (Ex.go ())
    )
def M_laws_eqIntS (fu : Nat) (p0 : List Int) (p1 : List Int) : Option Bool :=
  bif ((p0.length : Int) != (p1.length : Int)) then (
    some false
  ) else (
    cl true (M_laws_eqIntS_L0 fu p0 p1 fu (0 : Int)) fun rl2 =>
    exM rl2 (fun r => some r) fun s4 =>
    some true
  )
set_option maxRecDepth 100000 in
set_option maxHeartbeats 4000000 in
theorem M_laws_eqIntS_ok {fu : Nat} {A : Av} {p0 : List Int} {p1 : List Int} {r : Bool} (hr : M_laws_eqIntS fu p0 p1 = some r) {w : World} {v0 : Value} {v1 : Value} (hA : AvOK A w) (h0 : Rep (eSl (eInt .i64)) A w v0 p0) (h1 : Rep (eSl (eInt .i64)) A w v1 p1) :
    Calls Try.prog 21 #[v0, v1] w fun e w' => ∃ v, e = .returned v ∧ (v = .bool r ∧ Fr w w') := by
  unfold M_laws_eqIntS at hr
  obtain ⟨w0, hw0⟩ : ∃ w0, w0 = w := ⟨_, rfl⟩
  have hF : Fr w0 w := hw0 ▸ Fr.refl _
  rw [show Fr w = Fr w0 from hw0 ▸ rfl]
  clear hw0
  refine calls_of_HT2 [.tmp 4] Try.func21 Try.ntmps21 (by decide) rfl rfl (Nat.le_of_ble_eq_true rfl) ?_
  intro R hR
  have f_v0 := h0
  replace h0 : R 0 = v0 := hR 0 _ rfl
  have f_v1 := h1
  replace h1 : R 1 = v1 := hR 1 _ rfl
  clear hR
  refine HT.seq ?_
  refine HT.text (l := ⟨_, true, .raw (.bool false)⟩ :: []) (tl := []) (by kernel_rfl) (by kernel_rfl) (by kernel_rfl) ?_ ?_
  · exact
      Obls.cons (Obl.plain rfl rfl fun R' w' hw hs hd => by exact of_assign rfl) <|
      Obls.nil
  intro R w hw hs hF'
  replace h0 : R 0 = v0 := (hs 0 rfl).trans h0
  replace h1 : R 1 = v1 := (hs 1 rfl).trans h1
  replace f_v0 := f_v0.fr hw
  replace f_v1 := f_v1.fr hw
  replace hA := hA.fr hw.size
  replace hF := hF.trans hw
  clear hs hF' hw
  refine seqR_nil ?_
  refine HT.seq ?_
  refine HT.seq ?_
  refine HT.text (l := ⟨_, true, .raw v0⟩ :: ⟨_, true, .raw (.int .i64 (p0.length : Int))⟩ :: ⟨_, true, .raw v1⟩ :: ⟨_, true, .raw (.int .i64 (p1.length : Int))⟩ :: ⟨_, true, .raw (.bool ((p0.length : Int) != (p1.length : Int)))⟩ :: []) (tl := []) (by kernel_rfl) (by kernel_rfl) (by kernel_rfl) ?_ ?_
  · exact
      Obls.cons (Obl.plain rfl rfl fun R' w' hw hs hd => by have a0 : R' 0 = v0 := (hs 0 rfl).trans h0; exact of_move a0) <|
      Obls.cons (Obl.plain rfl rfl fun R' w' hw hs hd => by have a0 : R' 6 = v0 := hd 0 _ _ _ rfl rfl rfl rfl rfl; have ra0 := (f_v0.fr hw).eq a0; exact of_len_sl (aT := #[]) ra0 Try.underlying25) <|
      Obls.cons (Obl.plain rfl rfl fun R' w' hw hs hd => by have a0 : R' 1 = v1 := (hs 1 rfl).trans h1; exact of_move a0) <|
      Obls.cons (Obl.plain rfl rfl fun R' w' hw hs hd => by have a0 : R' 8 = v1 := hd 0 _ _ _ rfl rfl rfl rfl rfl; have ra0 := (f_v1.fr hw).eq a0; exact of_len_sl (aT := #[]) ra0 Try.underlying25) <|
      Obls.cons (Obl.plain rfl rfl fun R' w' hw hs hd => by have a0 : R' 7 = .int .i64 (p0.length : Int) := hd 0 _ _ _ rfl rfl rfl rfl rfl; have a1 : R' 9 = .int .i64 (p1.length : Int) := hd 1 _ _ _ rfl rfl rfl rfl rfl; exact of_neq a0 a1) <|
      Obls.nil
  intro R w hw hs hF'
  replace h0 : R 0 = v0 := (hs 0 rfl).trans h0
  replace h1 : R 1 = v1 := (hs 1 rfl).trans h1
  have h10 : R 10 = .bool ((p0.length : Int) != (p1.length : Int)) := hF' 4 _ _ rfl rfl rfl
  replace f_v0 := f_v0.fr hw
  replace f_v1 := f_v1.fr hw
  replace hA := hA.fr hw.size
  replace hF := hF.trans hw
  clear hs hF' hw
  refine seqR_nil ?_
  refine HT.cond ((p0.length : Int) != (p1.length : Int)) h10 (fun c1 => ?_) (fun c1 => ?_)
  · have hr := cnd_t c1 hr
    refine HT.seq ?_
    refine HT.text (l := ⟨_, true, .raw (.bool false)⟩ :: []) (tl := []) (by kernel_rfl) (by kernel_rfl) (by kernel_rfl) ?_ ?_
    · exact
        Obls.cons (Obl.plain rfl rfl fun R' w' hw hs hd => by exact of_assign rfl) <|
        Obls.nil
    intro R w hw hs hF'
    have h4 : R 4 = .bool false := hF' 0 _ _ rfl rfl rfl
    replace hA := hA.fr hw.size
    replace hF := hF.trans hw
    clear hs hF' hw
    refine seqR_nil ?_
    refine HT.ret ?_
    obtain rfl := Option.some.inj hr
    exact ⟨.inr rfl, [R 4], ⟨rfl, trivial⟩, h4, hF⟩
  · have hr := cnd_f c1 hr
    refine HT.skip ?_
    refine HT.seq ?_
    refine HT.seq ?_
    refine HT.text (l := ⟨_, true, .raw (.int .i64 (0 : Int))⟩ :: []) (tl := []) (by kernel_rfl) (by kernel_rfl) (by kernel_rfl) ?_ ?_
    · exact
        Obls.cons (Obl.plain rfl rfl fun R' w' hw hs hd => by exact of_assign rfl) <|
        Obls.nil
    intro R w hw hs hF'
    replace h0 : R 0 = v0 := (hs 0 rfl).trans h0
    replace h1 : R 1 = v1 := (hs 1 rfl).trans h1
    have h5 : R 5 = .int .i64 (0 : Int) := hF' 0 _ _ rfl rfl rfl
    replace f_v0 := f_v0.fr hw
    replace f_v1 := f_v1.fr hw
    replace hA := hA.fr hw.size
    replace hF := hF.trans hw
    clear hs hF' hw
    refine seqR_nil ?_
    obtain ⟨rl2, q3, hr⟩ := cl_some hr
    replace q3 := q3 rfl
    refine HT.cut0 (fun R w => ∃ (s4 : Unit), rl2 = Ex.go s4 ∧ AvOK A w ∧ Fr w0 w) ?_ ?_
    · refine HT.block ?_
      refine HT.loop (fun k R w => ∃ (y5 : Int), M_laws_eqIntS_L0 fu p0 p1 k y5 = some rl2 ∧ AvOK A w ∧ Fr w0 w ∧ R 0 = v0 ∧ R 1 = v1 ∧ R 5 = .int .i64 y5 ∧ Rep (eSl (eInt .i64)) A w v0 p0 ∧ Rep (eSl (eInt .i64)) A w v1 p1) fu ⟨_, q3, hA, hF, h0, h1, h5, f_v0, f_v1⟩ ?_
      have hr0 := hr; clear hr q3
      rintro k R w ⟨y5, hr, hA, hF, h0, h1, h5, f_v0, f_v1⟩
      rcases k with _ | k
      · cases (show none = some _ from hr)
      rw [M_laws_eqIntS_L0] at hr
      refine HT.seq ?_
      refine HT.seq ?_
      refine HT.text (l := ⟨_, true, .raw (.int .i64 y5)⟩ :: ⟨_, true, .raw v0⟩ :: ⟨_, true, .raw (.int .i64 (p0.length : Int))⟩ :: ⟨_, true, .raw (.bool (decide (y5 < (p0.length : Int))))⟩ :: []) (tl := []) (by kernel_rfl) (by kernel_rfl) (by kernel_rfl) ?_ ?_
      · exact
          Obls.cons (Obl.plain rfl rfl fun R' w' hw hs hd => by have a0 : R' 5 = .int .i64 y5 := (hs 5 rfl).trans h5; exact of_move a0) <|
          Obls.cons (Obl.plain rfl rfl fun R' w' hw hs hd => by have a0 : R' 0 = v0 := (hs 0 rfl).trans h0; exact of_move a0) <|
          Obls.cons (Obl.plain rfl rfl fun R' w' hw hs hd => by have a0 : R' 12 = v0 := hd 0 _ _ _ rfl rfl rfl rfl rfl; have ra0 := (f_v0.fr hw).eq a0; exact of_len_sl (aT := #[]) ra0 Try.underlying25) <|
          Obls.cons (Obl.plain rfl rfl fun R' w' hw hs hd => by have a0 : R' 11 = .int .i64 y5 := hd 0 _ _ _ rfl rfl rfl rfl rfl; have a1 : R' 13 = .int .i64 (p0.length : Int) := hd 1 _ _ _ rfl rfl rfl rfl rfl; exact of_lss a0 a1) <|
          Obls.nil
      intro R w hw hs hF'
      replace h0 : R 0 = v0 := (hs 0 rfl).trans h0
      replace h1 : R 1 = v1 := (hs 1 rfl).trans h1
      replace h5 : R 5 = .int .i64 y5 := (hs 5 rfl).trans h5
      have h14 : R 14 = .bool (decide (y5 < (p0.length : Int))) := hF' 3 _ _ rfl rfl rfl
      replace f_v0 := f_v0.fr hw
      replace f_v1 := f_v1.fr hw
      replace hA := hA.fr hw.size
      replace hF := hF.trans hw
      clear hs hF' hw
      refine seqR_nil ?_
      refine HT.cond (decide (y5 < (p0.length : Int))) h14 (fun c6 => ?_) (fun c6 => ?_)
      · have hr := cnd_t c6 hr
        refine HT.skip ?_
        refine HT.seq ?_
        refine HT.block ?_
        refine HT.seq ?_
        obtain ⟨e7, hr⟩ := ck_some hr
        obtain ⟨e8, hr⟩ := ck_some hr
        refine HT.draw (by kernel_rfl) (l := ⟨_, true, .raw v0⟩ :: ⟨_, true, .raw (.int .i64 y5)⟩ :: ⟨_, true, .qtr (eInt .i64) A (gtD p0 y5)⟩ :: ⟨_, true, .raw (.int .i64 (gtD p0 y5))⟩ :: ⟨_, true, .raw v1⟩ :: ⟨_, true, .raw (.int .i64 y5)⟩ :: ⟨_, true, .qtr (eInt .i64) A (gtD p1 y5)⟩ :: ⟨_, true, .raw (.int .i64 (gtD p1 y5))⟩ :: ⟨_, true, .raw (.bool ((gtD p0 y5) != (gtD p1 y5)))⟩ :: []) (tl := []) (by kernel_rfl) (by kernel_rfl) (by kernel_rfl) (by kernel_rfl) ?_ ?_
        · exact
            Obls.cons (Obl.plain rfl rfl fun R' w' hw hs hd => by have a0 : R' 0 = v0 := (hs 0 rfl).trans h0; exact of_move a0) <|
            Obls.cons (Obl.plain rfl rfl fun R' w' hw hs hd => by have a0 : R' 5 = .int .i64 y5 := (hs 5 rfl).trans h5; exact of_move a0) <|
            Obls.cons (Obl.plain rfl rfl fun R' w' hw hs hd => by have a0 : R' 17 = v0 := hd 0 _ _ _ rfl rfl rfl rfl rfl; have a1 : R' 18 = .int .i64 y5 := hd 1 _ _ _ rfl rfl rfl rfl rfl; have ra0 := (f_v0.fr hw).eq a0; exact of_indexAddr ra0 a1 Try.underlying25 Try.sizeOf3 e7) <|
            Obls.cons (Obl.plain rfl rfl fun R' w' hw hs hd => by have a0 : QRep (eInt .i64) A w' (R' 19) (gtD p0 y5) := hd 0 _ _ _ rfl rfl rfl rfl rfl; exact OpF.int (of_load a0.ptr Try.isAgg3 Try.sizeOf3)) <|
            Obls.cons (Obl.plain rfl rfl fun R' w' hw hs hd => by have a0 : R' 1 = v1 := (hs 1 rfl).trans h1; exact of_move a0) <|
            Obls.cons (Obl.plain rfl rfl fun R' w' hw hs hd => by have a0 : R' 5 = .int .i64 y5 := (hs 5 rfl).trans h5; exact of_move a0) <|
            Obls.cons (Obl.plain rfl rfl fun R' w' hw hs hd => by have a0 : R' 21 = v1 := hd 0 _ _ _ rfl rfl rfl rfl rfl; have a1 : R' 22 = .int .i64 y5 := hd 1 _ _ _ rfl rfl rfl rfl rfl; have ra0 := (f_v1.fr hw).eq a0; exact of_indexAddr ra0 a1 Try.underlying25 Try.sizeOf3 e8) <|
            Obls.cons (Obl.plain rfl rfl fun R' w' hw hs hd => by have a0 : QRep (eInt .i64) A w' (R' 23) (gtD p1 y5) := hd 0 _ _ _ rfl rfl rfl rfl rfl; exact OpF.int (of_load a0.ptr Try.isAgg3 Try.sizeOf3)) <|
            Obls.cons (Obl.plain rfl rfl fun R' w' hw hs hd => by have a0 : R' 20 = .int .i64 (gtD p0 y5) := hd 0 _ _ _ rfl rfl rfl rfl rfl; have a1 : R' 24 = .int .i64 (gtD p1 y5) := hd 1 _ _ _ rfl rfl rfl rfl rfl; exact of_neq a0 a1) <|
            Obls.nil
        intro R w hw hs hF'
        replace h0 : R 0 = v0 := (hs 0 rfl).trans h0
        replace h1 : R 1 = v1 := (hs 1 rfl).trans h1
        replace h5 : R 5 = .int .i64 y5 := (hs 5 rfl).trans h5
        have h25 : R 25 = .bool ((gtD p0 y5) != (gtD p1 y5)) := hF' 8 _ _ rfl rfl rfl
        replace f_v0 := f_v0.fr hw
        replace f_v1 := f_v1.fr hw
        replace hA := hA.fr hw.size
        replace hF := hF.trans hw
        clear hs hF' hw
        refine seqR_nil ?_
        refine HT.cond ((gtD p0 y5) != (gtD p1 y5)) h25 (fun c9 => ?_) (fun c9 => ?_)
        · have hr := cnd_t c9 hr
          refine HT.seq ?_
          refine HT.text (l := ⟨_, true, .raw (.bool false)⟩ :: []) (tl := []) (by kernel_rfl) (by kernel_rfl) (by kernel_rfl) ?_ ?_
          · exact
              Obls.cons (Obl.plain rfl rfl fun R' w' hw hs hd => by exact of_assign rfl) <|
              Obls.nil
          intro R w hw hs hF'
          have h4 : R 4 = .bool false := hF' 0 _ _ rfl rfl rfl
          replace hA := hA.fr hw.size
          replace hF := hF.trans hw
          clear hs hF' hw
          refine seqR_nil ?_
          refine HT.ret ?_
          obtain rfl := Option.some.inj hr
          have hr := hr0
          replace hr : some _ = some _ := hr
          obtain rfl := Option.some.inj hr
          exact ⟨.inr rfl, [R 4], ⟨rfl, trivial⟩, h4, hF⟩
        · have hr := cnd_f c9 hr
          refine HT.skip ?_
          obtain ⟨e10, hr⟩ := ck_some hr
          refine HT.text (l := ⟨_, true, .raw (.int .i64 y5)⟩ :: ⟨_, true, .raw (.int .i64 (y5 + (1 : Int)))⟩ :: ⟨_, true, .raw (.int .i64 (y5 + (1 : Int)))⟩ :: []) (tl := []) (by kernel_rfl) (by kernel_rfl) (by kernel_rfl) ?_ ?_
          · exact
              Obls.cons (Obl.plain rfl rfl fun R' w' hw hs hd => by have a0 : R' 5 = .int .i64 y5 := (hs 5 rfl).trans h5; exact of_move a0) <|
              Obls.cons (Obl.plain rfl rfl fun R' w' hw hs hd => by have a0 : R' 15 = .int .i64 y5 := hd 0 _ _ _ rfl rfl rfl rfl rfl; exact of_add a0 rfl e10) <|
              Obls.cons (Obl.plain rfl rfl fun R' w' hw hs hd => by have a0 : R' 16 = .int .i64 (y5 + (1 : Int)) := hd 0 _ _ _ rfl rfl rfl rfl rfl; exact of_assign a0) <|
              Obls.nil
          intro R w hw hs hF'
          replace h0 : R 0 = v0 := (hs 0 rfl).trans h0
          replace h1 : R 1 = v1 := (hs 1 rfl).trans h1
          have h5 : R 5 = .int .i64 (y5 + (1 : Int)) := hF' 2 _ _ rfl rfl rfl
          replace f_v0 := f_v0.fr hw
          replace f_v1 := f_v1.fr hw
          replace hA := hA.fr hw.size
          replace hF := hF.trans hw
          clear hs hF' hw
          refine seqR_nil ?_
          exact Exists.intro k (And.intro (Nat.lt_succ_self k) ⟨_, hr, hA, hF, h0, h1, h5, f_v0, f_v1⟩)
      · have hr := cnd_f c6 hr
        refine HT.exit ?_
        obtain rfl := Option.some.inj hr
        exact Exists.intro _ ⟨rfl, hA, hF⟩
    rintro R w ⟨s4, rfl, hA, hF⟩
    have hr := exM_go hr
    refine HT.seq ?_
    refine HT.text (l := ⟨_, true, .raw (.bool true)⟩ :: []) (tl := []) (by kernel_rfl) (by kernel_rfl) (by kernel_rfl) ?_ ?_
    · exact
        Obls.cons (Obl.plain rfl rfl fun R' w' hw hs hd => by exact of_assign rfl) <|
        Obls.nil
    intro R w hw hs hF'
    have h4 : R 4 = .bool true := hF' 0 _ _ rfl rfl rfl
    replace hA := hA.fr hw.size
    replace hF := hF.trans hw
    clear hs hF' hw
    refine seqR_nil ?_
    refine HT.ret ?_
    obtain rfl := Option.some.inj hr
    exact ⟨.inr rfl, [R 4], ⟨rfl, trivial⟩, h4, hF⟩
def M_laws_FnExactEvaluateDiagram (fu : Nat) (p0 : T_laws_Diagram) (p1 : List Int) : Option Bool :=
  bif (decide ((1048576 : Int) < (p1.length : Int))) then (
    some true
  ) else (
    cl true (M_laws_szDiagram fu p0 (1048576 : Int)) fun x3 =>
    bif (decide (x3 < (0 : Int))) then (
      some true
    ) else (
      cl true (M_laws_toDiagram fu p0) fun x6 =>
      cl true (M_laws_toIntS fu p1) fun x8 =>
      cl true (M_spec_EvaluateDiagram fu x6 x8) fun x10 =>
      cl true (M_laws_toDiagram fu p0) fun x12 =>
      cl true (M_laws_toIntS fu p1) fun x17 =>
      cl true (M_impl_EvaluateDiagram fu x12 x17) fun x20 =>
      bif (x20 != x10) then (
        some false
      ) else (
        cl true (M_laws_toDiagram fu p0) fun x23 =>
        cl true (M_laws_eqDiagram fu x12 x23) fun x25 =>
        bif (!x25) then (
          some false
        ) else (
          cl true (M_laws_toIntS fu p1) fun x28 =>
          cl true (M_laws_eqIntS fu x17 x28) fun x30 =>
          bif (!x30) then (
            some false
          ) else (
            some true
          )
        )
      )
    )
  )
set_option maxRecDepth 100000 in
set_option maxHeartbeats 4000000 in
theorem M_laws_FnExactEvaluateDiagram_ok {fu : Nat} {A0 : Av} {p0 : T_laws_Diagram} {p1 : List Int} {r : Bool} (hr : M_laws_FnExactEvaluateDiagram fu p0 p1 = some r) {w : World} {v0 : Value} {v1 : Value} (hA : AvOK A0 w) (h0 : Rep E_laws_Diagram A0 w v0 p0) (h1 : Rep (eSl (eInt .i64)) A0 w v1 p1) :
    Calls Try.prog 7 #[v0, v1] w fun e w' => ∃ v, e = .returned v ∧ (v = .bool r ∧ Fr w w') := by
  unfold M_laws_FnExactEvaluateDiagram at hr
  obtain ⟨w0, hw0⟩ : ∃ w0, w0 = w := ⟨_, rfl⟩
  have hF : Fr w0 w := hw0 ▸ Fr.refl _
  have hA0 : ∀ b o, A0 b o → b < w0.heap.size := fun b o h => hw0 ▸ hA b o h
  have hA00 : AvOK A0 w0 := hA0
  rw [show Fr w = Fr w0 from hw0 ▸ rfl]
  clear hw0
  obtain ⟨A, hAe⟩ : ∃ A, A = A0 := ⟨_, rfl⟩
  have hAA : ∀ b o, A0 b o → A b o := fun b o h => hAe ▸ h
  replace hA : AvOK A w := hAe ▸ hA
  have hO : IniOK [] A w := IniOK.nil
  refine calls_of_HT2 [.tmp 4] Try.func7 Try.ntmps7 (by decide) rfl rfl (Nat.le_of_ble_eq_true rfl) ?_
  intro R hR
  have f_v0 : Rep E_laws_Diagram A w v0 p0 := hAe ▸ h0
  replace h0 : R 0 = v0 := hR 0 _ rfl
  have f_v1 : Rep (eSl (eInt .i64)) A w v1 p1 := hAe ▸ h1
  replace h1 : R 1 = v1 := hR 1 _ rfl
  clear hR hAe
  refine HT.seq ?_
  refine HT.textR [] (⟨_, true, none, some (.box w0.heap.size 38 E_laws_Diagram p0), true, fun A => .any⟩ :: ⟨_, true, none, none, true, fun A => .raw (.bool false)⟩ :: []) (by kernel_rfl) (by kernel_rfl) (Wf.mk' (by kernel_rfl) (UAll.cons ust_any (UAll.cons ust_raw (UAll.nil))) (by kernel_rfl) (by kernel_rfl)) hO hA ?_ ?_
  · exact
      OblsR.cons (OblR.made _ rfl rfl rfl rfl fun A' R' w' ho hd => by have a0 : R' 0 = v0 := (ho.old 0 rfl).trans h0; have ra0 := (f_v0.stp ho.stp).eq a0; exact made_box ra0 (Nat.le_trans hF.size ho.ch.size)) <|
      OblsR.cons (OblR.plain rfl rfl rfl rfl fun A' R' w' ho hd => by exact of_assign rfl) <|
      OblsR.nil
  intro done ρ A R w hdn hI
  replace h1 : R 1 = v1 := (hI.reg rfl).trans h1
  obtain ⟨b2_0, e_b2_0⟩ := hI.boxv hdn 0 rfl rfl
  have h2 : R 2 = (.pointer (some ⟨b2_0, 0, none⟩)) := (hI.opvR hdn 0 0 rfl rfl rfl rfl rfl).symm.trans e_b2_0
  replace f_v1 := f_v1.stp hI.stp
  replace hAA := hI.low' hAA hA0 (hO.ge (trivial))
  replace hF : Fr w0 w := Below.trans hF (hI.ch.below hF.size (hO.ge (trivial)))
  replace hO : IniOK [((.pointer (some ⟨b2_0, 0, none⟩)), .box w0.heap.size 38 E_laws_Diagram p0)] A w := hI.left hdn [(0, (.pointer (some ⟨b2_0, 0, none⟩)), .box w0.heap.size 38 E_laws_Diagram p0)] ⟨rfl, rfl, e_b2_0, rfl, trivial⟩
  replace hA := hI.avok
  clear hI
  refine HT.seq ?_
  refine HT.seq ?_
  refine HT.text (l := ⟨_, true, .raw v1⟩ :: ⟨_, true, .raw (.int .i64 (p1.length : Int))⟩ :: ⟨_, true, .raw (.bool (decide ((1048576 : Int) < (p1.length : Int))))⟩ :: []) (tl := []) (by kernel_rfl) (by kernel_rfl) (by kernel_rfl) ?_ ?_
  · exact
      Obls.cons (Obl.plain rfl rfl fun R' w' hw hs hd => by have a0 : R' 1 = v1 := (hs 1 rfl).trans h1; exact of_move a0) <|
      Obls.cons (Obl.plain rfl rfl fun R' w' hw hs hd => by have a0 : R' 10 = v1 := hd 0 _ _ _ rfl rfl rfl rfl rfl; have ra0 := (f_v1.fr hw).eq a0; exact of_len_sl (aT := #[]) ra0 Try.underlying25) <|
      Obls.cons (Obl.plain rfl rfl fun R' w' hw hs hd => by have a0 : R' 11 = .int .i64 (p1.length : Int) := hd 0 _ _ _ rfl rfl rfl rfl rfl; exact of_gtr a0 rfl) <|
      Obls.nil
  intro R w hw hs hF'
  replace h1 : R 1 = v1 := (hs 1 rfl).trans h1
  replace h2 : R 2 = (.pointer (some ⟨b2_0, 0, none⟩)) := (hs 2 rfl).trans h2
  have h12 : R 12 = .bool (decide ((1048576 : Int) < (p1.length : Int))) := hF' 2 _ _ rfl rfl rfl
  replace f_v1 := f_v1.fr hw
  replace hO := hO.fr hw
  replace hA := hA.fr hw.size
  replace hF := hF.trans hw
  clear hs hF' hw
  refine seqR_nil ?_
  refine HT.cond (decide ((1048576 : Int) < (p1.length : Int))) h12 (fun c2 => ?_) (fun c2 => ?_)
  · have hr := cnd_t c2 hr
    refine HT.seq ?_
    refine HT.text (l := ⟨_, true, .raw (.bool true)⟩ :: []) (tl := []) (by kernel_rfl) (by kernel_rfl) (by kernel_rfl) ?_ ?_
    · exact
        Obls.cons (Obl.plain rfl rfl fun R' w' hw hs hd => by exact of_assign rfl) <|
        Obls.nil
    intro R w hw hs hF'
    have h4 : R 4 = .bool true := hF' 0 _ _ rfl rfl rfl
    replace hO := hO.fr hw
    replace hO : IniOK [] A w := hO.sub [] trivial
    replace hA := hA.fr hw.size
    replace hF := hF.trans hw
    clear hs hF' hw
    refine seqR_nil ?_
    refine HT.ret ?_
    obtain rfl := Option.some.inj hr
    exact ⟨.inr rfl, [R 4], ⟨rfl, trivial⟩, h4, hF⟩
  · have hr := cnd_f c2 hr
    refine HT.skip ?_
    refine HT.seq ?_
    refine HT.text (l := ⟨_, true, .raw (.int .i64 (1048576 : Int))⟩ :: []) (tl := []) (by kernel_rfl) (by kernel_rfl) (by kernel_rfl) ?_ ?_
    · exact
        Obls.cons (Obl.plain rfl rfl fun R' w' hw hs hd => by exact of_assign rfl) <|
        Obls.nil
    intro R w hw hs hF'
    replace h1 : R 1 = v1 := (hs 1 rfl).trans h1
    replace h2 : R 2 = (.pointer (some ⟨b2_0, 0, none⟩)) := (hs 2 rfl).trans h2
    have h5 : R 5 = .int .i64 (1048576 : Int) := hF' 0 _ _ rfl rfl rfl
    replace f_v1 := f_v1.fr hw
    replace hO := hO.fr hw
    replace hA := hA.fr hw.size
    replace hF := hF.trans hw
    clear hs hF' hw
    refine seqR_nil ?_
    refine HT.seq ?_
    obtain ⟨x3, q4, hr⟩ := cl_some hr
    refine HT.text (l := ⟨_, true, .rep E_laws_Diagram A p0⟩ :: ⟨_, true, .raw (.int .i64 (1048576 : Int))⟩ :: ⟨_, true, .raw (.int .i64 x3)⟩ :: ⟨_, true, .raw (.int .i64 x3)⟩ :: []) (tl := []) (by kernel_rfl) (by kernel_rfl) (by kernel_rfl) ?_ ?_
    · exact
        Obls.cons (Obl.plain rfl rfl fun R' w' hw hs hd => by have a0 : R' 2 = (.pointer (some ⟨b2_0, 0, none⟩)) := (hs 2 rfl).trans h2; exact (of_load_box ((hO.fr hw).ok 0 _ rfl).1 a0 (Fld.id _) rfl Try.isAgg38 Try.sizeOf38)) <|
        Obls.cons (Obl.plain rfl rfl fun R' w' hw hs hd => by have a0 : R' 5 = .int .i64 (1048576 : Int) := (hs 5 rfl).trans h5; exact of_move a0) <|
        Obls.cons (Obl.plain rfl rfl fun R' w' hw hs hd => by have a0 : Rep E_laws_Diagram A w' (R' 13) p0 := hd 0 _ _ _ rfl rfl rfl rfl rfl; have a1 : R' 14 = .int .i64 (1048576 : Int) := hd 1 _ _ _ rfl rfl rfl rfl rfl; exact of_call Try.call22 (M_laws_szDiagram_ok (q4 rfl) (hA.fr hw.size) a0 a1)) <|
        Obls.cons (Obl.plain rfl rfl fun R' w' hw hs hd => by have a0 : R' 15 = .int .i64 x3 := hd 0 _ _ _ rfl rfl rfl rfl rfl; exact of_assign a0) <|
        Obls.nil
    intro R w hw hs hF'
    replace h1 : R 1 = v1 := (hs 1 rfl).trans h1
    replace h2 : R 2 = (.pointer (some ⟨b2_0, 0, none⟩)) := (hs 2 rfl).trans h2
    have h5 : R 5 = .int .i64 x3 := hF' 3 _ _ rfl rfl rfl
    replace f_v1 := f_v1.fr hw
    replace hO := hO.fr hw
    replace hA := hA.fr hw.size
    replace hF := hF.trans hw
    clear hs hF' hw
    refine seqR_nil ?_
    refine HT.seq ?_
    refine HT.seq ?_
    refine HT.text (l := ⟨_, true, .raw (.int .i64 x3)⟩ :: ⟨_, true, .raw (.bool (decide (x3 < (0 : Int))))⟩ :: []) (tl := []) (by kernel_rfl) (by kernel_rfl) (by kernel_rfl) ?_ ?_
    · exact
        Obls.cons (Obl.plain rfl rfl fun R' w' hw hs hd => by have a0 : R' 5 = .int .i64 x3 := (hs 5 rfl).trans h5; exact of_move a0) <|
        Obls.cons (Obl.plain rfl rfl fun R' w' hw hs hd => by have a0 : R' 16 = .int .i64 x3 := hd 0 _ _ _ rfl rfl rfl rfl rfl; exact of_lss a0 rfl) <|
        Obls.nil
    intro R w hw hs hF'
    replace h1 : R 1 = v1 := (hs 1 rfl).trans h1
    replace h2 : R 2 = (.pointer (some ⟨b2_0, 0, none⟩)) := (hs 2 rfl).trans h2
    have h17 : R 17 = .bool (decide (x3 < (0 : Int))) := hF' 1 _ _ rfl rfl rfl
    replace f_v1 := f_v1.fr hw
    replace hO := hO.fr hw
    replace hA := hA.fr hw.size
    replace hF := hF.trans hw
    clear hs hF' hw
    refine seqR_nil ?_
    refine HT.cond (decide (x3 < (0 : Int))) h17 (fun c5 => ?_) (fun c5 => ?_)
    · have hr := cnd_t c5 hr
      refine HT.seq ?_
      refine HT.text (l := ⟨_, true, .raw (.bool true)⟩ :: []) (tl := []) (by kernel_rfl) (by kernel_rfl) (by kernel_rfl) ?_ ?_
      · exact
          Obls.cons (Obl.plain rfl rfl fun R' w' hw hs hd => by exact of_assign rfl) <|
          Obls.nil
      intro R w hw hs hF'
      have h4 : R 4 = .bool true := hF' 0 _ _ rfl rfl rfl
      replace hO := hO.fr hw
      replace hO : IniOK [] A w := hO.sub [] trivial
      replace hA := hA.fr hw.size
      replace hF := hF.trans hw
      clear hs hF' hw
      refine seqR_nil ?_
      refine HT.ret ?_
      obtain rfl := Option.some.inj hr
      exact ⟨.inr rfl, [R 4], ⟨rfl, trivial⟩, h4, hF⟩
    · have hr := cnd_f c5 hr
      refine HT.skip ?_
      refine HT.seq ?_
      obtain ⟨x6, q7, hr⟩ := cl_some hr
      obtain ⟨x8, q9, hr⟩ := cl_some hr
      obtain ⟨x10, q11, hr⟩ := cl_some hr
      refine HT.text (l := ⟨_, true, .rep E_laws_Diagram A p0⟩ :: ⟨_, true, .rep E_impl_Diagram A x6⟩ :: ⟨_, true, .raw v1⟩ :: ⟨_, true, .rep (eSl (eInt .i64)) A x8⟩ :: ⟨_, true, .raw (.bool x10)⟩ :: ⟨_, true, .raw (.bool x10)⟩ :: []) (tl := []) (by kernel_rfl) (by kernel_rfl) (by kernel_rfl) ?_ ?_
      · exact
          Obls.cons (Obl.plain rfl rfl fun R' w' hw hs hd => by have a0 : R' 2 = (.pointer (some ⟨b2_0, 0, none⟩)) := (hs 2 rfl).trans h2; exact (of_load_box ((hO.fr hw).ok 0 _ rfl).1 a0 (Fld.id _) rfl Try.isAgg38 Try.sizeOf38)) <|
          Obls.cons (Obl.plain rfl rfl fun R' w' hw hs hd => by have a0 : Rep E_laws_Diagram A w' (R' 18) p0 := hd 0 _ _ _ rfl rfl rfl rfl rfl; exact of_call Try.call24 (M_laws_toDiagram_ok (q7 rfl) (hA.fr hw.size) a0)) <|
          Obls.cons (Obl.plain rfl rfl fun R' w' hw hs hd => by have a0 : R' 1 = v1 := (hs 1 rfl).trans h1; exact of_move a0) <|
          Obls.cons (Obl.plain rfl rfl fun R' w' hw hs hd => by have a0 : R' 20 = v1 := hd 0 _ _ _ rfl rfl rfl rfl rfl; have ra0 := (f_v1.fr hw).eq a0; exact of_call Try.call18 (M_laws_toIntS_okR (q9 rfl) (hA.fr hw.size) ra0)) <|
          Obls.cons (Obl.plain rfl rfl fun R' w' hw hs hd => by have a0 : Rep E_impl_Diagram A w' (R' 19) x6 := hd 0 _ _ _ rfl rfl rfl rfl rfl; have a1 : Rep (eSl (eInt .i64)) A w' (R' 21) x8 := hd 1 _ _ _ rfl rfl rfl rfl rfl; exact of_call Try.call37 (M_spec_EvaluateDiagram_ok (q11 rfl) (hA.fr hw.size) a0 a1)) <|
          Obls.cons (Obl.plain rfl rfl fun R' w' hw hs hd => by have a0 : R' 22 = .bool x10 := hd 0 _ _ _ rfl rfl rfl rfl rfl; exact of_assign a0) <|
          Obls.nil
      intro R w hw hs hF'
      replace h1 : R 1 = v1 := (hs 1 rfl).trans h1
      replace h2 : R 2 = (.pointer (some ⟨b2_0, 0, none⟩)) := (hs 2 rfl).trans h2
      have h6 : R 6 = .bool x10 := hF' 5 _ _ rfl rfl rfl
      replace f_v1 := f_v1.fr hw
      replace hO := hO.fr hw
      replace hA := hA.fr hw.size
      replace hF := hF.trans hw
      clear hs hF' hw
      refine seqR_nil ?_
      refine HT.seq ?_
      obtain ⟨x12, q13, hr⟩ := cl_some hr
      refine HT.textR [((.pointer (some ⟨b2_0, 0, none⟩)), .box w0.heap.size 38 E_laws_Diagram p0)] (⟨_, true, none, none, true, fun A => .rep E_laws_Diagram A p0⟩ :: ⟨_, true, none, none, true, fun A => .rep E_impl_Diagram A x12⟩ :: ⟨_, true, none, some (.box w0.heap.size 43 E_impl_Diagram ((0 : Int), ([] : List T_impl_DiagramNode))), true, fun A => .any⟩ :: ⟨_, true, some 3, some (.box w0.heap.size 43 E_impl_Diagram x12), false, fun A => .any⟩ :: []) (by kernel_rfl) (by kernel_rfl) (Wf.mk' (by kernel_rfl) (UAll.cons ust_rep (UAll.cons ust_rep (UAll.cons ust_any (UAll.cons ust_any (UAll.nil))))) (by kernel_rfl) (by kernel_rfl)) hO hA ?_ ?_
      · exact
          OblsR.cons (OblR.plain rfl rfl rfl rfl fun A' R' w' ho hd => by have a0 : R' 2 = (.pointer (some ⟨b2_0, 0, none⟩)) := (ho.old 2 rfl).trans h2; exact (of_load_box (ho.rd 0 _ rfl rfl) a0 (Fld.id _) rfl Try.isAgg38 Try.sizeOf38)) <|
          OblsR.cons (OblR.plain rfl rfl rfl rfl fun A' R' w' ho hd => by have a0 : Rep E_laws_Diagram A' w' (R' 23) p0 := hd 0 _ _ _ rfl rfl rfl rfl rfl; exact of_call Try.call24 (M_laws_toDiagram_ok (q13 rfl) ho.av a0)) <|
          OblsR.cons (OblR.made _ rfl rfl rfl rfl fun A' R' w' ho hd => by exact made_alloc Try.zeroValue43 (fun A w => rep_pr rep1_int rep1_nil) (Nat.le_trans hF.size ho.ch.size)) <|
          OblsR.cons (OblR.took 3 _ _ rfl rfl rfl rfl rfl fun A' R' w' ho hd u hok hav hin hop => by have a1 : Rep E_impl_Diagram A' w' (R' 24) x12 := hd 1 _ _ _ rfl rfl rfl rfl rfl; obtain ⟨b, hb, hB', hbx⟩ := hok; have hop' := hop _ _ rfl rfl rfl rfl; exact took_store a1 (hop'.symm.trans hb) hb ⟨b, hb, hB', hbx⟩ hav (FldS.id _) Try.sizeOf43 rfl) <|
          OblsR.nil
      intro done ρ A R w hdn hI
      replace h1 : R 1 = v1 := (hI.reg rfl).trans h1
      replace h2 : R 2 = (.pointer (some ⟨b2_0, 0, none⟩)) := (hI.reg rfl).trans h2
      replace h6 : R 6 = .bool x10 := (hI.reg rfl).trans h6
      have z14 := hI.inivR 0 rfl
      obtain ⟨b7_14, e_b7_14⟩ := hI.boxv hdn 4 rfl rfl
      have z16 := (hI.opnR hdn 4 3 rfl rfl rfl rfl rfl).symm.trans e_b7_14
      have h7 : R 7 = (.pointer (some ⟨b7_14, 0, none⟩)) := (hI.opvR hdn 3 2 rfl rfl rfl rfl rfl).symm.trans z16
      replace f_v1 := f_v1.stp hI.stp
      replace hAA := hI.low' hAA hA0 (hO.ge (⟨rfl, trivial⟩))
      replace hF : Fr w0 w := Below.trans hF (hI.ch.below hF.size (hO.ge (⟨rfl, trivial⟩)))
      replace hO : IniOK [((.pointer (some ⟨b2_0, 0, none⟩)), .box w0.heap.size 38 E_laws_Diagram p0), ((.pointer (some ⟨b7_14, 0, none⟩)), .box w0.heap.size 43 E_impl_Diagram x12)] A w := hI.left hdn [(0, (.pointer (some ⟨b2_0, 0, none⟩)), .box w0.heap.size 38 E_laws_Diagram p0), (4, (.pointer (some ⟨b7_14, 0, none⟩)), .box w0.heap.size 43 E_impl_Diagram x12)] ⟨rfl, rfl, z14, rfl, ⟨rfl, rfl, e_b7_14, rfl, trivial⟩⟩
      replace hA := hI.avok
      clear hI
      refine HT.seq ?_
      obtain ⟨x17, q18, hr⟩ := cl_some hr
      refine HT.text (l := ⟨_, true, .raw v1⟩ :: ⟨_, true, .rep (eSl (eInt .i64)) A x17⟩ :: ⟨_, true, .rep (eSl (eInt .i64)) A x17⟩ :: []) (tl := []) (by kernel_rfl) (by kernel_rfl) (by kernel_rfl) ?_ ?_
      · exact
          Obls.cons (Obl.plain rfl rfl fun R' w' hw hs hd => by have a0 : R' 1 = v1 := (hs 1 rfl).trans h1; exact of_move a0) <|
          Obls.cons (Obl.plain rfl rfl fun R' w' hw hs hd => by have a0 : R' 25 = v1 := hd 0 _ _ _ rfl rfl rfl rfl rfl; have ra0 := (f_v1.fr hw).eq a0; exact of_call Try.call18 (M_laws_toIntS_okR (q18 rfl) (hA.fr hw.size) ra0)) <|
          Obls.cons (Obl.plain rfl rfl fun R' w' hw hs hd => by have a0 : Rep (eSl (eInt .i64)) A w' (R' 26) x17 := hd 0 _ _ _ rfl rfl rfl rfl rfl; exact of_assign a0) <|
          Obls.nil
      intro R w hw hs hF'
      replace h1 : R 1 = v1 := (hs 1 rfl).trans h1
      replace h2 : R 2 = (.pointer (some ⟨b2_0, 0, none⟩)) := (hs 2 rfl).trans h2
      replace h6 : R 6 = .bool x10 := (hs 6 rfl).trans h6
      replace h7 : R 7 = (.pointer (some ⟨b7_14, 0, none⟩)) := (hs 7 rfl).trans h7
      obtain ⟨u19, h8, f_u19⟩ : ∃ u, R 8 = u ∧ Rep (eSl (eInt .i64)) A w u x17 := ⟨_, rfl, hF' 2 _ _ rfl rfl rfl⟩
      replace f_v1 := f_v1.fr hw
      replace hO := hO.fr hw
      replace hA := hA.fr hw.size
      replace hF := hF.trans hw
      clear hs hF' hw
      refine seqR_nil ?_
      refine HT.seq ?_
      obtain ⟨x20, q21, hr⟩ := cl_some hr
      refine HT.text (l := ⟨_, true, .rep E_impl_Diagram A x12⟩ :: ⟨_, true, .raw u19⟩ :: ⟨_, true, .raw (.bool x20)⟩ :: ⟨_, true, .raw (.bool x20)⟩ :: []) (tl := []) (by kernel_rfl) (by kernel_rfl) (by kernel_rfl) ?_ ?_
      · exact
          Obls.cons (Obl.plain rfl rfl fun R' w' hw hs hd => by have a0 : R' 7 = (.pointer (some ⟨b7_14, 0, none⟩)) := (hs 7 rfl).trans h7; exact (of_load_box ((hO.fr hw).ok 1 _ rfl).1 a0 (Fld.id _) rfl Try.isAgg43 Try.sizeOf43)) <|
          Obls.cons (Obl.plain rfl rfl fun R' w' hw hs hd => by have a0 : R' 8 = u19 := (hs 8 rfl).trans h8; exact of_move a0) <|
          Obls.cons (Obl.plain rfl rfl fun R' w' hw hs hd => by have a0 : Rep E_impl_Diagram A w' (R' 27) x12 := hd 0 _ _ _ rfl rfl rfl rfl rfl; have a1 : R' 28 = u19 := hd 1 _ _ _ rfl rfl rfl rfl rfl; have ra1 := (f_u19.fr hw).eq a1; exact of_call Try.call38 (M_impl_EvaluateDiagram_ok (q21 rfl) (hA.fr hw.size) a0 ra1)) <|
          Obls.cons (Obl.plain rfl rfl fun R' w' hw hs hd => by have a0 : R' 29 = .bool x20 := hd 0 _ _ _ rfl rfl rfl rfl rfl; exact of_assign a0) <|
          Obls.nil
      intro R w hw hs hF'
      replace h1 : R 1 = v1 := (hs 1 rfl).trans h1
      replace h2 : R 2 = (.pointer (some ⟨b2_0, 0, none⟩)) := (hs 2 rfl).trans h2
      replace h6 : R 6 = .bool x10 := (hs 6 rfl).trans h6
      replace h7 : R 7 = (.pointer (some ⟨b7_14, 0, none⟩)) := (hs 7 rfl).trans h7
      replace h8 : R 8 = u19 := (hs 8 rfl).trans h8
      have h9 : R 9 = .bool x20 := hF' 3 _ _ rfl rfl rfl
      replace f_u19 := f_u19.fr hw
      replace f_v1 := f_v1.fr hw
      replace hO := hO.fr hw
      replace hA := hA.fr hw.size
      replace hF := hF.trans hw
      clear hs hF' hw
      refine seqR_nil ?_
      refine HT.seq ?_
      refine HT.seq ?_
      refine HT.text (l := ⟨_, true, .raw (.bool x20)⟩ :: ⟨_, true, .raw (.bool x10)⟩ :: ⟨_, true, .raw (.bool (x20 != x10))⟩ :: []) (tl := []) (by kernel_rfl) (by kernel_rfl) (by kernel_rfl) ?_ ?_
      · exact
          Obls.cons (Obl.plain rfl rfl fun R' w' hw hs hd => by have a0 : R' 9 = .bool x20 := (hs 9 rfl).trans h9; exact of_move a0) <|
          Obls.cons (Obl.plain rfl rfl fun R' w' hw hs hd => by have a0 : R' 6 = .bool x10 := (hs 6 rfl).trans h6; exact of_move a0) <|
          Obls.cons (Obl.plain rfl rfl fun R' w' hw hs hd => by have a0 : R' 30 = .bool x20 := hd 0 _ _ _ rfl rfl rfl rfl rfl; have a1 : R' 31 = .bool x10 := hd 1 _ _ _ rfl rfl rfl rfl rfl; exact of_bneq Try.underlying4 a0 a1) <|
          Obls.nil
      intro R w hw hs hF'
      replace h1 : R 1 = v1 := (hs 1 rfl).trans h1
      replace h2 : R 2 = (.pointer (some ⟨b2_0, 0, none⟩)) := (hs 2 rfl).trans h2
      replace h7 : R 7 = (.pointer (some ⟨b7_14, 0, none⟩)) := (hs 7 rfl).trans h7
      replace h8 : R 8 = u19 := (hs 8 rfl).trans h8
      have h32 : R 32 = .bool (x20 != x10) := hF' 2 _ _ rfl rfl rfl
      replace f_u19 := f_u19.fr hw
      replace f_v1 := f_v1.fr hw
      replace hO := hO.fr hw
      replace hA := hA.fr hw.size
      replace hF := hF.trans hw
      clear hs hF' hw
      refine seqR_nil ?_
      refine HT.cond (x20 != x10) h32 (fun c22 => ?_) (fun c22 => ?_)
      · have hr := cnd_t c22 hr
        refine HT.seq ?_
        refine HT.text (l := ⟨_, true, .raw (.bool false)⟩ :: []) (tl := []) (by kernel_rfl) (by kernel_rfl) (by kernel_rfl) ?_ ?_
        · exact
            Obls.cons (Obl.plain rfl rfl fun R' w' hw hs hd => by exact of_assign rfl) <|
            Obls.nil
        intro R w hw hs hF'
        have h4 : R 4 = .bool false := hF' 0 _ _ rfl rfl rfl
        replace hO := hO.fr hw
        replace hO : IniOK [] A w := hO.sub [] trivial
        replace hA := hA.fr hw.size
        replace hF := hF.trans hw
        clear hs hF' hw
        refine seqR_nil ?_
        refine HT.ret ?_
        obtain rfl := Option.some.inj hr
        exact ⟨.inr rfl, [R 4], ⟨rfl, trivial⟩, h4, hF⟩
      · have hr := cnd_f c22 hr
        refine HT.skip ?_
        refine HT.seq ?_
        refine HT.seq ?_
        obtain ⟨x23, q24, hr⟩ := cl_some hr
        obtain ⟨x25, q26, hr⟩ := cl_some hr
        refine HT.draw (by kernel_rfl) (l := ⟨_, true, .rep E_impl_Diagram A x12⟩ :: ⟨_, true, .rep E_laws_Diagram A p0⟩ :: ⟨_, true, .rep E_impl_Diagram A x23⟩ :: ⟨_, true, .raw (.bool x25)⟩ :: ⟨_, true, .raw (.bool (!x25))⟩ :: []) (tl := []) (by kernel_rfl) (by kernel_rfl) (by kernel_rfl) (by kernel_rfl) ?_ ?_
        · exact
            Obls.cons (Obl.plain rfl rfl fun R' w' hw hs hd => by have a0 : R' 7 = (.pointer (some ⟨b7_14, 0, none⟩)) := (hs 7 rfl).trans h7; exact (of_load_box ((hO.fr hw).ok 1 _ rfl).1 a0 (Fld.id _) rfl Try.isAgg43 Try.sizeOf43)) <|
            Obls.cons (Obl.plain rfl rfl fun R' w' hw hs hd => by have a0 : R' 2 = (.pointer (some ⟨b2_0, 0, none⟩)) := (hs 2 rfl).trans h2; exact (of_load_box ((hO.fr hw).ok 0 _ rfl).1 a0 (Fld.id _) rfl Try.isAgg38 Try.sizeOf38)) <|
            Obls.cons (Obl.plain rfl rfl fun R' w' hw hs hd => by have a0 : Rep E_laws_Diagram A w' (R' 34) p0 := hd 0 _ _ _ rfl rfl rfl rfl rfl; exact of_call Try.call24 (M_laws_toDiagram_ok (q24 rfl) (hA.fr hw.size) a0)) <|
            Obls.cons (Obl.plain rfl rfl fun R' w' hw hs hd => by have a0 : Rep E_impl_Diagram A w' (R' 33) x12 := hd 0 _ _ _ rfl rfl rfl rfl rfl; have a1 : Rep E_impl_Diagram A w' (R' 35) x23 := hd 1 _ _ _ rfl rfl rfl rfl rfl; exact of_call Try.call26 (M_laws_eqDiagram_ok (q26 rfl) (hA.fr hw.size) a0 a1)) <|
            Obls.cons (Obl.plain rfl rfl fun R' w' hw hs hd => by have a0 : R' 36 = .bool x25 := hd 0 _ _ _ rfl rfl rfl rfl rfl; exact of_not a0) <|
            Obls.nil
        intro R w hw hs hF'
        replace h1 : R 1 = v1 := (hs 1 rfl).trans h1
        replace h8 : R 8 = u19 := (hs 8 rfl).trans h8
        have h37 : R 37 = .bool (!x25) := hF' 4 _ _ rfl rfl rfl
        replace f_u19 := f_u19.fr hw
        replace f_v1 := f_v1.fr hw
        replace hO := hO.fr hw
        replace hO : IniOK [] A w := hO.sub [] trivial
        replace hA := hA.fr hw.size
        replace hF := hF.trans hw
        clear hs hF' hw
        refine seqR_nil ?_
        refine HT.cond (!x25) h37 (fun c27 => ?_) (fun c27 => ?_)
        · have hr := cnd_t c27 hr
          refine HT.seq ?_
          refine HT.text (l := ⟨_, true, .raw (.bool false)⟩ :: []) (tl := []) (by kernel_rfl) (by kernel_rfl) (by kernel_rfl) ?_ ?_
          · exact
              Obls.cons (Obl.plain rfl rfl fun R' w' hw hs hd => by exact of_assign rfl) <|
              Obls.nil
          intro R w hw hs hF'
          have h4 : R 4 = .bool false := hF' 0 _ _ rfl rfl rfl
          replace hO := hO.fr hw
          replace hA := hA.fr hw.size
          replace hF := hF.trans hw
          clear hs hF' hw
          refine seqR_nil ?_
          refine HT.ret ?_
          obtain rfl := Option.some.inj hr
          exact ⟨.inr rfl, [R 4], ⟨rfl, trivial⟩, h4, hF⟩
        · have hr := cnd_f c27 hr
          refine HT.skip ?_
          refine HT.seq ?_
          refine HT.seq ?_
          obtain ⟨x28, q29, hr⟩ := cl_some hr
          obtain ⟨x30, q31, hr⟩ := cl_some hr
          refine HT.text (l := ⟨_, true, .raw u19⟩ :: ⟨_, true, .raw v1⟩ :: ⟨_, true, .rep (eSl (eInt .i64)) A x28⟩ :: ⟨_, true, .raw (.bool x30)⟩ :: ⟨_, true, .raw (.bool (!x30))⟩ :: []) (tl := []) (by kernel_rfl) (by kernel_rfl) (by kernel_rfl) ?_ ?_
          · exact
              Obls.cons (Obl.plain rfl rfl fun R' w' hw hs hd => by have a0 : R' 8 = u19 := (hs 8 rfl).trans h8; exact of_move a0) <|
              Obls.cons (Obl.plain rfl rfl fun R' w' hw hs hd => by have a0 : R' 1 = v1 := (hs 1 rfl).trans h1; exact of_move a0) <|
              Obls.cons (Obl.plain rfl rfl fun R' w' hw hs hd => by have a0 : R' 39 = v1 := hd 0 _ _ _ rfl rfl rfl rfl rfl; have ra0 := (f_v1.fr hw).eq a0; exact of_call Try.call18 (M_laws_toIntS_okR (q29 rfl) (hA.fr hw.size) ra0)) <|
              Obls.cons (Obl.plain rfl rfl fun R' w' hw hs hd => by have a0 : R' 38 = u19 := hd 0 _ _ _ rfl rfl rfl rfl rfl; have ra0 := (f_u19.fr hw).eq a0; have a1 : Rep (eSl (eInt .i64)) A w' (R' 40) x28 := hd 1 _ _ _ rfl rfl rfl rfl rfl; exact of_call Try.call21 (M_laws_eqIntS_ok (q31 rfl) (hA.fr hw.size) ra0 a1)) <|
              Obls.cons (Obl.plain rfl rfl fun R' w' hw hs hd => by have a0 : R' 41 = .bool x30 := hd 0 _ _ _ rfl rfl rfl rfl rfl; exact of_not a0) <|
              Obls.nil
          intro R w hw hs hF'
          have h42 : R 42 = .bool (!x30) := hF' 4 _ _ rfl rfl rfl
          replace hO := hO.fr hw
          replace hA := hA.fr hw.size
          replace hF := hF.trans hw
          clear hs hF' hw
          refine seqR_nil ?_
          refine HT.cond (!x30) h42 (fun c32 => ?_) (fun c32 => ?_)
          · have hr := cnd_t c32 hr
            refine HT.seq ?_
            refine HT.text (l := ⟨_, true, .raw (.bool false)⟩ :: []) (tl := []) (by kernel_rfl) (by kernel_rfl) (by kernel_rfl) ?_ ?_
            · exact
                Obls.cons (Obl.plain rfl rfl fun R' w' hw hs hd => by exact of_assign rfl) <|
                Obls.nil
            intro R w hw hs hF'
            have h4 : R 4 = .bool false := hF' 0 _ _ rfl rfl rfl
            replace hO := hO.fr hw
            replace hA := hA.fr hw.size
            replace hF := hF.trans hw
            clear hs hF' hw
            refine seqR_nil ?_
            refine HT.ret ?_
            obtain rfl := Option.some.inj hr
            exact ⟨.inr rfl, [R 4], ⟨rfl, trivial⟩, h4, hF⟩
          · have hr := cnd_f c32 hr
            refine HT.skip ?_
            refine HT.seq ?_
            refine HT.text (l := ⟨_, true, .raw (.bool true)⟩ :: []) (tl := []) (by kernel_rfl) (by kernel_rfl) (by kernel_rfl) ?_ ?_
            · exact
                Obls.cons (Obl.plain rfl rfl fun R' w' hw hs hd => by exact of_assign rfl) <|
                Obls.nil
            intro R w hw hs hF'
            have h4 : R 4 = .bool true := hF' 0 _ _ rfl rfl rfl
            replace hO := hO.fr hw
            replace hA := hA.fr hw.size
            replace hF := hF.trans hw
            clear hs hF' hw
            refine seqR_nil ?_
            refine HT.ret ?_
            obtain rfl := Option.some.inj hr
            exact ⟨.inr rfl, [R 4], ⟨rfl, trivial⟩, h4, hF⟩
end Go.Proofs.Ytjfhlhhobpdneaa
