/- Printed by dec.py: plain functions and the proofs that the code computes them. No statement of the seat is proved here. -/
import Derived.Test.YtmgiijdejigdhaaE1
import Derived.BigRegion
import Derived.Deep.RegionWith
import Derived.Laws.Rows
import Derived.LoopTactic
import Derived.OwnWalk
namespace Go.Proofs.Ytmgiijdejigdhaa
open Go.RowKit
set_option linter.unusedVariables false
def M_spec_l12Find_L0 (fu : Nat) (p0 : T_impl_SetIndex) (p1 : Int) : Nat → Int → Option (Ex Int Unit)
  | 0, _ => none
  | k + 1, y5 =>
    bif (decide (y5 < (p0.2.2.length : Int))) then (
      ck (inR y5 p0.2.2.length) <|
      bif (((gtD p0.2.2 y5).1) == p1) then (
        some (Ex.ret y5)
      ) else (
        ck (i64B (y5 + (1 : Int))) <|
        M_spec_l12Find_L0 fu p0 p1 k (y5 + (1 : Int))
      )
    ) else (
      some (Ex.go ())
    )
def M_spec_l12Find (fu : Nat) (p0 : T_impl_SetIndex) (p1 : Int) : Option Int :=
  cl true (M_spec_l12Find_L0 fu p0 p1 fu (0 : Int)) fun rl2 =>
  exM rl2 (fun r => some r) fun s4 =>
  some (-1 : Int)
set_option maxRecDepth 100000 in
set_option maxHeartbeats 4000000 in
theorem M_spec_l12Find_ok {fu : Nat} {A0 : Av} {p0 : T_impl_SetIndex} {p1 : Int} {r : Int} (hr : M_spec_l12Find fu p0 p1 = some r) {w : World} {v0 : Value} {v1 : Value} (hA : AvOK A0 w) (h0 : Rep E_impl_SetIndex A0 w v0 p0) (h1 : v1 = .int .i64 p1) :
    Calls Try.prog 21 #[v0, v1] w fun e w' => ∃ v, e = .returned v ∧ (v = .int .i64 r ∧ Fr w w') := by
  unfold M_spec_l12Find at hr
  obtain ⟨w0, hw0⟩ : ∃ w0, w0 = w := ⟨_, rfl⟩
  have hF : Fr w0 w := hw0 ▸ Fr.refl _
  have hA0 : ∀ b o, A0 b o → b < w0.heap.size := fun b o h => hw0 ▸ hA b o h
  have hA00 : AvOK A0 w0 := hA0
  rw [show Fr w = Fr w0 from hw0 ▸ rfl]
  clear hw0
  obtain ⟨A, hAe⟩ : ∃ A, A = A0 := ⟨_, rfl⟩
  have hAA : ∀ b o, A0 b o → A b o := fun b o h => hAe ▸ h
  replace hA : AvOK A w := hAe ▸ hA
  have hO : IniOK [] A w := IniOK.nil
  refine calls_of_HT2 [.tmp 4] Try.func21 Try.ntmps21 (by decide) rfl rfl (Nat.le_of_ble_eq_true rfl) ?_
  intro R hR
  have f_v0 : Rep E_impl_SetIndex A w v0 p0 := hAe ▸ h0
  replace h0 : R 0 = v0 := hR 0 _ rfl
  replace h1 : R 1 = .int .i64 p1 := (hR 1 _ rfl).trans h1
  clear hR hAe
  refine HT.seq ?_
  refine HT.textR [] (⟨_, true, [], some (.box w0.heap.size 30 E_impl_SetIndex p0), true, fun A => .any⟩ :: ⟨_, true, [], none, true, fun A => .raw (.int .i64 (0 : Int))⟩ :: []) (by kernel_rfl) (by kernel_rfl) (Wf.mk' (by kernel_rfl) (UAll.cons ust_any (UAll.cons ust_raw (UAll.nil))) (by kernel_rfl) (by kernel_rfl)) hO hA ?_ ?_
  · exact
      OblsR.cons (OblR.made _ rfl rfl rfl rfl fun A' R' w' ho hd => by have a0 : R' 0 = v0 := (ho.old 0 rfl).trans h0; have ra0 := (f_v0.stp ho.stp).eq a0; exact made_box ra0 (Nat.le_trans hF.size ho.ch.size)) <|
      OblsR.cons (OblR.plain rfl rfl rfl rfl fun A' R' w' ho hd => by exact of_assign rfl) <|
      OblsR.nil
  intro done ρ σ A R w hdn hI
  replace h1 : R 1 = .int .i64 p1 := (hI.reg rfl).trans h1
  obtain ⟨b2_0, e_b2_0⟩ := hI.boxv hdn 0 rfl rfl
  have h2 : R 2 = (.pointer (some ⟨b2_0, 0, none⟩)) := (hI.opvR hdn 0 0 rfl rfl rfl rfl rfl).symm.trans e_b2_0
  replace hAA := hI.low' hAA hA0 (hO.ge (trivial))
  replace hF : Fr w0 w := hF.tr hI.ch (hO.ge (trivial))
  replace hO : IniOK [ob (.pointer (some ⟨b2_0, 0, none⟩)) (.box w0.heap.size 30 E_impl_SetIndex p0)] A w := hI.left hdn [(0, ob (.pointer (some ⟨b2_0, 0, none⟩)) (.box w0.heap.size 30 E_impl_SetIndex p0))] ⟨rfl, rfl, e_b2_0, rfl, rfl, trivial⟩
  replace hA := hI.avok
  clear hI
  refine HT.seq ?_
  refine HT.seq ?_
  refine HT.text (l := ⟨_, true, .raw (.int .i64 (0 : Int))⟩ :: []) (tl := []) (by kernel_rfl) (by kernel_rfl) (by kernel_rfl) ?_ ?_
  · exact
      Obls.cons (Obl.plain rfl rfl fun R' w' hw hs hd => by exact of_assign rfl) <|
      Obls.nil
  intro R w hw hs hF'
  replace h1 : R 1 = .int .i64 p1 := (hs 1 rfl).trans h1
  replace h2 : R 2 = (.pointer (some ⟨b2_0, 0, none⟩)) := (hs 2 rfl).trans h2
  have h5 : R 5 = .int .i64 (0 : Int) := hF' 0 _ _ rfl rfl rfl
  replace hO := hO.fr hw
  replace hA := hA.fr hw.size
  replace hF := hF.trans hw
  clear hs hF' hw
  refine seqR_nil ?_
  obtain ⟨rl2, q3, hr⟩ := cl_some hr
  replace q3 := q3 rfl
  refine HT.cut0 (fun R w => ∃ A : Av, ∃ (s4 : Unit), rl2 = Ex.go s4 ∧ AvOK A w ∧ Fr w0 w ∧ (∀ b o, A0 b o → A b o) ∧ IniOK [] A w) ?_ ?_
  · refine HT.block ?_
    refine HT.loop (fun k R w => ∃ A : Av, ∃ (y5 : Int), M_spec_l12Find_L0 fu p0 p1 k y5 = some rl2 ∧ AvOK A w ∧ Fr w0 w ∧ (∀ b o, A0 b o → A b o) ∧ IniOK [ob (.pointer (some ⟨b2_0, 0, none⟩)) (.box w0.heap.size 30 E_impl_SetIndex p0)] A w ∧ R 1 = .int .i64 p1 ∧ R 2 = (.pointer (some ⟨b2_0, 0, none⟩)) ∧ R 5 = .int .i64 y5) fu ⟨_, _, q3, hA, hF, hAA, hO, h1, h2, h5⟩ ?_
    have hr0 := hr; clear hr q3
    rintro k R w ⟨A, y5, hr, hA, hF, hAA, hO, h1, h2, h5⟩
    rcases k with _ | k
    · cases (show none = some _ from hr)
    rw [M_spec_l12Find_L0] at hr
    refine HT.seq ?_
    refine HT.seq ?_
    refine HT.text (l := ⟨_, true, .raw (.int .i64 y5)⟩ :: ⟨_, true, .raw (.pointer (some ⟨b2_0, 2, none⟩))⟩ :: ⟨_, true, .rep (eSl E_impl_IndexedSet) A p0.2.2⟩ :: ⟨_, true, .raw (.int .i64 (p0.2.2.length : Int))⟩ :: ⟨_, true, .raw (.bool (decide (y5 < (p0.2.2.length : Int))))⟩ :: []) (tl := []) (by kernel_rfl) (by kernel_rfl) (by kernel_rfl) ?_ ?_
    · exact
        Obls.cons (Obl.plain rfl rfl fun R' w' hw hs hd => by have a0 : R' 5 = .int .i64 y5 := (hs 5 rfl).trans h5; exact of_move a0) <|
        Obls.cons (Obl.plain rfl rfl fun R' w' hw hs hd => by have a0 : R' 2 = (.pointer (some ⟨b2_0, 0, none⟩)) := (hs 2 rfl).trans h2; exact of_fieldAddr_raw a0 ff_30_2 Try.sizeOf28 (by decide) rfl) <|
        Obls.cons (Obl.plain rfl rfl fun R' w' hw hs hd => by have a0 : R' 7 = (.pointer (some ⟨b2_0, 2, none⟩)) := hd 0 _ _ _ rfl rfl rfl rfl rfl; exact (of_load_box ((hO.fr hw).ok 0 _ rfl).1 a0 fl_impl_SetIndex_2 rfl Try.isAgg28 Try.sizeOf28)) <|
        Obls.cons (Obl.plain rfl rfl fun R' w' hw hs hd => by have a0 : Rep (eSl E_impl_IndexedSet) A w' (R' 8) p0.2.2 := hd 0 _ _ _ rfl rfl rfl rfl rfl; exact of_len_sl (aT := #[]) a0 Try.underlying28) <|
        Obls.cons (Obl.plain rfl rfl fun R' w' hw hs hd => by have a0 : R' 6 = .int .i64 y5 := hd 0 _ _ _ rfl rfl rfl rfl rfl; have a1 : R' 9 = .int .i64 (p0.2.2.length : Int) := hd 1 _ _ _ rfl rfl rfl rfl rfl; exact of_lss a0 a1) <|
        Obls.nil
    intro R w hw hs hF'
    replace h1 : R 1 = .int .i64 p1 := (hs 1 rfl).trans h1
    replace h2 : R 2 = (.pointer (some ⟨b2_0, 0, none⟩)) := (hs 2 rfl).trans h2
    replace h5 : R 5 = .int .i64 y5 := (hs 5 rfl).trans h5
    have h10 : R 10 = .bool (decide (y5 < (p0.2.2.length : Int))) := hF' 4 _ _ rfl rfl rfl
    replace hO := hO.fr hw
    replace hA := hA.fr hw.size
    replace hF := hF.trans hw
    clear hs hF' hw
    refine seqR_nil ?_
    refine HT.cond (decide (y5 < (p0.2.2.length : Int))) h10 (fun c6 => ?_) (fun c6 => ?_)
    · have hr := cnd_t c6 hr
      refine HT.skip ?_
      refine HT.seq ?_
      refine HT.block ?_
      refine HT.seq ?_
      obtain ⟨e7, hr⟩ := ck_some hr
      refine HT.text (l := ⟨_, true, .raw (.pointer (some ⟨b2_0, 2, none⟩))⟩ :: ⟨_, true, .rep (eSl E_impl_IndexedSet) A p0.2.2⟩ :: ⟨_, true, .raw (.int .i64 y5)⟩ :: ⟨_, true, .qtr E_impl_IndexedSet A (gtD p0.2.2 y5)⟩ :: ⟨_, true, .qtr (eInt .i64) A ((gtD p0.2.2 y5).1)⟩ :: ⟨_, true, .raw (.int .i64 ((gtD p0.2.2 y5).1))⟩ :: ⟨_, true, .raw (.int .i64 p1)⟩ :: ⟨_, true, .raw (.bool (((gtD p0.2.2 y5).1) == p1))⟩ :: []) (tl := []) (by kernel_rfl) (by kernel_rfl) (by kernel_rfl) ?_ ?_
      · exact
          Obls.cons (Obl.plain rfl rfl fun R' w' hw hs hd => by have a0 : R' 2 = (.pointer (some ⟨b2_0, 0, none⟩)) := (hs 2 rfl).trans h2; exact of_fieldAddr_raw a0 ff_30_2 Try.sizeOf28 (by decide) rfl) <|
          Obls.cons (Obl.plain rfl rfl fun R' w' hw hs hd => by have a0 : R' 13 = (.pointer (some ⟨b2_0, 2, none⟩)) := hd 0 _ _ _ rfl rfl rfl rfl rfl; exact (of_load_box ((hO.fr hw).ok 0 _ rfl).1 a0 fl_impl_SetIndex_2 rfl Try.isAgg28 Try.sizeOf28)) <|
          Obls.cons (Obl.plain rfl rfl fun R' w' hw hs hd => by have a0 : R' 5 = .int .i64 y5 := (hs 5 rfl).trans h5; exact of_move a0) <|
          Obls.cons (Obl.plain rfl rfl fun R' w' hw hs hd => by have a0 : Rep (eSl E_impl_IndexedSet) A w' (R' 14) p0.2.2 := hd 0 _ _ _ rfl rfl rfl rfl rfl; have a1 : R' 15 = .int .i64 y5 := hd 1 _ _ _ rfl rfl rfl rfl rfl; exact of_indexAddr a0 a1 Try.underlying28 Try.sizeOf55 e7) <|
          Obls.cons (Obl.plain rfl rfl fun R' w' hw hs hd => by have a0 : QRep E_impl_IndexedSet A w' (R' 16) (gtD p0.2.2 y5) := hd 0 _ _ _ rfl rfl rfl rfl rfl; exact of_fieldAddr_q a0 ff_55_0 Try.sizeOf3 (by decide) fl_impl_IndexedSet_0 rfl) <|
          Obls.cons (Obl.plain rfl rfl fun R' w' hw hs hd => by have a0 : QRep (eInt .i64) A w' (R' 17) ((gtD p0.2.2 y5).1) := hd 0 _ _ _ rfl rfl rfl rfl rfl; exact OpF.int (of_load a0.ptr Try.isAgg3 Try.sizeOf3)) <|
          Obls.cons (Obl.plain rfl rfl fun R' w' hw hs hd => by have a0 : R' 1 = .int .i64 p1 := (hs 1 rfl).trans h1; exact of_move a0) <|
          Obls.cons (Obl.plain rfl rfl fun R' w' hw hs hd => by have a0 : R' 18 = .int .i64 ((gtD p0.2.2 y5).1) := hd 0 _ _ _ rfl rfl rfl rfl rfl; have a1 : R' 19 = .int .i64 p1 := hd 1 _ _ _ rfl rfl rfl rfl rfl; exact of_eql a0 a1) <|
          Obls.nil
      intro R w hw hs hF'
      replace h1 : R 1 = .int .i64 p1 := (hs 1 rfl).trans h1
      replace h2 : R 2 = (.pointer (some ⟨b2_0, 0, none⟩)) := (hs 2 rfl).trans h2
      replace h5 : R 5 = .int .i64 y5 := (hs 5 rfl).trans h5
      have h20 : R 20 = .bool (((gtD p0.2.2 y5).1) == p1) := hF' 7 _ _ rfl rfl rfl
      replace hO := hO.fr hw
      replace hA := hA.fr hw.size
      replace hF := hF.trans hw
      clear hs hF' hw
      refine seqR_nil ?_
      refine HT.cond (((gtD p0.2.2 y5).1) == p1) h20 (fun c8 => ?_) (fun c8 => ?_)
      · have hr := cnd_t c8 hr
        refine HT.seq ?_
        refine HT.text (l := ⟨_, true, .raw (.int .i64 y5)⟩ :: ⟨_, true, .raw (.int .i64 y5)⟩ :: []) (tl := []) (by kernel_rfl) (by kernel_rfl) (by kernel_rfl) ?_ ?_
        · exact
            Obls.cons (Obl.plain rfl rfl fun R' w' hw hs hd => by have a0 : R' 5 = .int .i64 y5 := (hs 5 rfl).trans h5; exact of_move a0) <|
            Obls.cons (Obl.plain rfl rfl fun R' w' hw hs hd => by have a0 : R' 21 = .int .i64 y5 := hd 0 _ _ _ rfl rfl rfl rfl rfl; exact of_assign a0) <|
            Obls.nil
        intro R w hw hs hF'
        have h4 : R 4 = .int .i64 y5 := hF' 1 _ _ rfl rfl rfl
        replace hO := hO.fr hw
        replace hO : IniOK [] A w := hO.sub [] trivial
        replace hA := hA.fr hw.size
        replace hF := hF.trans hw
        clear hs hF' hw
        refine seqR_nil ?_
        refine HT.ret ?_
        obtain rfl := Option.some.inj hr
        have hr := hr0
        replace hr : some _ = some _ := hr
        obtain rfl := Option.some.inj hr
        exact ⟨.inr rfl, [R 4], ⟨rfl, trivial⟩, h4, hF⟩
      · have hr := cnd_f c8 hr
        refine HT.skip ?_
        obtain ⟨e9, hr⟩ := ck_some hr
        refine HT.text (l := ⟨_, true, .raw (.int .i64 y5)⟩ :: ⟨_, true, .raw (.int .i64 (y5 + (1 : Int)))⟩ :: ⟨_, true, .raw (.int .i64 (y5 + (1 : Int)))⟩ :: []) (tl := []) (by kernel_rfl) (by kernel_rfl) (by kernel_rfl) ?_ ?_
        · exact
            Obls.cons (Obl.plain rfl rfl fun R' w' hw hs hd => by have a0 : R' 5 = .int .i64 y5 := (hs 5 rfl).trans h5; exact of_move a0) <|
            Obls.cons (Obl.plain rfl rfl fun R' w' hw hs hd => by have a0 : R' 11 = .int .i64 y5 := hd 0 _ _ _ rfl rfl rfl rfl rfl; exact of_add a0 rfl e9) <|
            Obls.cons (Obl.plain rfl rfl fun R' w' hw hs hd => by have a0 : R' 12 = .int .i64 (y5 + (1 : Int)) := hd 0 _ _ _ rfl rfl rfl rfl rfl; exact of_assign a0) <|
            Obls.nil
        intro R w hw hs hF'
        replace h1 : R 1 = .int .i64 p1 := (hs 1 rfl).trans h1
        replace h2 : R 2 = (.pointer (some ⟨b2_0, 0, none⟩)) := (hs 2 rfl).trans h2
        have h5 : R 5 = .int .i64 (y5 + (1 : Int)) := hF' 2 _ _ rfl rfl rfl
        replace hO := hO.fr hw
        replace hA := hA.fr hw.size
        replace hF := hF.trans hw
        clear hs hF' hw
        refine seqR_nil ?_
        exact Exists.intro k (And.intro (Nat.lt_succ_self k) ⟨_, _, hr, hA, hF, hAA, hO, h1, h2, h5⟩)
    · have hr := cnd_f c6 hr
      refine HT.exit ?_
      obtain rfl := Option.some.inj hr
      replace hO : IniOK [] A w := hO.sub [] trivial
      exact Exists.intro _ ⟨_, rfl, hA, hF, hAA, hO⟩
  rintro R w ⟨A, s4, rfl, hA, hF, hAA, hO⟩
  have hr := exM_go hr
  refine HT.seq ?_
  refine HT.text (l := ⟨_, true, .raw (.int .i64 (-1 : Int))⟩ :: []) (tl := []) (by kernel_rfl) (by kernel_rfl) (by kernel_rfl) ?_ ?_
  · exact
      Obls.cons (Obl.plain rfl rfl fun R' w' hw hs hd => by exact of_assign rfl) <|
      Obls.nil
  intro R w hw hs hF'
  have h4 : R 4 = .int .i64 (-1 : Int) := hF' 0 _ _ rfl rfl rfl
  replace hO := hO.fr hw
  replace hA := hA.fr hw.size
  replace hF := hF.trans hw
  clear hs hF' hw
  refine seqR_nil ?_
  refine HT.ret ?_
  obtain rfl := Option.some.inj hr
  exact ⟨.inr rfl, [R 4], ⟨rfl, trivial⟩, h4, hF⟩
def M_spec_l1In (fu : Nat) (p0 : Int) (p1 : Int) (p2 : Int) : Option Bool :=
  bd ((decide (p1 ≤ p0)) && (decide (p0 ≤ p2))) fun x1 =>
  some x1
set_option maxRecDepth 100000 in
set_option maxHeartbeats 4000000 in
theorem M_spec_l1In_ok {fu : Nat} {A : Av} {p0 : Int} {p1 : Int} {p2 : Int} {r : Bool} (hr : M_spec_l1In fu p0 p1 p2 = some r) {w : World} {v0 : Value} {v1 : Value} {v2 : Value} (hA : AvOK A w) (h0 : v0 = .int .i64 p0) (h1 : v1 = .int .i64 p1) (h2 : v2 = .int .i64 p2) :
    Calls Try.prog 37 #[v0, v1, v2] w fun e w' => ∃ v, e = .returned v ∧ (v = .bool r ∧ Fr w w') := by
  unfold M_spec_l1In at hr
  obtain ⟨w0, hw0⟩ : ∃ w0, w0 = w := ⟨_, rfl⟩
  have hF : Fr w0 w := hw0 ▸ Fr.refl _
  rw [show Fr w = Fr w0 from hw0 ▸ rfl]
  clear hw0
  refine calls_of_HT2 [.tmp 6] Try.func37 Try.ntmps37 (by decide) rfl rfl (Nat.le_of_ble_eq_true rfl) ?_
  intro R hR
  replace h0 : R 0 = .int .i64 p0 := (hR 0 _ rfl).trans h0
  replace h1 : R 1 = .int .i64 p1 := (hR 1 _ rfl).trans h1
  replace h2 : R 2 = .int .i64 p2 := (hR 2 _ rfl).trans h2
  clear hR
  refine HT.seq ?_
  refine HT.text (l := ⟨_, true, .raw (.bool false)⟩ :: []) (tl := []) (by kernel_rfl) (by kernel_rfl) (by kernel_rfl) ?_ ?_
  · exact
      Obls.cons (Obl.plain rfl rfl fun R' w' hw hs hd => by exact of_assign rfl) <|
      Obls.nil
  intro R w hw hs hF'
  replace h0 : R 0 = .int .i64 p0 := (hs 0 rfl).trans h0
  replace h1 : R 1 = .int .i64 p1 := (hs 1 rfl).trans h1
  replace h2 : R 2 = .int .i64 p2 := (hs 2 rfl).trans h2
  replace hA := hA.fr hw.size
  replace hF := hF.trans hw
  clear hs hF' hw
  refine seqR_nil ?_
  refine HT.seq ?_
  obtain ⟨x1, q2, hr⟩ := bd_some hr
  refine HT.text (l := ⟨_, true, .raw (.int .i64 p0)⟩ :: ⟨_, true, .raw (.int .i64 p1)⟩ :: ⟨_, true, .raw (.bool (decide (p1 ≤ p0)))⟩ :: ⟨_, true, .raw (.bool (decide (p1 ≤ p0)))⟩ :: ⟨_, (true && ((decide (p1 ≤ p0)) == true)), .raw (.int .i64 p0)⟩ :: ⟨_, (true && ((decide (p1 ≤ p0)) == true)), .raw (.int .i64 p2)⟩ :: ⟨_, (true && ((decide (p1 ≤ p0)) == true)), .raw (.bool (decide (p0 ≤ p2)))⟩ :: ⟨_, true, .raw (.bool x1)⟩ :: ⟨_, true, .raw (.bool x1)⟩ :: []) (tl := []) (by kernel_rfl) (by kernel_rfl) (by kernel_rfl) ?_ ?_
  · exact
      Obls.cons (Obl.plain rfl rfl fun R' w' hw hs hd => by have a0 : R' 0 = .int .i64 p0 := (hs 0 rfl).trans h0; exact of_move a0) <|
      Obls.cons (Obl.plain rfl rfl fun R' w' hw hs hd => by have a0 : R' 1 = .int .i64 p1 := (hs 1 rfl).trans h1; exact of_move a0) <|
      Obls.cons (Obl.plain rfl rfl fun R' w' hw hs hd => by have a0 : R' 7 = .int .i64 p0 := hd 0 _ _ _ rfl rfl rfl rfl rfl; have a1 : R' 8 = .int .i64 p1 := hd 1 _ _ _ rfl rfl rfl rfl rfl; exact of_geq a0 a1) <|
      Obls.cons (Obl.plain rfl rfl fun R' w' hw hs hd => by have a0 : R' 9 = .bool (decide (p1 ≤ p0)) := hd 0 _ _ _ rfl rfl rfl rfl rfl; exact of_move a0) <|
      Obls.cons (Obl.grd 3 true _ _ _ rfl rfl rfl rfl rfl (by kernel_rfl) fun hg R' w' hw hs hd => by have a0 : R' 0 = .int .i64 p0 := (hs 0 rfl).trans h0; exact of_move a0) <|
      Obls.cons (Obl.grd 3 true _ _ _ rfl rfl rfl rfl rfl (by kernel_rfl) fun hg R' w' hw hs hd => by have a0 : R' 2 = .int .i64 p2 := (hs 2 rfl).trans h2; exact of_move a0) <|
      Obls.cons (Obl.grd 3 true _ _ _ rfl rfl rfl rfl rfl (by kernel_rfl) fun hg R' w' hw hs hd => by have a0 : R' 11 = .int .i64 p0 := hd 0 _ _ _ rfl rfl rfl rfl hg; have a1 : R' 12 = .int .i64 p2 := hd 1 _ _ _ rfl rfl rfl rfl hg; exact of_leq a0 a1) <|
      Obls.cons (Obl.plain rfl rfl fun R' w' hw hs hd => by have a0 : R' 10 = .bool (decide (p1 ≤ p0)) := hd 0 _ _ _ rfl rfl rfl rfl rfl; exact of_pick (decide (p1 ≤ p0)) a0 (fun hc => by have a1 : R' 13 = .bool (decide (p0 ≤ p2)) := hd 1 _ _ _ rfl rfl rfl rfl (g_and rfl (beq_of hc)); show _ = Value.bool x1; rw [q2, hc]; exact a1) (fun hc => by show _ = Value.bool x1; rw [q2, hc]; exact rfl)) <|
      Obls.cons (Obl.plain rfl rfl fun R' w' hw hs hd => by have a0 : R' 14 = .bool x1 := hd 0 _ _ _ rfl rfl rfl rfl rfl; exact of_assign a0) <|
      Obls.nil
  intro R w hw hs hF'
  have h6 : R 6 = .bool x1 := hF' 8 _ _ rfl rfl rfl
  replace hA := hA.fr hw.size
  replace hF := hF.trans hw
  clear hs hF' hw
  refine seqR_nil ?_
  refine HT.ret ?_
  obtain rfl := Option.some.inj hr
  exact ⟨.inr rfl, [R 6], ⟨rfl, trivial⟩, h6, hF⟩
def M_spec_l2Word (fu : Nat) (p0 : Int) : Option Bool :=
  bd ((decide ((97 : Int) ≤ p0)) && (decide (p0 ≤ (122 : Int)))) fun x1 =>
  bd ((decide ((65 : Int) ≤ p0)) && (decide (p0 ≤ (90 : Int)))) fun x3 =>
  bd (x1 || x3) fun x5 =>
  bd ((decide ((48 : Int) ≤ p0)) && (decide (p0 ≤ (57 : Int)))) fun x7 =>
  bd (x5 || x7) fun x9 =>
  some x9
set_option maxRecDepth 100000 in
set_option maxHeartbeats 4000000 in
theorem M_spec_l2Word_ok {fu : Nat} {A : Av} {p0 : Int} {r : Bool} (hr : M_spec_l2Word fu p0 = some r) {w : World} {v0 : Value} (hA : AvOK A w) (h0 : v0 = .int .u8 p0) :
    Calls Try.prog 57 #[v0] w fun e w' => ∃ v, e = .returned v ∧ (v = .bool r ∧ Fr w w') := by
  unfold M_spec_l2Word at hr
  obtain ⟨w0, hw0⟩ : ∃ w0, w0 = w := ⟨_, rfl⟩
  have hF : Fr w0 w := hw0 ▸ Fr.refl _
  rw [show Fr w = Fr w0 from hw0 ▸ rfl]
  clear hw0
  refine calls_of_HT2 [.tmp 2] Try.func57 Try.ntmps57 (by decide) rfl rfl (Nat.le_of_ble_eq_true rfl) ?_
  intro R hR
  replace h0 : R 0 = .int .u8 p0 := (hR 0 _ rfl).trans h0
  clear hR
  refine HT.seq ?_
  refine HT.text (l := ⟨_, true, .raw (.bool false)⟩ :: []) (tl := []) (by kernel_rfl) (by kernel_rfl) (by kernel_rfl) ?_ ?_
  · exact
      Obls.cons (Obl.plain rfl rfl fun R' w' hw hs hd => by exact of_assign rfl) <|
      Obls.nil
  intro R w hw hs hF'
  replace h0 : R 0 = .int .u8 p0 := (hs 0 rfl).trans h0
  replace hA := hA.fr hw.size
  replace hF := hF.trans hw
  clear hs hF' hw
  refine seqR_nil ?_
  refine HT.seq ?_
  obtain ⟨x1, q2, hr⟩ := bd_some hr
  obtain ⟨x3, q4, hr⟩ := bd_some hr
  obtain ⟨x5, q6, hr⟩ := bd_some hr
  obtain ⟨x7, q8, hr⟩ := bd_some hr
  obtain ⟨x9, q10, hr⟩ := bd_some hr
  refine HT.text (l := ⟨_, true, .raw (.int .u8 p0)⟩ :: ⟨_, true, .raw (.bool (decide ((97 : Int) ≤ p0)))⟩ :: ⟨_, true, .raw (.bool (decide ((97 : Int) ≤ p0)))⟩ :: ⟨_, (true && ((decide ((97 : Int) ≤ p0)) == true)), .raw (.int .u8 p0)⟩ :: ⟨_, (true && ((decide ((97 : Int) ≤ p0)) == true)), .raw (.bool (decide (p0 ≤ (122 : Int))))⟩ :: ⟨_, true, .raw (.bool x1)⟩ :: ⟨_, true, .raw (.bool x1)⟩ :: ⟨_, (true && (x1 == false)), .raw (.int .u8 p0)⟩ :: ⟨_, (true && (x1 == false)), .raw (.bool (decide ((65 : Int) ≤ p0)))⟩ :: ⟨_, (true && (x1 == false)), .raw (.bool (decide ((65 : Int) ≤ p0)))⟩ :: ⟨_, ((true && (x1 == false)) && ((decide ((65 : Int) ≤ p0)) == true)), .raw (.int .u8 p0)⟩ :: ⟨_, ((true && (x1 == false)) && ((decide ((65 : Int) ≤ p0)) == true)), .raw (.bool (decide (p0 ≤ (90 : Int))))⟩ :: ⟨_, (true && (x1 == false)), .raw (.bool x3)⟩ :: ⟨_, true, .raw (.bool x5)⟩ :: ⟨_, true, .raw (.bool x5)⟩ :: ⟨_, (true && (x5 == false)), .raw (.int .u8 p0)⟩ :: ⟨_, (true && (x5 == false)), .raw (.bool (decide ((48 : Int) ≤ p0)))⟩ :: ⟨_, (true && (x5 == false)), .raw (.bool (decide ((48 : Int) ≤ p0)))⟩ :: ⟨_, ((true && (x5 == false)) && ((decide ((48 : Int) ≤ p0)) == true)), .raw (.int .u8 p0)⟩ :: ⟨_, ((true && (x5 == false)) && ((decide ((48 : Int) ≤ p0)) == true)), .raw (.bool (decide (p0 ≤ (57 : Int))))⟩ :: ⟨_, (true && (x5 == false)), .raw (.bool x7)⟩ :: ⟨_, true, .raw (.bool x9)⟩ :: ⟨_, true, .raw (.bool x9)⟩ :: []) (tl := []) (by kernel_rfl) (by kernel_rfl) (by kernel_rfl) ?_ ?_
  · exact
      Obls.cons (Obl.plain rfl rfl fun R' w' hw hs hd => by have a0 : R' 0 = .int .u8 p0 := (hs 0 rfl).trans h0; exact of_move a0) <|
      Obls.cons (Obl.plain rfl rfl fun R' w' hw hs hd => by have a0 : R' 3 = .int .u8 p0 := hd 0 _ _ _ rfl rfl rfl rfl rfl; exact of_geq a0 rfl) <|
      Obls.cons (Obl.plain rfl rfl fun R' w' hw hs hd => by have a0 : R' 4 = .bool (decide ((97 : Int) ≤ p0)) := hd 0 _ _ _ rfl rfl rfl rfl rfl; exact of_move a0) <|
      Obls.cons (Obl.grd 2 true _ _ _ rfl rfl rfl rfl rfl (by kernel_rfl) fun hg R' w' hw hs hd => by have a0 : R' 0 = .int .u8 p0 := (hs 0 rfl).trans h0; exact of_move a0) <|
      Obls.cons (Obl.grd 2 true _ _ _ rfl rfl rfl rfl rfl (by kernel_rfl) fun hg R' w' hw hs hd => by have a0 : R' 6 = .int .u8 p0 := hd 0 _ _ _ rfl rfl rfl rfl hg; exact of_leq a0 rfl) <|
      Obls.cons (Obl.plain rfl rfl fun R' w' hw hs hd => by have a0 : R' 5 = .bool (decide ((97 : Int) ≤ p0)) := hd 0 _ _ _ rfl rfl rfl rfl rfl; exact of_pick (decide ((97 : Int) ≤ p0)) a0 (fun hc => by have a1 : R' 7 = .bool (decide (p0 ≤ (122 : Int))) := hd 1 _ _ _ rfl rfl rfl rfl (g_and rfl (beq_of hc)); show _ = Value.bool x1; rw [q2, hc]; exact a1) (fun hc => by show _ = Value.bool x1; rw [q2, hc]; exact rfl)) <|
      Obls.cons (Obl.plain rfl rfl fun R' w' hw hs hd => by have a0 : R' 8 = .bool x1 := hd 0 _ _ _ rfl rfl rfl rfl rfl; exact of_move a0) <|
      Obls.cons (Obl.grd 6 false _ _ _ rfl rfl rfl rfl rfl (by kernel_rfl) fun hg R' w' hw hs hd => by have a0 : R' 0 = .int .u8 p0 := (hs 0 rfl).trans h0; exact of_move a0) <|
      Obls.cons (Obl.grd 6 false _ _ _ rfl rfl rfl rfl rfl (by kernel_rfl) fun hg R' w' hw hs hd => by have a0 : R' 10 = .int .u8 p0 := hd 0 _ _ _ rfl rfl rfl rfl hg; exact of_geq a0 rfl) <|
      Obls.cons (Obl.grd 6 false _ _ _ rfl rfl rfl rfl rfl (by kernel_rfl) fun hg R' w' hw hs hd => by have a0 : R' 11 = .bool (decide ((65 : Int) ≤ p0)) := hd 0 _ _ _ rfl rfl rfl rfl hg; exact of_move a0) <|
      Obls.cons (Obl.grd 9 true _ _ _ rfl rfl rfl rfl rfl (by kernel_rfl) fun hg R' w' hw hs hd => by have a0 : R' 0 = .int .u8 p0 := (hs 0 rfl).trans h0; exact of_move a0) <|
      Obls.cons (Obl.grd 9 true _ _ _ rfl rfl rfl rfl rfl (by kernel_rfl) fun hg R' w' hw hs hd => by have a0 : R' 13 = .int .u8 p0 := hd 0 _ _ _ rfl rfl rfl rfl hg; exact of_leq a0 rfl) <|
      Obls.cons (Obl.grd 6 false _ _ _ rfl rfl rfl rfl rfl (by kernel_rfl) fun hg R' w' hw hs hd => by have a0 : R' 12 = .bool (decide ((65 : Int) ≤ p0)) := hd 0 _ _ _ rfl rfl rfl rfl hg; exact of_pick (decide ((65 : Int) ≤ p0)) a0 (fun hc => by have a1 : R' 14 = .bool (decide (p0 ≤ (90 : Int))) := hd 1 _ _ _ rfl rfl rfl rfl (g_and hg (beq_of hc)); show _ = Value.bool x3; rw [q4, hc]; exact a1) (fun hc => by show _ = Value.bool x3; rw [q4, hc]; exact rfl)) <|
      Obls.cons (Obl.plain rfl rfl fun R' w' hw hs hd => by have a0 : R' 9 = .bool x1 := hd 0 _ _ _ rfl rfl rfl rfl rfl; exact of_pick x1 a0 (fun hc => by show _ = Value.bool x5; rw [q6, hc]; exact rfl) (fun hc => by have a2 : R' 15 = .bool x3 := hd 1 _ _ _ rfl rfl rfl rfl (g_and rfl (beq_of hc)); show _ = Value.bool x5; rw [q6, hc]; exact a2)) <|
      Obls.cons (Obl.plain rfl rfl fun R' w' hw hs hd => by have a0 : R' 16 = .bool x5 := hd 0 _ _ _ rfl rfl rfl rfl rfl; exact of_move a0) <|
      Obls.cons (Obl.grd 14 false _ _ _ rfl rfl rfl rfl rfl (by kernel_rfl) fun hg R' w' hw hs hd => by have a0 : R' 0 = .int .u8 p0 := (hs 0 rfl).trans h0; exact of_move a0) <|
      Obls.cons (Obl.grd 14 false _ _ _ rfl rfl rfl rfl rfl (by kernel_rfl) fun hg R' w' hw hs hd => by have a0 : R' 18 = .int .u8 p0 := hd 0 _ _ _ rfl rfl rfl rfl hg; exact of_geq a0 rfl) <|
      Obls.cons (Obl.grd 14 false _ _ _ rfl rfl rfl rfl rfl (by kernel_rfl) fun hg R' w' hw hs hd => by have a0 : R' 19 = .bool (decide ((48 : Int) ≤ p0)) := hd 0 _ _ _ rfl rfl rfl rfl hg; exact of_move a0) <|
      Obls.cons (Obl.grd 17 true _ _ _ rfl rfl rfl rfl rfl (by kernel_rfl) fun hg R' w' hw hs hd => by have a0 : R' 0 = .int .u8 p0 := (hs 0 rfl).trans h0; exact of_move a0) <|
      Obls.cons (Obl.grd 17 true _ _ _ rfl rfl rfl rfl rfl (by kernel_rfl) fun hg R' w' hw hs hd => by have a0 : R' 21 = .int .u8 p0 := hd 0 _ _ _ rfl rfl rfl rfl hg; exact of_leq a0 rfl) <|
      Obls.cons (Obl.grd 14 false _ _ _ rfl rfl rfl rfl rfl (by kernel_rfl) fun hg R' w' hw hs hd => by have a0 : R' 20 = .bool (decide ((48 : Int) ≤ p0)) := hd 0 _ _ _ rfl rfl rfl rfl hg; exact of_pick (decide ((48 : Int) ≤ p0)) a0 (fun hc => by have a1 : R' 22 = .bool (decide (p0 ≤ (57 : Int))) := hd 1 _ _ _ rfl rfl rfl rfl (g_and hg (beq_of hc)); show _ = Value.bool x7; rw [q8, hc]; exact a1) (fun hc => by show _ = Value.bool x7; rw [q8, hc]; exact rfl)) <|
      Obls.cons (Obl.plain rfl rfl fun R' w' hw hs hd => by have a0 : R' 17 = .bool x5 := hd 0 _ _ _ rfl rfl rfl rfl rfl; exact of_pick x5 a0 (fun hc => by show _ = Value.bool x9; rw [q10, hc]; exact rfl) (fun hc => by have a2 : R' 23 = .bool x7 := hd 1 _ _ _ rfl rfl rfl rfl (g_and rfl (beq_of hc)); show _ = Value.bool x9; rw [q10, hc]; exact a2)) <|
      Obls.cons (Obl.plain rfl rfl fun R' w' hw hs hd => by have a0 : R' 24 = .bool x9 := hd 0 _ _ _ rfl rfl rfl rfl rfl; exact of_assign a0) <|
      Obls.nil
  intro R w hw hs hF'
  have h2 : R 2 = .bool x9 := hF' 22 _ _ rfl rfl rfl
  replace hA := hA.fr hw.size
  replace hF := hF.trans hw
  clear hs hF' hw
  refine seqR_nil ?_
  refine HT.ret ?_
  obtain rfl := Option.some.inj hr
  exact ⟨.inr rfl, [R 2], ⟨rfl, trivial⟩, h2, hF⟩
def M_spec_FoldCase_L0 (fu : Nat) (p0 : List UInt8) : Nat → Int → (List Int) → Option (List Int)
  | 0, _, _ => none
  | k + 1, y5, y6 =>
    bif (decide (y5 < (p0.length : Int))) then (
      ck (inR y5 p0.length) <|
      bd ((decide ((65 : Int) ≤ (bAt p0 y5))) && (decide ((bAt p0 y5) ≤ (90 : Int)))) fun x9 =>
      bif x9 then (
        ck (lenOK (y6.length + ([(IntKind.u8.wrap ((bAt p0 y5) + (32 : Int)))] : List Int).length)) <|
        ck (i64B (y5 + (1 : Int))) <|
        M_spec_FoldCase_L0 fu p0 k (y5 + (1 : Int)) (y6 ++ ([(IntKind.u8.wrap ((bAt p0 y5) + (32 : Int)))] : List Int))
      ) else (
        ck (lenOK (y6.length + ([(bAt p0 y5)] : List Int).length)) <|
        ck (i64B (y5 + (1 : Int))) <|
        M_spec_FoldCase_L0 fu p0 k (y5 + (1 : Int)) (y6 ++ ([(bAt p0 y5)] : List Int))
      )
    ) else (
      some y6
    )
def M_spec_FoldCase (fu : Nat) (p0 : List UInt8) : Option (List UInt8) :=
  cl true (M_spec_FoldCase_L0 fu p0 fu (0 : Int) ([] : List Int)) fun s4 =>
  some (strB s4)
set_option maxRecDepth 100000 in
set_option maxHeartbeats 4000000 in
theorem M_spec_FoldCase_ok {fu : Nat} {A0 : Av} {p0 : List UInt8} {r : List UInt8} (hr : M_spec_FoldCase fu p0 = some r) {w : World} {v0 : Value} (hA : AvOK A0 w) (h0 : Rep eStr A0 w v0 p0) :
    Calls Try.prog 58 #[v0] w fun e w' => ∃ v, e = .returned v ∧ (Rep eStr A0 w' v r ∧ Fr w w') := by
  unfold M_spec_FoldCase at hr
  obtain ⟨w0, hw0⟩ : ∃ w0, w0 = w := ⟨_, rfl⟩
  have hF : Fr w0 w := hw0 ▸ Fr.refl _
  have hA0 : ∀ b o, A0 b o → b < w0.heap.size := fun b o h => hw0 ▸ hA b o h
  have hA00 : AvOK A0 w0 := hA0
  rw [show Fr w = Fr w0 from hw0 ▸ rfl]
  clear hw0
  obtain ⟨A, hAe⟩ : ∃ A, A = A0 := ⟨_, rfl⟩
  have hAA : ∀ b o, A0 b o → A b o := fun b o h => hAe ▸ h
  replace hA : AvOK A w := hAe ▸ hA
  have hO : IniOK [] A w := IniOK.nil
  refine calls_of_HT2 [.tmp 2] Try.func58 Try.ntmps58 (by decide) rfl rfl (Nat.le_of_ble_eq_true rfl) ?_
  intro R hR
  have f_v0 : Rep eStr A w v0 p0 := hAe ▸ h0
  replace h0 : R 0 = v0 := hR 0 _ rfl
  clear hR hAe
  refine HT.seq ?_
  refine HT.text (l := ⟨_, true, .rep eStr A ([] : List UInt8)⟩ :: []) (tl := []) (by kernel_rfl) (by kernel_rfl) (by kernel_rfl) ?_ ?_
  · exact
      Obls.cons (Obl.plain rfl rfl fun R' w' hw hs hd => by exact of_assign ⟨_, rfl, ⟨_, rfl, rfl, by decide⟩⟩) <|
      Obls.nil
  intro R w hw hs hF'
  replace h0 : R 0 = v0 := (hs 0 rfl).trans h0
  replace f_v0 := f_v0.fr hw
  replace hO := hO.fr hw
  replace hA := hA.fr hw.size
  replace hF := hF.trans hw
  clear hs hF' hw
  refine seqR_nil ?_
  refine HT.seq ?_
  refine HT.textR [] (⟨_, true, [], some (.vec w0.heap.size 5 (eInt .u8) ([] : List Int)), true, fun A => .any⟩ :: ⟨_, true, [0], some (.vec w0.heap.size 5 (eInt .u8) ([] : List Int)), true, fun A => .any⟩ :: []) (by kernel_rfl) (by kernel_rfl) (Wf.mk' (by kernel_rfl) (UAll.cons ust_any (UAll.cons ust_any (UAll.nil))) (by kernel_rfl) (by kernel_rfl)) hO hA ?_ ?_
  · exact
      OblsR.cons (OblR.made _ rfl rfl rfl rfl fun A' R' w' ho hd => by exact made_build [] (E := eInt .u8) trivial Try.underlying83 Try.sizeOf5 Try.zeroValue5 rfl rfl rfl (Nat.le_trans hF.size ho.ch.size)) <|
      OblsR.cons (OblR.took 0 _ _ rfl rfl rfl rfl rfl fun A' R' w' ho hd u hok hav hin hop hds => by exact took_assign (hop _ _ rfl rfl rfl rfl).symm hok hav) <|
      OblsR.nil
  intro done ρ σ A R w hdn hI
  replace h0 : R 0 = v0 := (hI.reg rfl).trans h0
  obtain ⟨u1, e_u1⟩ : ∃ u, ρ 1 = u := ⟨_, rfl⟩
  have h3 : R 3 = u1 := (hI.opvR hdn 1 1 rfl rfl rfl rfl rfl).symm.trans e_u1
  replace f_v0 := f_v0.stp hI.stp
  replace hAA := hI.low' hAA hA0 (hO.ge (trivial))
  replace hF : Fr w0 w := hF.tr hI.ch (hO.ge (trivial))
  replace hO : IniOK [ob u1 (.vec w0.heap.size 5 (eInt .u8) ([] : List Int))] A w := hI.left hdn [(1, ob u1 (.vec w0.heap.size 5 (eInt .u8) ([] : List Int)))] ⟨rfl, rfl, e_u1, rfl, rfl, trivial⟩
  replace hA := hI.avok
  clear hI
  refine HT.seq ?_
  refine HT.seq ?_
  refine HT.text (l := ⟨_, true, .raw (.int .i64 (0 : Int))⟩ :: []) (tl := []) (by kernel_rfl) (by kernel_rfl) (by kernel_rfl) ?_ ?_
  · exact
      Obls.cons (Obl.plain rfl rfl fun R' w' hw hs hd => by exact of_assign rfl) <|
      Obls.nil
  intro R w hw hs hF'
  replace h0 : R 0 = v0 := (hs 0 rfl).trans h0
  replace h3 : R 3 = u1 := (hs 3 rfl).trans h3
  have h4 : R 4 = .int .i64 (0 : Int) := hF' 0 _ _ rfl rfl rfl
  replace f_v0 := f_v0.fr hw
  replace hO := hO.fr hw
  replace hA := hA.fr hw.size
  replace hF := hF.trans hw
  clear hs hF' hw
  refine seqR_nil ?_
  obtain ⟨rl2, q3, hr⟩ := cl_some hr
  replace q3 := q3 rfl
  refine HT.cut0 (fun R w => ∃ A : Av, ∃ (s4 : (List Int)) (uo_u1 : Value), rl2 = s4 ∧ AvOK A w ∧ Fr w0 w ∧ (∀ b o, A0 b o → A b o) ∧ IniOK [ob uo_u1 (.vec w0.heap.size 5 (eInt .u8) s4)] A w ∧ R 3 = uo_u1) ?_ ?_
  · refine HT.block ?_
    refine HT.loop (fun k R w => ∃ A : Av, ∃ (y5 : Int) (y6 : List Int) (ul_u1 : Value), M_spec_FoldCase_L0 fu p0 k y5 y6 = some rl2 ∧ AvOK A w ∧ Fr w0 w ∧ (∀ b o, A0 b o → A b o) ∧ IniOK [ob ul_u1 (.vec w0.heap.size 5 (eInt .u8) y6)] A w ∧ R 0 = v0 ∧ R 3 = ul_u1 ∧ R 4 = .int .i64 y5 ∧ Rep eStr A w v0 p0) fu ⟨_, _, _, u1, q3, hA, hF, hAA, hO, h0, h3, h4, f_v0⟩ ?_
    have hr0 := hr; clear hr q3
    rintro k R w ⟨A, y5, y6, ul_u1, hr, hA, hF, hAA, hO, h0, h3, h4, f_v0⟩
    rcases k with _ | k
    · cases (show none = some _ from hr)
    rw [M_spec_FoldCase_L0] at hr
    refine HT.seq ?_
    refine HT.seq ?_
    refine HT.text (l := ⟨_, true, .raw (.int .i64 y5)⟩ :: ⟨_, true, .raw v0⟩ :: ⟨_, true, .raw (.int .i64 (p0.length : Int))⟩ :: ⟨_, true, .raw (.bool (decide (y5 < (p0.length : Int))))⟩ :: []) (tl := []) (by kernel_rfl) (by kernel_rfl) (by kernel_rfl) ?_ ?_
    · exact
        Obls.cons (Obl.plain rfl rfl fun R' w' hw hs hd => by have a0 : R' 4 = .int .i64 y5 := (hs 4 rfl).trans h4; exact of_move a0) <|
        Obls.cons (Obl.plain rfl rfl fun R' w' hw hs hd => by have a0 : R' 0 = v0 := (hs 0 rfl).trans h0; exact of_move a0) <|
        Obls.cons (Obl.plain rfl rfl fun R' w' hw hs hd => by have a0 : R' 8 = v0 := hd 0 _ _ _ rfl rfl rfl rfl rfl; have ra0 := (f_v0.fr hw).eq a0; exact of_len_str ra0 Try.underlying9) <|
        Obls.cons (Obl.plain rfl rfl fun R' w' hw hs hd => by have a0 : R' 7 = .int .i64 y5 := hd 0 _ _ _ rfl rfl rfl rfl rfl; have a1 : R' 9 = .int .i64 (p0.length : Int) := hd 1 _ _ _ rfl rfl rfl rfl rfl; exact of_lss a0 a1) <|
        Obls.nil
    intro R w hw hs hF'
    replace h0 : R 0 = v0 := (hs 0 rfl).trans h0
    replace h3 : R 3 = ul_u1 := (hs 3 rfl).trans h3
    replace h4 : R 4 = .int .i64 y5 := (hs 4 rfl).trans h4
    have h10 : R 10 = .bool (decide (y5 < (p0.length : Int))) := hF' 3 _ _ rfl rfl rfl
    replace f_v0 := f_v0.fr hw
    replace hO := hO.fr hw
    replace hA := hA.fr hw.size
    replace hF := hF.trans hw
    clear hs hF' hw
    refine seqR_nil ?_
    refine HT.cond (decide (y5 < (p0.length : Int))) h10 (fun c7 => ?_) (fun c7 => ?_)
    · have hr := cnd_t c7 hr
      refine HT.skip ?_
      refine HT.seq ?_
      refine HT.block ?_
      refine HT.seq ?_
      obtain ⟨e8, hr⟩ := ck_some hr
      refine HT.text (l := ⟨_, true, .raw v0⟩ :: ⟨_, true, .raw (.int .i64 y5)⟩ :: ⟨_, true, .raw (.int .u8 (bAt p0 y5))⟩ :: ⟨_, true, .raw (.int .u8 (bAt p0 y5))⟩ :: []) (tl := []) (by kernel_rfl) (by kernel_rfl) (by kernel_rfl) ?_ ?_
      · exact
          Obls.cons (Obl.plain rfl rfl fun R' w' hw hs hd => by have a0 : R' 0 = v0 := (hs 0 rfl).trans h0; exact of_move a0) <|
          Obls.cons (Obl.plain rfl rfl fun R' w' hw hs hd => by have a0 : R' 4 = .int .i64 y5 := (hs 4 rfl).trans h4; exact of_move a0) <|
          Obls.cons (Obl.plain rfl rfl fun R' w' hw hs hd => by have a0 : R' 13 = v0 := hd 0 _ _ _ rfl rfl rfl rfl rfl; have ra0 := (f_v0.fr hw).eq a0; have a1 : R' 14 = .int .i64 y5 := hd 1 _ _ _ rfl rfl rfl rfl rfl; exact of_strIndex ra0 a1 Try.underlying9 e8) <|
          Obls.cons (Obl.plain rfl rfl fun R' w' hw hs hd => by have a0 : R' 15 = .int .u8 (bAt p0 y5) := hd 0 _ _ _ rfl rfl rfl rfl rfl; exact of_assign a0) <|
          Obls.nil
      intro R w hw hs hF'
      replace h0 : R 0 = v0 := (hs 0 rfl).trans h0
      replace h3 : R 3 = ul_u1 := (hs 3 rfl).trans h3
      replace h4 : R 4 = .int .i64 y5 := (hs 4 rfl).trans h4
      have h5 : R 5 = .int .u8 (bAt p0 y5) := hF' 3 _ _ rfl rfl rfl
      replace f_v0 := f_v0.fr hw
      replace hO := hO.fr hw
      replace hA := hA.fr hw.size
      replace hF := hF.trans hw
      clear hs hF' hw
      refine seqR_nil ?_
      refine HT.seq ?_
      refine HT.seq ?_
      obtain ⟨x9, q10, hr⟩ := bd_some hr
      refine HT.text (l := ⟨_, true, .raw (.int .u8 (bAt p0 y5))⟩ :: ⟨_, true, .raw (.bool (decide ((65 : Int) ≤ (bAt p0 y5))))⟩ :: ⟨_, true, .raw (.bool (decide ((65 : Int) ≤ (bAt p0 y5))))⟩ :: ⟨_, (true && ((decide ((65 : Int) ≤ (bAt p0 y5))) == true)), .raw (.int .u8 (bAt p0 y5))⟩ :: ⟨_, (true && ((decide ((65 : Int) ≤ (bAt p0 y5))) == true)), .raw (.bool (decide ((bAt p0 y5) ≤ (90 : Int))))⟩ :: ⟨_, true, .raw (.bool x9)⟩ :: []) (tl := []) (by kernel_rfl) (by kernel_rfl) (by kernel_rfl) ?_ ?_
      · exact
          Obls.cons (Obl.plain rfl rfl fun R' w' hw hs hd => by have a0 : R' 5 = .int .u8 (bAt p0 y5) := (hs 5 rfl).trans h5; exact of_move a0) <|
          Obls.cons (Obl.plain rfl rfl fun R' w' hw hs hd => by have a0 : R' 16 = .int .u8 (bAt p0 y5) := hd 0 _ _ _ rfl rfl rfl rfl rfl; exact of_geq a0 rfl) <|
          Obls.cons (Obl.plain rfl rfl fun R' w' hw hs hd => by have a0 : R' 17 = .bool (decide ((65 : Int) ≤ (bAt p0 y5))) := hd 0 _ _ _ rfl rfl rfl rfl rfl; exact of_move a0) <|
          Obls.cons (Obl.grd 2 true _ _ _ rfl rfl rfl rfl rfl (by kernel_rfl) fun hg R' w' hw hs hd => by have a0 : R' 5 = .int .u8 (bAt p0 y5) := (hs 5 rfl).trans h5; exact of_move a0) <|
          Obls.cons (Obl.grd 2 true _ _ _ rfl rfl rfl rfl rfl (by kernel_rfl) fun hg R' w' hw hs hd => by have a0 : R' 19 = .int .u8 (bAt p0 y5) := hd 0 _ _ _ rfl rfl rfl rfl hg; exact of_leq a0 rfl) <|
          Obls.cons (Obl.plain rfl rfl fun R' w' hw hs hd => by have a0 : R' 18 = .bool (decide ((65 : Int) ≤ (bAt p0 y5))) := hd 0 _ _ _ rfl rfl rfl rfl rfl; exact of_pick (decide ((65 : Int) ≤ (bAt p0 y5))) a0 (fun hc => by have a1 : R' 20 = .bool (decide ((bAt p0 y5) ≤ (90 : Int))) := hd 1 _ _ _ rfl rfl rfl rfl (g_and rfl (beq_of hc)); show _ = Value.bool x9; rw [q10, hc]; exact a1) (fun hc => by show _ = Value.bool x9; rw [q10, hc]; exact rfl)) <|
          Obls.nil
      intro R w hw hs hF'
      replace h0 : R 0 = v0 := (hs 0 rfl).trans h0
      replace h3 : R 3 = ul_u1 := (hs 3 rfl).trans h3
      replace h4 : R 4 = .int .i64 y5 := (hs 4 rfl).trans h4
      replace h5 : R 5 = .int .u8 (bAt p0 y5) := (hs 5 rfl).trans h5
      have h21 : R 21 = .bool x9 := hF' 5 _ _ rfl rfl rfl
      replace f_v0 := f_v0.fr hw
      replace hO := hO.fr hw
      replace hA := hA.fr hw.size
      replace hF := hF.trans hw
      clear hs hF' hw
      refine seqR_nil ?_
      refine HT.cond x9 h21 (fun c11 => ?_) (fun c11 => ?_)
      · have hr := cnd_t c11 hr
        refine HT.text (l := ⟨_, true, .raw (.int .u8 (bAt p0 y5))⟩ :: ⟨_, true, .raw (.int .u8 (IntKind.u8.wrap ((bAt p0 y5) + (32 : Int))))⟩ :: ⟨_, true, .raw (.int .u8 (IntKind.u8.wrap ((bAt p0 y5) + (32 : Int))))⟩ :: []) (tl := []) (by kernel_rfl) (by kernel_rfl) (by kernel_rfl) ?_ ?_
        · exact
            Obls.cons (Obl.plain rfl rfl fun R' w' hw hs hd => by have a0 : R' 5 = .int .u8 (bAt p0 y5) := (hs 5 rfl).trans h5; exact of_move a0) <|
            Obls.cons (Obl.plain rfl rfl fun R' w' hw hs hd => by have a0 : R' 22 = .int .u8 (bAt p0 y5) := hd 0 _ _ _ rfl rfl rfl rfl rfl; exact of_add_w a0 rfl) <|
            Obls.cons (Obl.plain rfl rfl fun R' w' hw hs hd => by have a0 : R' 23 = .int .u8 (IntKind.u8.wrap ((bAt p0 y5) + (32 : Int))) := hd 0 _ _ _ rfl rfl rfl rfl rfl; exact of_assign a0) <|
            Obls.nil
        intro R w hw hs hF'
        replace h0 : R 0 = v0 := (hs 0 rfl).trans h0
        replace h3 : R 3 = ul_u1 := (hs 3 rfl).trans h3
        replace h4 : R 4 = .int .i64 y5 := (hs 4 rfl).trans h4
        have h5 : R 5 = .int .u8 (IntKind.u8.wrap ((bAt p0 y5) + (32 : Int))) := hF' 2 _ _ rfl rfl rfl
        replace f_v0 := f_v0.fr hw
        replace hO := hO.fr hw
        replace hA := hA.fr hw.size
        replace hF := hF.trans hw
        clear hs hF' hw
        refine seqR_nil ?_
        obtain ⟨e12, hr⟩ := ck_some hr
        refine HT.textR [ob ul_u1 (.vec w0.heap.size 5 (eInt .u8) y6)] (⟨_, true, [], none, true, fun A => .raw ul_u1⟩ :: ⟨_, true, [], none, true, fun A => .raw (.int .u8 (IntKind.u8.wrap ((bAt p0 y5) + (32 : Int))))⟩ :: ⟨_, true, [], none, true, fun A => .rep (eSl (eInt .u8)) A ([(IntKind.u8.wrap ((bAt p0 y5) + (32 : Int)))] : List Int)⟩ :: ⟨_, true, [0], some (.vec w0.heap.size 5 (eInt .u8) (y6 ++ ([(IntKind.u8.wrap ((bAt p0 y5) + (32 : Int)))] : List Int))), true, fun A => .any⟩ :: ⟨_, true, [4], some (.vec w0.heap.size 5 (eInt .u8) (y6 ++ ([(IntKind.u8.wrap ((bAt p0 y5) + (32 : Int)))] : List Int))), true, fun A => .any⟩ :: []) (by kernel_rfl) (by kernel_rfl) (Wf.mk' (by kernel_rfl) (UAll.cons ust_raw (UAll.cons ust_raw (UAll.cons ust_rep (UAll.cons ust_any (UAll.cons ust_any (UAll.nil)))))) (by kernel_rfl) (by kernel_rfl)) hO hA ?_ ?_
        · exact
            OblsR.cons (OblR.plain rfl rfl rfl rfl fun A' R' w' ho hd => by have a0 : R' 3 = ul_u1 := (ho.old 3 rfl).trans h3; exact of_move a0) <|
            OblsR.cons (OblR.plain rfl rfl rfl rfl fun A' R' w' ho hd => by have a0 : R' 5 = .int .u8 (IntKind.u8.wrap ((bAt p0 y5) + (32 : Int))) := (ho.old 5 rfl).trans h5; exact of_move a0) <|
            OblsR.cons (OblR.plain rfl rfl rfl rfl fun A' R' w' ho hd => by have a0 : R' 25 = .int .u8 (IntKind.u8.wrap ((bAt p0 y5) + (32 : Int))) := hd 0 _ _ _ rfl rfl rfl rfl rfl; exact of_build [_] (E := eInt .u8) ⟨(rep_int.eq a0), trivial⟩ Try.underlying83 Try.sizeOf5 Try.zeroValue5 rfl rfl rfl ho.av) <|
            OblsR.cons (OblR.took 0 _ _ rfl rfl rfl rfl rfl fun A' R' w' ho hd u hok hav hin hop hds => by have a0 : R' 24 = ul_u1 := hd 0 _ _ _ rfl rfl rfl rfl rfl; have a1 : Rep (eSl (eInt .u8)) A' w' (R' 26) ([(IntKind.u8.wrap ((bAt p0 y5) + (32 : Int)))] : List Int) := hd 1 _ _ _ rfl rfl rfl rfl rfl; exact took_append (a0.trans (hin _ rfl).symm) hok hav (Nat.le_trans hF.size ho.ch.size) a1 Try.underlying83 el_5 e12) <|
            OblsR.cons (OblR.took 4 _ _ rfl rfl rfl rfl rfl fun A' R' w' ho hd u hok hav hin hop hds => by exact took_assign (hop _ _ rfl rfl rfl rfl).symm hok hav) <|
            OblsR.nil
        intro done ρ σ A R w hdn hI
        replace h0 : R 0 = v0 := (hI.reg rfl).trans h0
        replace h4 : R 4 = .int .i64 y5 := (hI.reg rfl).trans h4
        obtain ⟨u13, e_u13⟩ : ∃ u, ρ 5 = u := ⟨_, rfl⟩
        have h3 : R 3 = u13 := (hI.opvR hdn 5 4 rfl rfl rfl rfl rfl).symm.trans e_u13
        replace f_v0 := f_v0.stp hI.stp
        replace hAA := hI.low' hAA hA0 (hO.ge (⟨rfl, trivial⟩))
        replace hF : Fr w0 w := hF.tr hI.ch (hO.ge (⟨rfl, trivial⟩))
        replace hO : IniOK [ob u13 (.vec w0.heap.size 5 (eInt .u8) (y6 ++ ([(IntKind.u8.wrap ((bAt p0 y5) + (32 : Int)))] : List Int)))] A w := hI.left hdn [(5, ob u13 (.vec w0.heap.size 5 (eInt .u8) (y6 ++ ([(IntKind.u8.wrap ((bAt p0 y5) + (32 : Int)))] : List Int))))] ⟨rfl, rfl, e_u13, rfl, rfl, trivial⟩
        replace hA := hI.avok
        clear hI
        obtain ⟨e14, hr⟩ := ck_some hr
        refine HT.text (l := ⟨_, true, .raw (.int .i64 y5)⟩ :: ⟨_, true, .raw (.int .i64 (y5 + (1 : Int)))⟩ :: ⟨_, true, .raw (.int .i64 (y5 + (1 : Int)))⟩ :: []) (tl := []) (by kernel_rfl) (by kernel_rfl) (by kernel_rfl) ?_ ?_
        · exact
            Obls.cons (Obl.plain rfl rfl fun R' w' hw hs hd => by have a0 : R' 4 = .int .i64 y5 := (hs 4 rfl).trans h4; exact of_move a0) <|
            Obls.cons (Obl.plain rfl rfl fun R' w' hw hs hd => by have a0 : R' 11 = .int .i64 y5 := hd 0 _ _ _ rfl rfl rfl rfl rfl; exact of_add a0 rfl e14) <|
            Obls.cons (Obl.plain rfl rfl fun R' w' hw hs hd => by have a0 : R' 12 = .int .i64 (y5 + (1 : Int)) := hd 0 _ _ _ rfl rfl rfl rfl rfl; exact of_assign a0) <|
            Obls.nil
        intro R w hw hs hF'
        replace h0 : R 0 = v0 := (hs 0 rfl).trans h0
        replace h3 : R 3 = u13 := (hs 3 rfl).trans h3
        have h4 : R 4 = .int .i64 (y5 + (1 : Int)) := hF' 2 _ _ rfl rfl rfl
        replace f_v0 := f_v0.fr hw
        replace hO := hO.fr hw
        replace hA := hA.fr hw.size
        replace hF := hF.trans hw
        clear hs hF' hw
        refine seqR_nil ?_
        exact Exists.intro k (And.intro (Nat.lt_succ_self k) ⟨_, _, _, u13, hr, hA, hF, hAA, hO, h0, h3, h4, f_v0⟩)
      · have hr := cnd_f c11 hr
        refine HT.skip ?_
        obtain ⟨e15, hr⟩ := ck_some hr
        refine HT.textR [ob ul_u1 (.vec w0.heap.size 5 (eInt .u8) y6)] (⟨_, true, [], none, true, fun A => .raw ul_u1⟩ :: ⟨_, true, [], none, true, fun A => .raw (.int .u8 (bAt p0 y5))⟩ :: ⟨_, true, [], none, true, fun A => .rep (eSl (eInt .u8)) A ([(bAt p0 y5)] : List Int)⟩ :: ⟨_, true, [0], some (.vec w0.heap.size 5 (eInt .u8) (y6 ++ ([(bAt p0 y5)] : List Int))), true, fun A => .any⟩ :: ⟨_, true, [4], some (.vec w0.heap.size 5 (eInt .u8) (y6 ++ ([(bAt p0 y5)] : List Int))), true, fun A => .any⟩ :: []) (by kernel_rfl) (by kernel_rfl) (Wf.mk' (by kernel_rfl) (UAll.cons ust_raw (UAll.cons ust_raw (UAll.cons ust_rep (UAll.cons ust_any (UAll.cons ust_any (UAll.nil)))))) (by kernel_rfl) (by kernel_rfl)) hO hA ?_ ?_
        · exact
            OblsR.cons (OblR.plain rfl rfl rfl rfl fun A' R' w' ho hd => by have a0 : R' 3 = ul_u1 := (ho.old 3 rfl).trans h3; exact of_move a0) <|
            OblsR.cons (OblR.plain rfl rfl rfl rfl fun A' R' w' ho hd => by have a0 : R' 5 = .int .u8 (bAt p0 y5) := (ho.old 5 rfl).trans h5; exact of_move a0) <|
            OblsR.cons (OblR.plain rfl rfl rfl rfl fun A' R' w' ho hd => by have a0 : R' 25 = .int .u8 (bAt p0 y5) := hd 0 _ _ _ rfl rfl rfl rfl rfl; exact of_build [_] (E := eInt .u8) ⟨(rep_int.eq a0), trivial⟩ Try.underlying83 Try.sizeOf5 Try.zeroValue5 rfl rfl rfl ho.av) <|
            OblsR.cons (OblR.took 0 _ _ rfl rfl rfl rfl rfl fun A' R' w' ho hd u hok hav hin hop hds => by have a0 : R' 24 = ul_u1 := hd 0 _ _ _ rfl rfl rfl rfl rfl; have a1 : Rep (eSl (eInt .u8)) A' w' (R' 26) ([(bAt p0 y5)] : List Int) := hd 1 _ _ _ rfl rfl rfl rfl rfl; exact took_append (a0.trans (hin _ rfl).symm) hok hav (Nat.le_trans hF.size ho.ch.size) a1 Try.underlying83 el_5 e15) <|
            OblsR.cons (OblR.took 4 _ _ rfl rfl rfl rfl rfl fun A' R' w' ho hd u hok hav hin hop hds => by exact took_assign (hop _ _ rfl rfl rfl rfl).symm hok hav) <|
            OblsR.nil
        intro done ρ σ A R w hdn hI
        replace h0 : R 0 = v0 := (hI.reg rfl).trans h0
        replace h4 : R 4 = .int .i64 y5 := (hI.reg rfl).trans h4
        obtain ⟨u16, e_u16⟩ : ∃ u, ρ 5 = u := ⟨_, rfl⟩
        have h3 : R 3 = u16 := (hI.opvR hdn 5 4 rfl rfl rfl rfl rfl).symm.trans e_u16
        replace f_v0 := f_v0.stp hI.stp
        replace hAA := hI.low' hAA hA0 (hO.ge (⟨rfl, trivial⟩))
        replace hF : Fr w0 w := hF.tr hI.ch (hO.ge (⟨rfl, trivial⟩))
        replace hO : IniOK [ob u16 (.vec w0.heap.size 5 (eInt .u8) (y6 ++ ([(bAt p0 y5)] : List Int)))] A w := hI.left hdn [(5, ob u16 (.vec w0.heap.size 5 (eInt .u8) (y6 ++ ([(bAt p0 y5)] : List Int))))] ⟨rfl, rfl, e_u16, rfl, rfl, trivial⟩
        replace hA := hI.avok
        clear hI
        obtain ⟨e17, hr⟩ := ck_some hr
        refine HT.text (l := ⟨_, true, .raw (.int .i64 y5)⟩ :: ⟨_, true, .raw (.int .i64 (y5 + (1 : Int)))⟩ :: ⟨_, true, .raw (.int .i64 (y5 + (1 : Int)))⟩ :: []) (tl := []) (by kernel_rfl) (by kernel_rfl) (by kernel_rfl) ?_ ?_
        · exact
            Obls.cons (Obl.plain rfl rfl fun R' w' hw hs hd => by have a0 : R' 4 = .int .i64 y5 := (hs 4 rfl).trans h4; exact of_move a0) <|
            Obls.cons (Obl.plain rfl rfl fun R' w' hw hs hd => by have a0 : R' 11 = .int .i64 y5 := hd 0 _ _ _ rfl rfl rfl rfl rfl; exact of_add a0 rfl e17) <|
            Obls.cons (Obl.plain rfl rfl fun R' w' hw hs hd => by have a0 : R' 12 = .int .i64 (y5 + (1 : Int)) := hd 0 _ _ _ rfl rfl rfl rfl rfl; exact of_assign a0) <|
            Obls.nil
        intro R w hw hs hF'
        replace h0 : R 0 = v0 := (hs 0 rfl).trans h0
        replace h3 : R 3 = u16 := (hs 3 rfl).trans h3
        have h4 : R 4 = .int .i64 (y5 + (1 : Int)) := hF' 2 _ _ rfl rfl rfl
        replace f_v0 := f_v0.fr hw
        replace hO := hO.fr hw
        replace hA := hA.fr hw.size
        replace hF := hF.trans hw
        clear hs hF' hw
        refine seqR_nil ?_
        exact Exists.intro k (And.intro (Nat.lt_succ_self k) ⟨_, _, _, u16, hr, hA, hF, hAA, hO, h0, h3, h4, f_v0⟩)
    · have hr := cnd_f c7 hr
      refine HT.exit ?_
      obtain rfl := Option.some.inj hr
      exact Exists.intro _ ⟨_, ul_u1, rfl, hA, hF, hAA, hO, h3⟩
  rintro R w ⟨A, s4, uo_u1, es, hA, hF, hAA, hO, h3⟩
  obtain rfl := es.symm
  refine HT.seq ?_
  refine HT.text (l := ⟨_, true, .raw uo_u1⟩ :: ⟨_, true, .rep eStr A (strB s4)⟩ :: ⟨_, true, .rep eStr A (strB s4)⟩ :: []) (tl := []) (by kernel_rfl) (by kernel_rfl) (by kernel_rfl) ?_ ?_
  · exact
      Obls.cons (Obl.plain rfl rfl fun R' w' hw hs hd => by have a0 : R' 3 = uo_u1 := (hs 3 rfl).trans h3; exact of_move a0) <|
      Obls.cons (Obl.plain rfl rfl fun R' w' hw hs hd => by have a0 : R' 28 = uo_u1 := hd 0 _ _ _ rfl rfl rfl rfl rfl; have ra0 := (vec_rep ((hO.fr hw).ok 0 _ rfl).1 hAA hA0).eq a0; exact of_conv_bytes ra0 Try.underlying83 Try.underlying5 Try.underlying9) <|
      Obls.cons (Obl.plain rfl rfl fun R' w' hw hs hd => by have a0 : Rep eStr A w' (R' 29) (strB s4) := hd 0 _ _ _ rfl rfl rfl rfl rfl; exact of_assign a0) <|
      Obls.nil
  intro R w hw hs hF'
  obtain ⟨u18, h2, f_u18⟩ : ∃ u, R 2 = u ∧ Rep eStr A w u (strB s4) := ⟨_, rfl, hF' 2 _ _ rfl rfl rfl⟩
  replace hO := hO.fr hw
  replace hO : IniOK [] A w := hO.sub [] trivial
  replace hA := hA.fr hw.size
  replace hF := hF.trans hw
  clear hs hF' hw
  refine seqR_nil ?_
  refine HT.ret ?_
  obtain rfl := Option.some.inj hr
  exact ⟨.inr rfl, [R 2], ⟨rfl, trivial⟩, (f_u18.eq h2).down hAA, hF⟩
def M_spec_IsTokenSet_L1 (fu : Nat) (p0 : List (List UInt8)) (y4 : Int) : Nat → Int → Option (Ex Bool Unit)
  | 0, _ => none
  | k + 1, y18 =>
    ck (inR y4 p0.length) <|
    bif (decide (y18 < ((gtD p0 y4).length : Int))) then (
      ck (inR y4 p0.length) <|
      ck (inR y18 (gtD p0 y4).length) <|
      cl true (M_spec_l2Word fu (bAt (gtD p0 y4) y18)) fun x23 =>
      ck (!(true && ((!x23) == false)) || inR y4 p0.length) <|
      cl (true && ((!x23) == false)) (M_spec_FoldCase fu (gtD p0 y4)) fun x26 =>
      ck (!(true && ((!x23) == false)) || inR y4 p0.length) <|
      bd ((!x23) || (!(x26 == (gtD p0 y4)))) fun x29 =>
      bif x29 then (
        some (Ex.ret false)
      ) else (
        ck (i64B (y18 + (1 : Int))) <|
        M_spec_IsTokenSet_L1 fu p0 y4 k (y18 + (1 : Int))
      )
    ) else (
      some (Ex.go ())
    )
def M_spec_IsTokenSet_L0 (fu : Nat) (p0 : List (List UInt8)) : Nat → Int → Option (Ex Bool Unit)
  | 0, _ => none
  | k + 1, y4 =>
    bif (decide (y4 < (p0.length : Int))) then (
      ck (inR y4 p0.length) <|
      ck (!((true && (((gtD p0 y4) == ([] : List UInt8)) == false)) && ((decide ((0 : Int) < y4)) == true)) || i64B (y4 - (1 : Int))) <|
      ck (!((true && (((gtD p0 y4) == ([] : List UInt8)) == false)) && ((decide ((0 : Int) < y4)) == true)) || inR (y4 - (1 : Int)) p0.length) <|
      ck (!((true && (((gtD p0 y4) == ([] : List UInt8)) == false)) && ((decide ((0 : Int) < y4)) == true)) || inR y4 p0.length) <|
      bd ((decide ((0 : Int) < y4)) && (!(bLt (gtD p0 (y4 - (1 : Int))) (gtD p0 y4)))) fun x10 =>
      bd (((gtD p0 y4) == ([] : List UInt8)) || x10) fun x12 =>
      bif x12 then (
        some (Ex.ret false)
      ) else (
        cl true (M_spec_IsTokenSet_L1 fu p0 y4 fu (0 : Int)) fun rl15 =>
        exM rl15 (fun r => some (Ex.ret r)) fun s17 =>
        ck (i64B (y4 + (1 : Int))) <|
        M_spec_IsTokenSet_L0 fu p0 k (y4 + (1 : Int))
      )
    ) else (
      some (Ex.go ())
    )
def M_spec_IsTokenSet (fu : Nat) (p0 : List (List UInt8)) : Option Bool :=
  cl true (M_spec_IsTokenSet_L0 fu p0 fu (0 : Int)) fun rl1 =>
  exM rl1 (fun r => some r) fun s3 =>
  some true
set_option maxRecDepth 100000 in
set_option maxHeartbeats 4000000 in
theorem M_spec_IsTokenSet_ok {fu : Nat} {A : Av} {p0 : List (List UInt8)} {r : Bool} (hr : M_spec_IsTokenSet fu p0 = some r) {w : World} {v0 : Value} (hA : AvOK A w) (h0 : Rep (eSl eStr) A w v0 p0) :
    Calls Try.prog 36 #[v0] w fun e w' => ∃ v, e = .returned v ∧ (v = .bool r ∧ Fr w w') := by
  unfold M_spec_IsTokenSet at hr
  obtain ⟨w0, hw0⟩ : ∃ w0, w0 = w := ⟨_, rfl⟩
  have hF : Fr w0 w := hw0 ▸ Fr.refl _
  rw [show Fr w = Fr w0 from hw0 ▸ rfl]
  clear hw0
  refine calls_of_HT2 [.tmp 2] Try.func36 Try.ntmps36 (by decide) rfl rfl (Nat.le_of_ble_eq_true rfl) ?_
  intro R hR
  have f_v0 := h0
  replace h0 : R 0 = v0 := hR 0 _ rfl
  clear hR
  refine HT.seq ?_
  refine HT.text (l := ⟨_, true, .raw (.bool false)⟩ :: []) (tl := []) (by kernel_rfl) (by kernel_rfl) (by kernel_rfl) ?_ ?_
  · exact
      Obls.cons (Obl.plain rfl rfl fun R' w' hw hs hd => by exact of_assign rfl) <|
      Obls.nil
  intro R w hw hs hF'
  replace h0 : R 0 = v0 := (hs 0 rfl).trans h0
  replace f_v0 := f_v0.fr hw
  replace hA := hA.fr hw.size
  replace hF := hF.trans hw
  clear hs hF' hw
  refine seqR_nil ?_
  refine HT.seq ?_
  refine HT.seq ?_
  refine HT.text (l := ⟨_, true, .raw (.int .i64 (0 : Int))⟩ :: []) (tl := []) (by kernel_rfl) (by kernel_rfl) (by kernel_rfl) ?_ ?_
  · exact
      Obls.cons (Obl.plain rfl rfl fun R' w' hw hs hd => by exact of_assign rfl) <|
      Obls.nil
  intro R w hw hs hF'
  replace h0 : R 0 = v0 := (hs 0 rfl).trans h0
  have h3 : R 3 = .int .i64 (0 : Int) := hF' 0 _ _ rfl rfl rfl
  replace f_v0 := f_v0.fr hw
  replace hA := hA.fr hw.size
  replace hF := hF.trans hw
  clear hs hF' hw
  refine seqR_nil ?_
  obtain ⟨rl1, q2, hr⟩ := cl_some hr
  replace q2 := q2 rfl
  refine HT.cut0 (fun R w => ∃ (s3 : Unit), rl1 = Ex.go s3 ∧ AvOK A w ∧ Fr w0 w) ?_ ?_
  · refine HT.block ?_
    refine HT.loop (fun k R w => ∃ (y4 : Int), M_spec_IsTokenSet_L0 fu p0 k y4 = some rl1 ∧ AvOK A w ∧ Fr w0 w ∧ R 0 = v0 ∧ R 3 = .int .i64 y4 ∧ Rep (eSl eStr) A w v0 p0) fu ⟨_, q2, hA, hF, h0, h3, f_v0⟩ ?_
    have hr0 := hr; clear hr q2
    rintro k R w ⟨y4, hr, hA, hF, h0, h3, f_v0⟩
    rcases k with _ | k
    · cases (show none = some _ from hr)
    rw [M_spec_IsTokenSet_L0] at hr
    refine HT.seq ?_
    refine HT.seq ?_
    refine HT.text (l := ⟨_, true, .raw (.int .i64 y4)⟩ :: ⟨_, true, .raw v0⟩ :: ⟨_, true, .raw (.int .i64 (p0.length : Int))⟩ :: ⟨_, true, .raw (.bool (decide (y4 < (p0.length : Int))))⟩ :: []) (tl := []) (by kernel_rfl) (by kernel_rfl) (by kernel_rfl) ?_ ?_
    · exact
        Obls.cons (Obl.plain rfl rfl fun R' w' hw hs hd => by have a0 : R' 3 = .int .i64 y4 := (hs 3 rfl).trans h3; exact of_move a0) <|
        Obls.cons (Obl.plain rfl rfl fun R' w' hw hs hd => by have a0 : R' 0 = v0 := (hs 0 rfl).trans h0; exact of_move a0) <|
        Obls.cons (Obl.plain rfl rfl fun R' w' hw hs hd => by have a0 : R' 6 = v0 := hd 0 _ _ _ rfl rfl rfl rfl rfl; have ra0 := (f_v0.fr hw).eq a0; exact of_len_sl (aT := #[]) ra0 Try.underlying37) <|
        Obls.cons (Obl.plain rfl rfl fun R' w' hw hs hd => by have a0 : R' 5 = .int .i64 y4 := hd 0 _ _ _ rfl rfl rfl rfl rfl; have a1 : R' 7 = .int .i64 (p0.length : Int) := hd 1 _ _ _ rfl rfl rfl rfl rfl; exact of_lss a0 a1) <|
        Obls.nil
    intro R w hw hs hF'
    replace h0 : R 0 = v0 := (hs 0 rfl).trans h0
    replace h3 : R 3 = .int .i64 y4 := (hs 3 rfl).trans h3
    have h8 : R 8 = .bool (decide (y4 < (p0.length : Int))) := hF' 3 _ _ rfl rfl rfl
    replace f_v0 := f_v0.fr hw
    replace hA := hA.fr hw.size
    replace hF := hF.trans hw
    clear hs hF' hw
    refine seqR_nil ?_
    refine HT.cond (decide (y4 < (p0.length : Int))) h8 (fun c5 => ?_) (fun c5 => ?_)
    · have hr := cnd_t c5 hr
      refine HT.skip ?_
      refine HT.seq ?_
      refine HT.block ?_
      refine HT.seq ?_
      refine HT.seq ?_
      obtain ⟨e6, hr⟩ := ck_some hr
      obtain ⟨e7, hr⟩ := ck_some hr
      obtain ⟨e8, hr⟩ := ck_some hr
      obtain ⟨e9, hr⟩ := ck_some hr
      obtain ⟨x10, q11, hr⟩ := bd_some hr
      obtain ⟨x12, q13, hr⟩ := bd_some hr
      refine HT.draw (by kernel_rfl) (l := ⟨_, true, .raw v0⟩ :: ⟨_, true, .raw (.int .i64 y4)⟩ :: ⟨_, true, .qtr eStr A (gtD p0 y4)⟩ :: ⟨_, true, .rep eStr A (gtD p0 y4)⟩ :: ⟨_, true, .raw (.bool ((gtD p0 y4) == ([] : List UInt8)))⟩ :: ⟨_, true, .raw (.bool ((gtD p0 y4) == ([] : List UInt8)))⟩ :: ⟨_, (true && (((gtD p0 y4) == ([] : List UInt8)) == false)), .raw (.int .i64 y4)⟩ :: ⟨_, (true && (((gtD p0 y4) == ([] : List UInt8)) == false)), .raw (.bool (decide ((0 : Int) < y4)))⟩ :: ⟨_, (true && (((gtD p0 y4) == ([] : List UInt8)) == false)), .raw (.bool (decide ((0 : Int) < y4)))⟩ :: ⟨_, ((true && (((gtD p0 y4) == ([] : List UInt8)) == false)) && ((decide ((0 : Int) < y4)) == true)), .raw v0⟩ :: ⟨_, ((true && (((gtD p0 y4) == ([] : List UInt8)) == false)) && ((decide ((0 : Int) < y4)) == true)), .raw (.int .i64 y4)⟩ :: ⟨_, ((true && (((gtD p0 y4) == ([] : List UInt8)) == false)) && ((decide ((0 : Int) < y4)) == true)), .raw (.int .i64 (y4 - (1 : Int)))⟩ :: ⟨_, ((true && (((gtD p0 y4) == ([] : List UInt8)) == false)) && ((decide ((0 : Int) < y4)) == true)), .qtr eStr A (gtD p0 (y4 - (1 : Int)))⟩ :: ⟨_, ((true && (((gtD p0 y4) == ([] : List UInt8)) == false)) && ((decide ((0 : Int) < y4)) == true)), .rep eStr A (gtD p0 (y4 - (1 : Int)))⟩ :: ⟨_, ((true && (((gtD p0 y4) == ([] : List UInt8)) == false)) && ((decide ((0 : Int) < y4)) == true)), .raw v0⟩ :: ⟨_, ((true && (((gtD p0 y4) == ([] : List UInt8)) == false)) && ((decide ((0 : Int) < y4)) == true)), .raw (.int .i64 y4)⟩ :: ⟨_, ((true && (((gtD p0 y4) == ([] : List UInt8)) == false)) && ((decide ((0 : Int) < y4)) == true)), .qtr eStr A (gtD p0 y4)⟩ :: ⟨_, ((true && (((gtD p0 y4) == ([] : List UInt8)) == false)) && ((decide ((0 : Int) < y4)) == true)), .rep eStr A (gtD p0 y4)⟩ :: ⟨_, ((true && (((gtD p0 y4) == ([] : List UInt8)) == false)) && ((decide ((0 : Int) < y4)) == true)), .raw (.bool (!(bLt (gtD p0 (y4 - (1 : Int))) (gtD p0 y4))))⟩ :: ⟨_, (true && (((gtD p0 y4) == ([] : List UInt8)) == false)), .raw (.bool x10)⟩ :: ⟨_, true, .raw (.bool x12)⟩ :: []) (tl := []) (by kernel_rfl) (by kernel_rfl) (by kernel_rfl) (by kernel_rfl) ?_ ?_
      · exact
          Obls.cons (Obl.plain rfl rfl fun R' w' hw hs hd => by have a0 : R' 0 = v0 := (hs 0 rfl).trans h0; exact of_move a0) <|
          Obls.cons (Obl.plain rfl rfl fun R' w' hw hs hd => by have a0 : R' 3 = .int .i64 y4 := (hs 3 rfl).trans h3; exact of_move a0) <|
          Obls.cons (Obl.plain rfl rfl fun R' w' hw hs hd => by have a0 : R' 11 = v0 := hd 0 _ _ _ rfl rfl rfl rfl rfl; have a1 : R' 12 = .int .i64 y4 := hd 1 _ _ _ rfl rfl rfl rfl rfl; have ra0 := (f_v0.fr hw).eq a0; exact of_indexAddr ra0 a1 Try.underlying37 Try.sizeOf9 e6) <|
          Obls.cons (Obl.plain rfl rfl fun R' w' hw hs hd => by have a0 : QRep eStr A w' (R' 13) (gtD p0 y4) := hd 0 _ _ _ rfl rfl rfl rfl rfl; exact (of_load a0.ptr Try.isAgg9 Try.sizeOf9)) <|
          Obls.cons (Obl.plain rfl rfl fun R' w' hw hs hd => by have a0 : Rep eStr A w' (R' 14) (gtD p0 y4) := hd 0 _ _ _ rfl rfl rfl rfl rfl; exact of_seql a0 ⟨_, rfl, ⟨_, rfl, rfl, by decide⟩⟩) <|
          Obls.cons (Obl.plain rfl rfl fun R' w' hw hs hd => by have a0 : R' 15 = .bool ((gtD p0 y4) == ([] : List UInt8)) := hd 0 _ _ _ rfl rfl rfl rfl rfl; exact of_move a0) <|
          Obls.cons (Obl.grd 5 false _ _ _ rfl rfl rfl rfl rfl (by kernel_rfl) fun hg R' w' hw hs hd => by have a0 : R' 3 = .int .i64 y4 := (hs 3 rfl).trans h3; exact of_move a0) <|
          Obls.cons (Obl.grd 5 false _ _ _ rfl rfl rfl rfl rfl (by kernel_rfl) fun hg R' w' hw hs hd => by have a0 : R' 17 = .int .i64 y4 := hd 0 _ _ _ rfl rfl rfl rfl hg; exact of_gtr a0 rfl) <|
          Obls.cons (Obl.grd 5 false _ _ _ rfl rfl rfl rfl rfl (by kernel_rfl) fun hg R' w' hw hs hd => by have a0 : R' 18 = .bool (decide ((0 : Int) < y4)) := hd 0 _ _ _ rfl rfl rfl rfl hg; exact of_move a0) <|
          Obls.cons (Obl.grd 8 true _ _ _ rfl rfl rfl rfl rfl (by kernel_rfl) fun hg R' w' hw hs hd => by have a0 : R' 0 = v0 := (hs 0 rfl).trans h0; exact of_move a0) <|
          Obls.cons (Obl.grd 8 true _ _ _ rfl rfl rfl rfl rfl (by kernel_rfl) fun hg R' w' hw hs hd => by have a0 : R' 3 = .int .i64 y4 := (hs 3 rfl).trans h3; exact of_move a0) <|
          Obls.cons (Obl.grd 8 true _ _ _ rfl rfl rfl rfl rfl (by kernel_rfl) fun hg R' w' hw hs hd => by have a0 : R' 21 = .int .i64 y4 := hd 0 _ _ _ rfl rfl rfl rfl hg; exact of_sub a0 rfl (gd e7 hg)) <|
          Obls.cons (Obl.grd 8 true _ _ _ rfl rfl rfl rfl rfl (by kernel_rfl) fun hg R' w' hw hs hd => by have a0 : R' 20 = v0 := hd 0 _ _ _ rfl rfl rfl rfl hg; have a1 : R' 22 = .int .i64 (y4 - (1 : Int)) := hd 1 _ _ _ rfl rfl rfl rfl hg; have ra0 := (f_v0.fr hw).eq a0; exact of_indexAddr ra0 a1 Try.underlying37 Try.sizeOf9 (gd e8 hg)) <|
          Obls.cons (Obl.grd 8 true _ _ _ rfl rfl rfl rfl rfl (by kernel_rfl) fun hg R' w' hw hs hd => by have a0 : QRep eStr A w' (R' 23) (gtD p0 (y4 - (1 : Int))) := hd 0 _ _ _ rfl rfl rfl rfl hg; exact (of_load a0.ptr Try.isAgg9 Try.sizeOf9)) <|
          Obls.cons (Obl.grd 8 true _ _ _ rfl rfl rfl rfl rfl (by kernel_rfl) fun hg R' w' hw hs hd => by have a0 : R' 0 = v0 := (hs 0 rfl).trans h0; exact of_move a0) <|
          Obls.cons (Obl.grd 8 true _ _ _ rfl rfl rfl rfl rfl (by kernel_rfl) fun hg R' w' hw hs hd => by have a0 : R' 3 = .int .i64 y4 := (hs 3 rfl).trans h3; exact of_move a0) <|
          Obls.cons (Obl.grd 8 true _ _ _ rfl rfl rfl rfl rfl (by kernel_rfl) fun hg R' w' hw hs hd => by have a0 : R' 25 = v0 := hd 0 _ _ _ rfl rfl rfl rfl hg; have a1 : R' 26 = .int .i64 y4 := hd 1 _ _ _ rfl rfl rfl rfl hg; have ra0 := (f_v0.fr hw).eq a0; exact of_indexAddr ra0 a1 Try.underlying37 Try.sizeOf9 (gd e9 hg)) <|
          Obls.cons (Obl.grd 8 true _ _ _ rfl rfl rfl rfl rfl (by kernel_rfl) fun hg R' w' hw hs hd => by have a0 : QRep eStr A w' (R' 27) (gtD p0 y4) := hd 0 _ _ _ rfl rfl rfl rfl hg; exact (of_load a0.ptr Try.isAgg9 Try.sizeOf9)) <|
          Obls.cons (Obl.grd 8 true _ _ _ rfl rfl rfl rfl rfl (by kernel_rfl) fun hg R' w' hw hs hd => by have a0 : Rep eStr A w' (R' 24) (gtD p0 (y4 - (1 : Int))) := hd 0 _ _ _ rfl rfl rfl rfl hg; have a1 : Rep eStr A w' (R' 28) (gtD p0 y4) := hd 1 _ _ _ rfl rfl rfl rfl hg; exact of_sgeq a0 a1) <|
          Obls.cons (Obl.grd 5 false _ _ _ rfl rfl rfl rfl rfl (by kernel_rfl) fun hg R' w' hw hs hd => by have a0 : R' 19 = .bool (decide ((0 : Int) < y4)) := hd 0 _ _ _ rfl rfl rfl rfl hg; exact of_pick (decide ((0 : Int) < y4)) a0 (fun hc => by have a1 : R' 29 = .bool (!(bLt (gtD p0 (y4 - (1 : Int))) (gtD p0 y4))) := hd 1 _ _ _ rfl rfl rfl rfl (g_and hg (beq_of hc)); show _ = Value.bool x10; rw [q11, hc]; exact a1) (fun hc => by show _ = Value.bool x10; rw [q11, hc]; exact rfl)) <|
          Obls.cons (Obl.plain rfl rfl fun R' w' hw hs hd => by have a0 : R' 16 = .bool ((gtD p0 y4) == ([] : List UInt8)) := hd 0 _ _ _ rfl rfl rfl rfl rfl; exact of_pick ((gtD p0 y4) == ([] : List UInt8)) a0 (fun hc => by show _ = Value.bool x12; rw [q13, hc]; exact rfl) (fun hc => by have a2 : R' 30 = .bool x10 := hd 1 _ _ _ rfl rfl rfl rfl (g_and rfl (beq_of hc)); show _ = Value.bool x12; rw [q13, hc]; exact a2)) <|
          Obls.nil
      intro R w hw hs hF'
      replace h0 : R 0 = v0 := (hs 0 rfl).trans h0
      replace h3 : R 3 = .int .i64 y4 := (hs 3 rfl).trans h3
      have h31 : R 31 = .bool x12 := hF' 20 _ _ rfl rfl rfl
      replace f_v0 := f_v0.fr hw
      replace hA := hA.fr hw.size
      replace hF := hF.trans hw
      clear hs hF' hw
      refine seqR_nil ?_
      refine HT.cond x12 h31 (fun c14 => ?_) (fun c14 => ?_)
      · have hr := cnd_t c14 hr
        refine HT.seq ?_
        refine HT.text (l := ⟨_, true, .raw (.bool false)⟩ :: []) (tl := []) (by kernel_rfl) (by kernel_rfl) (by kernel_rfl) ?_ ?_
        · exact
            Obls.cons (Obl.plain rfl rfl fun R' w' hw hs hd => by exact of_assign rfl) <|
            Obls.nil
        intro R w hw hs hF'
        have h2 : R 2 = .bool false := hF' 0 _ _ rfl rfl rfl
        replace hA := hA.fr hw.size
        replace hF := hF.trans hw
        clear hs hF' hw
        refine seqR_nil ?_
        refine HT.ret ?_
        obtain rfl := Option.some.inj hr
        have hr := hr0
        replace hr : some _ = some _ := hr
        obtain rfl := Option.some.inj hr
        exact ⟨.inr rfl, [R 2], ⟨rfl, trivial⟩, h2, hF⟩
      · have hr := cnd_f c14 hr
        refine HT.skip ?_
        refine HT.seq ?_
        refine HT.text (l := ⟨_, true, .raw (.int .i64 (0 : Int))⟩ :: []) (tl := []) (by kernel_rfl) (by kernel_rfl) (by kernel_rfl) ?_ ?_
        · exact
            Obls.cons (Obl.plain rfl rfl fun R' w' hw hs hd => by exact of_assign rfl) <|
            Obls.nil
        intro R w hw hs hF'
        replace h0 : R 0 = v0 := (hs 0 rfl).trans h0
        replace h3 : R 3 = .int .i64 y4 := (hs 3 rfl).trans h3
        have h4 : R 4 = .int .i64 (0 : Int) := hF' 0 _ _ rfl rfl rfl
        replace f_v0 := f_v0.fr hw
        replace hA := hA.fr hw.size
        replace hF := hF.trans hw
        clear hs hF' hw
        refine seqR_nil ?_
        obtain ⟨rl15, q16, hr⟩ := cl_some hr
        replace q16 := q16 rfl
        refine HT.cut0 (fun R w => ∃ (s17 : Unit), rl15 = Ex.go s17 ∧ AvOK A w ∧ Fr w0 w ∧ R 0 = v0 ∧ R 3 = .int .i64 y4 ∧ Rep (eSl eStr) A w v0 p0) ?_ ?_
        · refine HT.block ?_
          refine HT.loop (fun k R w => ∃ (y18 : Int), M_spec_IsTokenSet_L1 fu p0 y4 k y18 = some rl15 ∧ AvOK A w ∧ Fr w0 w ∧ R 0 = v0 ∧ R 3 = .int .i64 y4 ∧ R 4 = .int .i64 y18 ∧ Rep (eSl eStr) A w v0 p0) fu ⟨_, q16, hA, hF, h0, h3, h4, f_v0⟩ ?_
          have hr1 := hr; clear hr q16
          rintro k R w ⟨y18, hr, hA, hF, h0, h3, h4, f_v0⟩
          rcases k with _ | k
          · cases (show none = some _ from hr)
          rw [M_spec_IsTokenSet_L1] at hr
          refine HT.seq ?_
          refine HT.seq ?_
          obtain ⟨e19, hr⟩ := ck_some hr
          refine HT.text (l := ⟨_, true, .raw (.int .i64 y18)⟩ :: ⟨_, true, .raw v0⟩ :: ⟨_, true, .raw (.int .i64 y4)⟩ :: ⟨_, true, .qtr eStr A (gtD p0 y4)⟩ :: ⟨_, true, .rep eStr A (gtD p0 y4)⟩ :: ⟨_, true, .raw (.int .i64 ((gtD p0 y4).length : Int))⟩ :: ⟨_, true, .raw (.bool (decide (y18 < ((gtD p0 y4).length : Int))))⟩ :: []) (tl := []) (by kernel_rfl) (by kernel_rfl) (by kernel_rfl) ?_ ?_
          · exact
              Obls.cons (Obl.plain rfl rfl fun R' w' hw hs hd => by have a0 : R' 4 = .int .i64 y18 := (hs 4 rfl).trans h4; exact of_move a0) <|
              Obls.cons (Obl.plain rfl rfl fun R' w' hw hs hd => by have a0 : R' 0 = v0 := (hs 0 rfl).trans h0; exact of_move a0) <|
              Obls.cons (Obl.plain rfl rfl fun R' w' hw hs hd => by have a0 : R' 3 = .int .i64 y4 := (hs 3 rfl).trans h3; exact of_move a0) <|
              Obls.cons (Obl.plain rfl rfl fun R' w' hw hs hd => by have a0 : R' 33 = v0 := hd 0 _ _ _ rfl rfl rfl rfl rfl; have a1 : R' 34 = .int .i64 y4 := hd 1 _ _ _ rfl rfl rfl rfl rfl; have ra0 := (f_v0.fr hw).eq a0; exact of_indexAddr ra0 a1 Try.underlying37 Try.sizeOf9 e19) <|
              Obls.cons (Obl.plain rfl rfl fun R' w' hw hs hd => by have a0 : QRep eStr A w' (R' 35) (gtD p0 y4) := hd 0 _ _ _ rfl rfl rfl rfl rfl; exact (of_load a0.ptr Try.isAgg9 Try.sizeOf9)) <|
              Obls.cons (Obl.plain rfl rfl fun R' w' hw hs hd => by have a0 : Rep eStr A w' (R' 36) (gtD p0 y4) := hd 0 _ _ _ rfl rfl rfl rfl rfl; exact of_len_str a0 Try.underlying9) <|
              Obls.cons (Obl.plain rfl rfl fun R' w' hw hs hd => by have a0 : R' 32 = .int .i64 y18 := hd 0 _ _ _ rfl rfl rfl rfl rfl; have a1 : R' 37 = .int .i64 ((gtD p0 y4).length : Int) := hd 1 _ _ _ rfl rfl rfl rfl rfl; exact of_lss a0 a1) <|
              Obls.nil
          intro R w hw hs hF'
          replace h0 : R 0 = v0 := (hs 0 rfl).trans h0
          replace h3 : R 3 = .int .i64 y4 := (hs 3 rfl).trans h3
          replace h4 : R 4 = .int .i64 y18 := (hs 4 rfl).trans h4
          have h38 : R 38 = .bool (decide (y18 < ((gtD p0 y4).length : Int))) := hF' 6 _ _ rfl rfl rfl
          replace f_v0 := f_v0.fr hw
          replace hA := hA.fr hw.size
          replace hF := hF.trans hw
          clear hs hF' hw
          refine seqR_nil ?_
          refine HT.cond (decide (y18 < ((gtD p0 y4).length : Int))) h38 (fun c20 => ?_) (fun c20 => ?_)
          · have hr := cnd_t c20 hr
            refine HT.skip ?_
            refine HT.seq ?_
            refine HT.block ?_
            refine HT.seq ?_
            obtain ⟨e21, hr⟩ := ck_some hr
            obtain ⟨e22, hr⟩ := ck_some hr
            obtain ⟨x23, q24, hr⟩ := cl_some hr
            obtain ⟨e25, hr⟩ := ck_some hr
            obtain ⟨x26, q27, hr⟩ := cl_some hr
            obtain ⟨e28, hr⟩ := ck_some hr
            obtain ⟨x29, q30, hr⟩ := bd_some hr
            refine HT.draw (by kernel_rfl) (l := ⟨_, true, .raw v0⟩ :: ⟨_, true, .raw (.int .i64 y4)⟩ :: ⟨_, true, .qtr eStr A (gtD p0 y4)⟩ :: ⟨_, true, .rep eStr A (gtD p0 y4)⟩ :: ⟨_, true, .raw (.int .i64 y18)⟩ :: ⟨_, true, .raw (.int .u8 (bAt (gtD p0 y4) y18))⟩ :: ⟨_, true, .raw (.bool x23)⟩ :: ⟨_, true, .raw (.bool (!x23))⟩ :: ⟨_, true, .raw (.bool (!x23))⟩ :: ⟨_, (true && ((!x23) == false)), .raw v0⟩ :: ⟨_, (true && ((!x23) == false)), .raw (.int .i64 y4)⟩ :: ⟨_, (true && ((!x23) == false)), .qtr eStr A (gtD p0 y4)⟩ :: ⟨_, (true && ((!x23) == false)), .rep eStr A (gtD p0 y4)⟩ :: ⟨_, (true && ((!x23) == false)), .rep eStr A x26⟩ :: ⟨_, (true && ((!x23) == false)), .raw v0⟩ :: ⟨_, (true && ((!x23) == false)), .raw (.int .i64 y4)⟩ :: ⟨_, (true && ((!x23) == false)), .qtr eStr A (gtD p0 y4)⟩ :: ⟨_, (true && ((!x23) == false)), .rep eStr A (gtD p0 y4)⟩ :: ⟨_, (true && ((!x23) == false)), .raw (.bool (!(x26 == (gtD p0 y4))))⟩ :: ⟨_, true, .raw (.bool x29)⟩ :: []) (tl := []) (by kernel_rfl) (by kernel_rfl) (by kernel_rfl) (by kernel_rfl) ?_ ?_
            · exact
                Obls.cons (Obl.plain rfl rfl fun R' w' hw hs hd => by have a0 : R' 0 = v0 := (hs 0 rfl).trans h0; exact of_move a0) <|
                Obls.cons (Obl.plain rfl rfl fun R' w' hw hs hd => by have a0 : R' 3 = .int .i64 y4 := (hs 3 rfl).trans h3; exact of_move a0) <|
                Obls.cons (Obl.plain rfl rfl fun R' w' hw hs hd => by have a0 : R' 41 = v0 := hd 0 _ _ _ rfl rfl rfl rfl rfl; have a1 : R' 42 = .int .i64 y4 := hd 1 _ _ _ rfl rfl rfl rfl rfl; have ra0 := (f_v0.fr hw).eq a0; exact of_indexAddr ra0 a1 Try.underlying37 Try.sizeOf9 e21) <|
                Obls.cons (Obl.plain rfl rfl fun R' w' hw hs hd => by have a0 : QRep eStr A w' (R' 43) (gtD p0 y4) := hd 0 _ _ _ rfl rfl rfl rfl rfl; exact (of_load a0.ptr Try.isAgg9 Try.sizeOf9)) <|
                Obls.cons (Obl.plain rfl rfl fun R' w' hw hs hd => by have a0 : R' 4 = .int .i64 y18 := (hs 4 rfl).trans h4; exact of_move a0) <|
                Obls.cons (Obl.plain rfl rfl fun R' w' hw hs hd => by have a0 : Rep eStr A w' (R' 44) (gtD p0 y4) := hd 0 _ _ _ rfl rfl rfl rfl rfl; have a1 : R' 45 = .int .i64 y18 := hd 1 _ _ _ rfl rfl rfl rfl rfl; exact of_strIndex a0 a1 Try.underlying9 e22) <|
                Obls.cons (Obl.plain rfl rfl fun R' w' hw hs hd => by have a0 : R' 46 = .int .u8 (bAt (gtD p0 y4) y18) := hd 0 _ _ _ rfl rfl rfl rfl rfl; exact of_call Try.call57 (M_spec_l2Word_ok (q24 rfl) (hA.fr hw.size) a0)) <|
                Obls.cons (Obl.plain rfl rfl fun R' w' hw hs hd => by have a0 : R' 47 = .bool x23 := hd 0 _ _ _ rfl rfl rfl rfl rfl; exact of_not a0) <|
                Obls.cons (Obl.plain rfl rfl fun R' w' hw hs hd => by have a0 : R' 48 = .bool (!x23) := hd 0 _ _ _ rfl rfl rfl rfl rfl; exact of_move a0) <|
                Obls.cons (Obl.grd 8 false _ _ _ rfl rfl rfl rfl rfl (by kernel_rfl) fun hg R' w' hw hs hd => by have a0 : R' 0 = v0 := (hs 0 rfl).trans h0; exact of_move a0) <|
                Obls.cons (Obl.grd 8 false _ _ _ rfl rfl rfl rfl rfl (by kernel_rfl) fun hg R' w' hw hs hd => by have a0 : R' 3 = .int .i64 y4 := (hs 3 rfl).trans h3; exact of_move a0) <|
                Obls.cons (Obl.grd 8 false _ _ _ rfl rfl rfl rfl rfl (by kernel_rfl) fun hg R' w' hw hs hd => by have a0 : R' 50 = v0 := hd 0 _ _ _ rfl rfl rfl rfl hg; have a1 : R' 51 = .int .i64 y4 := hd 1 _ _ _ rfl rfl rfl rfl hg; have ra0 := (f_v0.fr hw).eq a0; exact of_indexAddr ra0 a1 Try.underlying37 Try.sizeOf9 (gd e25 hg)) <|
                Obls.cons (Obl.grd 8 false _ _ _ rfl rfl rfl rfl rfl (by kernel_rfl) fun hg R' w' hw hs hd => by have a0 : QRep eStr A w' (R' 52) (gtD p0 y4) := hd 0 _ _ _ rfl rfl rfl rfl hg; exact (of_load a0.ptr Try.isAgg9 Try.sizeOf9)) <|
                Obls.cons (Obl.grd 8 false _ _ _ rfl rfl rfl rfl rfl (by kernel_rfl) fun hg R' w' hw hs hd => by have a0 : Rep eStr A w' (R' 53) (gtD p0 y4) := hd 0 _ _ _ rfl rfl rfl rfl hg; exact of_call Try.call58 (M_spec_FoldCase_ok (q27 hg) (hA.fr hw.size) a0)) <|
                Obls.cons (Obl.grd 8 false _ _ _ rfl rfl rfl rfl rfl (by kernel_rfl) fun hg R' w' hw hs hd => by have a0 : R' 0 = v0 := (hs 0 rfl).trans h0; exact of_move a0) <|
                Obls.cons (Obl.grd 8 false _ _ _ rfl rfl rfl rfl rfl (by kernel_rfl) fun hg R' w' hw hs hd => by have a0 : R' 3 = .int .i64 y4 := (hs 3 rfl).trans h3; exact of_move a0) <|
                Obls.cons (Obl.grd 8 false _ _ _ rfl rfl rfl rfl rfl (by kernel_rfl) fun hg R' w' hw hs hd => by have a0 : R' 55 = v0 := hd 0 _ _ _ rfl rfl rfl rfl hg; have a1 : R' 56 = .int .i64 y4 := hd 1 _ _ _ rfl rfl rfl rfl hg; have ra0 := (f_v0.fr hw).eq a0; exact of_indexAddr ra0 a1 Try.underlying37 Try.sizeOf9 (gd e28 hg)) <|
                Obls.cons (Obl.grd 8 false _ _ _ rfl rfl rfl rfl rfl (by kernel_rfl) fun hg R' w' hw hs hd => by have a0 : QRep eStr A w' (R' 57) (gtD p0 y4) := hd 0 _ _ _ rfl rfl rfl rfl hg; exact (of_load a0.ptr Try.isAgg9 Try.sizeOf9)) <|
                Obls.cons (Obl.grd 8 false _ _ _ rfl rfl rfl rfl rfl (by kernel_rfl) fun hg R' w' hw hs hd => by have a0 : Rep eStr A w' (R' 54) x26 := hd 0 _ _ _ rfl rfl rfl rfl hg; have a1 : Rep eStr A w' (R' 58) (gtD p0 y4) := hd 1 _ _ _ rfl rfl rfl rfl hg; exact of_sneq a0 a1) <|
                Obls.cons (Obl.plain rfl rfl fun R' w' hw hs hd => by have a0 : R' 49 = .bool (!x23) := hd 0 _ _ _ rfl rfl rfl rfl rfl; exact of_pick (!x23) a0 (fun hc => by show _ = Value.bool x29; rw [q30, hc]; exact rfl) (fun hc => by have a2 : R' 59 = .bool (!(x26 == (gtD p0 y4))) := hd 1 _ _ _ rfl rfl rfl rfl (g_and rfl (beq_of hc)); show _ = Value.bool x29; rw [q30, hc]; exact a2)) <|
                Obls.nil
            intro R w hw hs hF'
            replace h0 : R 0 = v0 := (hs 0 rfl).trans h0
            replace h3 : R 3 = .int .i64 y4 := (hs 3 rfl).trans h3
            replace h4 : R 4 = .int .i64 y18 := (hs 4 rfl).trans h4
            have h60 : R 60 = .bool x29 := hF' 19 _ _ rfl rfl rfl
            replace f_v0 := f_v0.fr hw
            replace hA := hA.fr hw.size
            replace hF := hF.trans hw
            clear hs hF' hw
            refine seqR_nil ?_
            refine HT.cond x29 h60 (fun c31 => ?_) (fun c31 => ?_)
            · have hr := cnd_t c31 hr
              refine HT.seq ?_
              refine HT.text (l := ⟨_, true, .raw (.bool false)⟩ :: []) (tl := []) (by kernel_rfl) (by kernel_rfl) (by kernel_rfl) ?_ ?_
              · exact
                  Obls.cons (Obl.plain rfl rfl fun R' w' hw hs hd => by exact of_assign rfl) <|
                  Obls.nil
              intro R w hw hs hF'
              have h2 : R 2 = .bool false := hF' 0 _ _ rfl rfl rfl
              replace hA := hA.fr hw.size
              replace hF := hF.trans hw
              clear hs hF' hw
              refine seqR_nil ?_
              refine HT.ret ?_
              obtain rfl := Option.some.inj hr
              have hr := hr1
              replace hr : some _ = some _ := hr
              obtain rfl := Option.some.inj hr
              have hr := hr0
              replace hr : some _ = some _ := hr
              obtain rfl := Option.some.inj hr
              exact ⟨.inr rfl, [R 2], ⟨rfl, trivial⟩, h2, hF⟩
            · have hr := cnd_f c31 hr
              refine HT.skip ?_
              obtain ⟨e32, hr⟩ := ck_some hr
              refine HT.text (l := ⟨_, true, .raw (.int .i64 y18)⟩ :: ⟨_, true, .raw (.int .i64 (y18 + (1 : Int)))⟩ :: ⟨_, true, .raw (.int .i64 (y18 + (1 : Int)))⟩ :: []) (tl := []) (by kernel_rfl) (by kernel_rfl) (by kernel_rfl) ?_ ?_
              · exact
                  Obls.cons (Obl.plain rfl rfl fun R' w' hw hs hd => by have a0 : R' 4 = .int .i64 y18 := (hs 4 rfl).trans h4; exact of_move a0) <|
                  Obls.cons (Obl.plain rfl rfl fun R' w' hw hs hd => by have a0 : R' 39 = .int .i64 y18 := hd 0 _ _ _ rfl rfl rfl rfl rfl; exact of_add a0 rfl e32) <|
                  Obls.cons (Obl.plain rfl rfl fun R' w' hw hs hd => by have a0 : R' 40 = .int .i64 (y18 + (1 : Int)) := hd 0 _ _ _ rfl rfl rfl rfl rfl; exact of_assign a0) <|
                  Obls.nil
              intro R w hw hs hF'
              replace h0 : R 0 = v0 := (hs 0 rfl).trans h0
              replace h3 : R 3 = .int .i64 y4 := (hs 3 rfl).trans h3
              have h4 : R 4 = .int .i64 (y18 + (1 : Int)) := hF' 2 _ _ rfl rfl rfl
              replace f_v0 := f_v0.fr hw
              replace hA := hA.fr hw.size
              replace hF := hF.trans hw
              clear hs hF' hw
              refine seqR_nil ?_
              exact Exists.intro k (And.intro (Nat.lt_succ_self k) ⟨_, hr, hA, hF, h0, h3, h4, f_v0⟩)
          · have hr := cnd_f c20 hr
            refine HT.exit ?_
            obtain rfl := Option.some.inj hr
            exact Exists.intro _ ⟨rfl, hA, hF, h0, h3, f_v0⟩
        rintro R w ⟨s17, rfl, hA, hF, h0, h3, f_v0⟩
        have hr := exM_go hr
        obtain ⟨e33, hr⟩ := ck_some hr
        refine HT.text (l := ⟨_, true, .raw (.int .i64 y4)⟩ :: ⟨_, true, .raw (.int .i64 (y4 + (1 : Int)))⟩ :: ⟨_, true, .raw (.int .i64 (y4 + (1 : Int)))⟩ :: []) (tl := []) (by kernel_rfl) (by kernel_rfl) (by kernel_rfl) ?_ ?_
        · exact
            Obls.cons (Obl.plain rfl rfl fun R' w' hw hs hd => by have a0 : R' 3 = .int .i64 y4 := (hs 3 rfl).trans h3; exact of_move a0) <|
            Obls.cons (Obl.plain rfl rfl fun R' w' hw hs hd => by have a0 : R' 9 = .int .i64 y4 := hd 0 _ _ _ rfl rfl rfl rfl rfl; exact of_add a0 rfl e33) <|
            Obls.cons (Obl.plain rfl rfl fun R' w' hw hs hd => by have a0 : R' 10 = .int .i64 (y4 + (1 : Int)) := hd 0 _ _ _ rfl rfl rfl rfl rfl; exact of_assign a0) <|
            Obls.nil
        intro R w hw hs hF'
        replace h0 : R 0 = v0 := (hs 0 rfl).trans h0
        have h3 : R 3 = .int .i64 (y4 + (1 : Int)) := hF' 2 _ _ rfl rfl rfl
        replace f_v0 := f_v0.fr hw
        replace hA := hA.fr hw.size
        replace hF := hF.trans hw
        clear hs hF' hw
        refine seqR_nil ?_
        exact Exists.intro k (And.intro (Nat.lt_succ_self k) ⟨_, hr, hA, hF, h0, h3, f_v0⟩)
    · have hr := cnd_f c5 hr
      refine HT.exit ?_
      obtain rfl := Option.some.inj hr
      exact Exists.intro _ ⟨rfl, hA, hF⟩
  rintro R w ⟨s3, rfl, hA, hF⟩
  have hr := exM_go hr
  refine HT.seq ?_
  refine HT.text (l := ⟨_, true, .raw (.bool true)⟩ :: []) (tl := []) (by kernel_rfl) (by kernel_rfl) (by kernel_rfl) ?_ ?_
  · exact
      Obls.cons (Obl.plain rfl rfl fun R' w' hw hs hd => by exact of_assign rfl) <|
      Obls.nil
  intro R w hw hs hF'
  have h2 : R 2 = .bool true := hF' 0 _ _ rfl rfl rfl
  replace hA := hA.fr hw.size
  replace hF := hF.trans hw
  clear hs hF' hw
  refine seqR_nil ?_
  refine HT.ret ?_
  obtain rfl := Option.some.inj hr
  exact ⟨.inr rfl, [R 2], ⟨rfl, trivial⟩, h2, hF⟩
def M_spec_IsTokenTable_L0 (fu : Nat) (p0 : List T_impl_TokenCount) : Nat → Int → Option (Ex Bool Unit)
  | 0, _ => none
  | k + 1, y4 =>
    bif (decide (y4 < (p0.length : Int))) then (
      ck (inR y4 p0.length) <|
      ck (!((true && ((decide (((gtD p0 y4).2) < (1 : Int))) == false)) && ((decide ((0 : Int) < y4)) == true)) || i64B (y4 - (1 : Int))) <|
      ck (!((true && ((decide (((gtD p0 y4).2) < (1 : Int))) == false)) && ((decide ((0 : Int) < y4)) == true)) || inR (y4 - (1 : Int)) p0.length) <|
      ck (!((true && ((decide (((gtD p0 y4).2) < (1 : Int))) == false)) && ((decide ((0 : Int) < y4)) == true)) || inR y4 p0.length) <|
      bd ((decide ((0 : Int) < y4)) && (!(bLt ((gtD p0 (y4 - (1 : Int))).1) ((gtD p0 y4).1)))) fun x10 =>
      bd ((decide (((gtD p0 y4).2) < (1 : Int))) || x10) fun x12 =>
      bif x12 then (
        some (Ex.ret false)
      ) else (
        ck (i64B (y4 + (1 : Int))) <|
        M_spec_IsTokenTable_L0 fu p0 k (y4 + (1 : Int))
      )
    ) else (
      some (Ex.go ())
    )
def M_spec_IsTokenTable (fu : Nat) (p0 : List T_impl_TokenCount) : Option Bool :=
  cl true (M_spec_IsTokenTable_L0 fu p0 fu (0 : Int)) fun rl1 =>
  exM rl1 (fun r => some r) fun s3 =>
  some true
set_option maxRecDepth 100000 in
set_option maxHeartbeats 4000000 in
theorem M_spec_IsTokenTable_ok {fu : Nat} {A : Av} {p0 : List T_impl_TokenCount} {r : Bool} (hr : M_spec_IsTokenTable fu p0 = some r) {w : World} {v0 : Value} (hA : AvOK A w) (h0 : Rep (eSl E_impl_TokenCount) A w v0 p0) :
    Calls Try.prog 44 #[v0] w fun e w' => ∃ v, e = .returned v ∧ (v = .bool r ∧ Fr w w') := by
  unfold M_spec_IsTokenTable at hr
  obtain ⟨w0, hw0⟩ : ∃ w0, w0 = w := ⟨_, rfl⟩
  have hF : Fr w0 w := hw0 ▸ Fr.refl _
  rw [show Fr w = Fr w0 from hw0 ▸ rfl]
  clear hw0
  refine calls_of_HT2 [.tmp 2] Try.func44 Try.ntmps44 (by decide) rfl rfl (Nat.le_of_ble_eq_true rfl) ?_
  intro R hR
  have f_v0 := h0
  replace h0 : R 0 = v0 := hR 0 _ rfl
  clear hR
  refine HT.seq ?_
  refine HT.text (l := ⟨_, true, .raw (.bool false)⟩ :: []) (tl := []) (by kernel_rfl) (by kernel_rfl) (by kernel_rfl) ?_ ?_
  · exact
      Obls.cons (Obl.plain rfl rfl fun R' w' hw hs hd => by exact of_assign rfl) <|
      Obls.nil
  intro R w hw hs hF'
  replace h0 : R 0 = v0 := (hs 0 rfl).trans h0
  replace f_v0 := f_v0.fr hw
  replace hA := hA.fr hw.size
  replace hF := hF.trans hw
  clear hs hF' hw
  refine seqR_nil ?_
  refine HT.seq ?_
  refine HT.seq ?_
  refine HT.text (l := ⟨_, true, .raw (.int .i64 (0 : Int))⟩ :: []) (tl := []) (by kernel_rfl) (by kernel_rfl) (by kernel_rfl) ?_ ?_
  · exact
      Obls.cons (Obl.plain rfl rfl fun R' w' hw hs hd => by exact of_assign rfl) <|
      Obls.nil
  intro R w hw hs hF'
  replace h0 : R 0 = v0 := (hs 0 rfl).trans h0
  have h3 : R 3 = .int .i64 (0 : Int) := hF' 0 _ _ rfl rfl rfl
  replace f_v0 := f_v0.fr hw
  replace hA := hA.fr hw.size
  replace hF := hF.trans hw
  clear hs hF' hw
  refine seqR_nil ?_
  obtain ⟨rl1, q2, hr⟩ := cl_some hr
  replace q2 := q2 rfl
  refine HT.cut0 (fun R w => ∃ (s3 : Unit), rl1 = Ex.go s3 ∧ AvOK A w ∧ Fr w0 w) ?_ ?_
  · refine HT.block ?_
    refine HT.loop (fun k R w => ∃ (y4 : Int), M_spec_IsTokenTable_L0 fu p0 k y4 = some rl1 ∧ AvOK A w ∧ Fr w0 w ∧ R 0 = v0 ∧ R 3 = .int .i64 y4 ∧ Rep (eSl E_impl_TokenCount) A w v0 p0) fu ⟨_, q2, hA, hF, h0, h3, f_v0⟩ ?_
    have hr0 := hr; clear hr q2
    rintro k R w ⟨y4, hr, hA, hF, h0, h3, f_v0⟩
    rcases k with _ | k
    · cases (show none = some _ from hr)
    rw [M_spec_IsTokenTable_L0] at hr
    refine HT.seq ?_
    refine HT.seq ?_
    refine HT.text (l := ⟨_, true, .raw (.int .i64 y4)⟩ :: ⟨_, true, .raw v0⟩ :: ⟨_, true, .raw (.int .i64 (p0.length : Int))⟩ :: ⟨_, true, .raw (.bool (decide (y4 < (p0.length : Int))))⟩ :: []) (tl := []) (by kernel_rfl) (by kernel_rfl) (by kernel_rfl) ?_ ?_
    · exact
        Obls.cons (Obl.plain rfl rfl fun R' w' hw hs hd => by have a0 : R' 3 = .int .i64 y4 := (hs 3 rfl).trans h3; exact of_move a0) <|
        Obls.cons (Obl.plain rfl rfl fun R' w' hw hs hd => by have a0 : R' 0 = v0 := (hs 0 rfl).trans h0; exact of_move a0) <|
        Obls.cons (Obl.plain rfl rfl fun R' w' hw hs hd => by have a0 : R' 5 = v0 := hd 0 _ _ _ rfl rfl rfl rfl rfl; have ra0 := (f_v0.fr hw).eq a0; exact of_len_sl (aT := #[]) ra0 Try.underlying27) <|
        Obls.cons (Obl.plain rfl rfl fun R' w' hw hs hd => by have a0 : R' 4 = .int .i64 y4 := hd 0 _ _ _ rfl rfl rfl rfl rfl; have a1 : R' 6 = .int .i64 (p0.length : Int) := hd 1 _ _ _ rfl rfl rfl rfl rfl; exact of_lss a0 a1) <|
        Obls.nil
    intro R w hw hs hF'
    replace h0 : R 0 = v0 := (hs 0 rfl).trans h0
    replace h3 : R 3 = .int .i64 y4 := (hs 3 rfl).trans h3
    have h7 : R 7 = .bool (decide (y4 < (p0.length : Int))) := hF' 3 _ _ rfl rfl rfl
    replace f_v0 := f_v0.fr hw
    replace hA := hA.fr hw.size
    replace hF := hF.trans hw
    clear hs hF' hw
    refine seqR_nil ?_
    refine HT.cond (decide (y4 < (p0.length : Int))) h7 (fun c5 => ?_) (fun c5 => ?_)
    · have hr := cnd_t c5 hr
      refine HT.skip ?_
      refine HT.seq ?_
      refine HT.block ?_
      refine HT.seq ?_
      obtain ⟨e6, hr⟩ := ck_some hr
      obtain ⟨e7, hr⟩ := ck_some hr
      obtain ⟨e8, hr⟩ := ck_some hr
      obtain ⟨e9, hr⟩ := ck_some hr
      obtain ⟨x10, q11, hr⟩ := bd_some hr
      obtain ⟨x12, q13, hr⟩ := bd_some hr
      refine HT.draw (by kernel_rfl) (l := ⟨_, true, .raw v0⟩ :: ⟨_, true, .raw (.int .i64 y4)⟩ :: ⟨_, true, .qtr E_impl_TokenCount A (gtD p0 y4)⟩ :: ⟨_, true, .qtr (eInt .i64) A ((gtD p0 y4).2)⟩ :: ⟨_, true, .raw (.int .i64 ((gtD p0 y4).2))⟩ :: ⟨_, true, .raw (.bool (decide (((gtD p0 y4).2) < (1 : Int))))⟩ :: ⟨_, true, .raw (.bool (decide (((gtD p0 y4).2) < (1 : Int))))⟩ :: ⟨_, (true && ((decide (((gtD p0 y4).2) < (1 : Int))) == false)), .raw (.int .i64 y4)⟩ :: ⟨_, (true && ((decide (((gtD p0 y4).2) < (1 : Int))) == false)), .raw (.bool (decide ((0 : Int) < y4)))⟩ :: ⟨_, (true && ((decide (((gtD p0 y4).2) < (1 : Int))) == false)), .raw (.bool (decide ((0 : Int) < y4)))⟩ :: ⟨_, ((true && ((decide (((gtD p0 y4).2) < (1 : Int))) == false)) && ((decide ((0 : Int) < y4)) == true)), .raw v0⟩ :: ⟨_, ((true && ((decide (((gtD p0 y4).2) < (1 : Int))) == false)) && ((decide ((0 : Int) < y4)) == true)), .raw (.int .i64 y4)⟩ :: ⟨_, ((true && ((decide (((gtD p0 y4).2) < (1 : Int))) == false)) && ((decide ((0 : Int) < y4)) == true)), .raw (.int .i64 (y4 - (1 : Int)))⟩ :: ⟨_, ((true && ((decide (((gtD p0 y4).2) < (1 : Int))) == false)) && ((decide ((0 : Int) < y4)) == true)), .qtr E_impl_TokenCount A (gtD p0 (y4 - (1 : Int)))⟩ :: ⟨_, ((true && ((decide (((gtD p0 y4).2) < (1 : Int))) == false)) && ((decide ((0 : Int) < y4)) == true)), .qtr eStr A ((gtD p0 (y4 - (1 : Int))).1)⟩ :: ⟨_, ((true && ((decide (((gtD p0 y4).2) < (1 : Int))) == false)) && ((decide ((0 : Int) < y4)) == true)), .rep eStr A ((gtD p0 (y4 - (1 : Int))).1)⟩ :: ⟨_, ((true && ((decide (((gtD p0 y4).2) < (1 : Int))) == false)) && ((decide ((0 : Int) < y4)) == true)), .raw v0⟩ :: ⟨_, ((true && ((decide (((gtD p0 y4).2) < (1 : Int))) == false)) && ((decide ((0 : Int) < y4)) == true)), .raw (.int .i64 y4)⟩ :: ⟨_, ((true && ((decide (((gtD p0 y4).2) < (1 : Int))) == false)) && ((decide ((0 : Int) < y4)) == true)), .qtr E_impl_TokenCount A (gtD p0 y4)⟩ :: ⟨_, ((true && ((decide (((gtD p0 y4).2) < (1 : Int))) == false)) && ((decide ((0 : Int) < y4)) == true)), .qtr eStr A ((gtD p0 y4).1)⟩ :: ⟨_, ((true && ((decide (((gtD p0 y4).2) < (1 : Int))) == false)) && ((decide ((0 : Int) < y4)) == true)), .rep eStr A ((gtD p0 y4).1)⟩ :: ⟨_, ((true && ((decide (((gtD p0 y4).2) < (1 : Int))) == false)) && ((decide ((0 : Int) < y4)) == true)), .raw (.bool (!(bLt ((gtD p0 (y4 - (1 : Int))).1) ((gtD p0 y4).1))))⟩ :: ⟨_, (true && ((decide (((gtD p0 y4).2) < (1 : Int))) == false)), .raw (.bool x10)⟩ :: ⟨_, true, .raw (.bool x12)⟩ :: []) (tl := []) (by kernel_rfl) (by kernel_rfl) (by kernel_rfl) (by kernel_rfl) ?_ ?_
      · exact
          Obls.cons (Obl.plain rfl rfl fun R' w' hw hs hd => by have a0 : R' 0 = v0 := (hs 0 rfl).trans h0; exact of_move a0) <|
          Obls.cons (Obl.plain rfl rfl fun R' w' hw hs hd => by have a0 : R' 3 = .int .i64 y4 := (hs 3 rfl).trans h3; exact of_move a0) <|
          Obls.cons (Obl.plain rfl rfl fun R' w' hw hs hd => by have a0 : R' 10 = v0 := hd 0 _ _ _ rfl rfl rfl rfl rfl; have a1 : R' 11 = .int .i64 y4 := hd 1 _ _ _ rfl rfl rfl rfl rfl; have ra0 := (f_v0.fr hw).eq a0; exact of_indexAddr ra0 a1 Try.underlying27 Try.sizeOf70 e6) <|
          Obls.cons (Obl.plain rfl rfl fun R' w' hw hs hd => by have a0 : QRep E_impl_TokenCount A w' (R' 12) (gtD p0 y4) := hd 0 _ _ _ rfl rfl rfl rfl rfl; exact of_fieldAddr_q a0 ff_70_1 Try.sizeOf3 (by decide) fl_impl_TokenCount_1 rfl) <|
          Obls.cons (Obl.plain rfl rfl fun R' w' hw hs hd => by have a0 : QRep (eInt .i64) A w' (R' 13) ((gtD p0 y4).2) := hd 0 _ _ _ rfl rfl rfl rfl rfl; exact OpF.int (of_load a0.ptr Try.isAgg3 Try.sizeOf3)) <|
          Obls.cons (Obl.plain rfl rfl fun R' w' hw hs hd => by have a0 : R' 14 = .int .i64 ((gtD p0 y4).2) := hd 0 _ _ _ rfl rfl rfl rfl rfl; exact of_lss a0 rfl) <|
          Obls.cons (Obl.plain rfl rfl fun R' w' hw hs hd => by have a0 : R' 15 = .bool (decide (((gtD p0 y4).2) < (1 : Int))) := hd 0 _ _ _ rfl rfl rfl rfl rfl; exact of_move a0) <|
          Obls.cons (Obl.grd 6 false _ _ _ rfl rfl rfl rfl rfl (by kernel_rfl) fun hg R' w' hw hs hd => by have a0 : R' 3 = .int .i64 y4 := (hs 3 rfl).trans h3; exact of_move a0) <|
          Obls.cons (Obl.grd 6 false _ _ _ rfl rfl rfl rfl rfl (by kernel_rfl) fun hg R' w' hw hs hd => by have a0 : R' 17 = .int .i64 y4 := hd 0 _ _ _ rfl rfl rfl rfl hg; exact of_gtr a0 rfl) <|
          Obls.cons (Obl.grd 6 false _ _ _ rfl rfl rfl rfl rfl (by kernel_rfl) fun hg R' w' hw hs hd => by have a0 : R' 18 = .bool (decide ((0 : Int) < y4)) := hd 0 _ _ _ rfl rfl rfl rfl hg; exact of_move a0) <|
          Obls.cons (Obl.grd 9 true _ _ _ rfl rfl rfl rfl rfl (by kernel_rfl) fun hg R' w' hw hs hd => by have a0 : R' 0 = v0 := (hs 0 rfl).trans h0; exact of_move a0) <|
          Obls.cons (Obl.grd 9 true _ _ _ rfl rfl rfl rfl rfl (by kernel_rfl) fun hg R' w' hw hs hd => by have a0 : R' 3 = .int .i64 y4 := (hs 3 rfl).trans h3; exact of_move a0) <|
          Obls.cons (Obl.grd 9 true _ _ _ rfl rfl rfl rfl rfl (by kernel_rfl) fun hg R' w' hw hs hd => by have a0 : R' 21 = .int .i64 y4 := hd 0 _ _ _ rfl rfl rfl rfl hg; exact of_sub a0 rfl (gd e7 hg)) <|
          Obls.cons (Obl.grd 9 true _ _ _ rfl rfl rfl rfl rfl (by kernel_rfl) fun hg R' w' hw hs hd => by have a0 : R' 20 = v0 := hd 0 _ _ _ rfl rfl rfl rfl hg; have a1 : R' 22 = .int .i64 (y4 - (1 : Int)) := hd 1 _ _ _ rfl rfl rfl rfl hg; have ra0 := (f_v0.fr hw).eq a0; exact of_indexAddr ra0 a1 Try.underlying27 Try.sizeOf70 (gd e8 hg)) <|
          Obls.cons (Obl.grd 9 true _ _ _ rfl rfl rfl rfl rfl (by kernel_rfl) fun hg R' w' hw hs hd => by have a0 : QRep E_impl_TokenCount A w' (R' 23) (gtD p0 (y4 - (1 : Int))) := hd 0 _ _ _ rfl rfl rfl rfl hg; exact of_fieldAddr_q a0 ff_70_0 Try.sizeOf9 (by decide) fl_impl_TokenCount_0 rfl) <|
          Obls.cons (Obl.grd 9 true _ _ _ rfl rfl rfl rfl rfl (by kernel_rfl) fun hg R' w' hw hs hd => by have a0 : QRep eStr A w' (R' 24) ((gtD p0 (y4 - (1 : Int))).1) := hd 0 _ _ _ rfl rfl rfl rfl hg; exact (of_load a0.ptr Try.isAgg9 Try.sizeOf9)) <|
          Obls.cons (Obl.grd 9 true _ _ _ rfl rfl rfl rfl rfl (by kernel_rfl) fun hg R' w' hw hs hd => by have a0 : R' 0 = v0 := (hs 0 rfl).trans h0; exact of_move a0) <|
          Obls.cons (Obl.grd 9 true _ _ _ rfl rfl rfl rfl rfl (by kernel_rfl) fun hg R' w' hw hs hd => by have a0 : R' 3 = .int .i64 y4 := (hs 3 rfl).trans h3; exact of_move a0) <|
          Obls.cons (Obl.grd 9 true _ _ _ rfl rfl rfl rfl rfl (by kernel_rfl) fun hg R' w' hw hs hd => by have a0 : R' 26 = v0 := hd 0 _ _ _ rfl rfl rfl rfl hg; have a1 : R' 27 = .int .i64 y4 := hd 1 _ _ _ rfl rfl rfl rfl hg; have ra0 := (f_v0.fr hw).eq a0; exact of_indexAddr ra0 a1 Try.underlying27 Try.sizeOf70 (gd e9 hg)) <|
          Obls.cons (Obl.grd 9 true _ _ _ rfl rfl rfl rfl rfl (by kernel_rfl) fun hg R' w' hw hs hd => by have a0 : QRep E_impl_TokenCount A w' (R' 28) (gtD p0 y4) := hd 0 _ _ _ rfl rfl rfl rfl hg; exact of_fieldAddr_q a0 ff_70_0 Try.sizeOf9 (by decide) fl_impl_TokenCount_0 rfl) <|
          Obls.cons (Obl.grd 9 true _ _ _ rfl rfl rfl rfl rfl (by kernel_rfl) fun hg R' w' hw hs hd => by have a0 : QRep eStr A w' (R' 29) ((gtD p0 y4).1) := hd 0 _ _ _ rfl rfl rfl rfl hg; exact (of_load a0.ptr Try.isAgg9 Try.sizeOf9)) <|
          Obls.cons (Obl.grd 9 true _ _ _ rfl rfl rfl rfl rfl (by kernel_rfl) fun hg R' w' hw hs hd => by have a0 : Rep eStr A w' (R' 25) ((gtD p0 (y4 - (1 : Int))).1) := hd 0 _ _ _ rfl rfl rfl rfl hg; have a1 : Rep eStr A w' (R' 30) ((gtD p0 y4).1) := hd 1 _ _ _ rfl rfl rfl rfl hg; exact of_sgeq a0 a1) <|
          Obls.cons (Obl.grd 6 false _ _ _ rfl rfl rfl rfl rfl (by kernel_rfl) fun hg R' w' hw hs hd => by have a0 : R' 19 = .bool (decide ((0 : Int) < y4)) := hd 0 _ _ _ rfl rfl rfl rfl hg; exact of_pick (decide ((0 : Int) < y4)) a0 (fun hc => by have a1 : R' 31 = .bool (!(bLt ((gtD p0 (y4 - (1 : Int))).1) ((gtD p0 y4).1))) := hd 1 _ _ _ rfl rfl rfl rfl (g_and hg (beq_of hc)); show _ = Value.bool x10; rw [q11, hc]; exact a1) (fun hc => by show _ = Value.bool x10; rw [q11, hc]; exact rfl)) <|
          Obls.cons (Obl.plain rfl rfl fun R' w' hw hs hd => by have a0 : R' 16 = .bool (decide (((gtD p0 y4).2) < (1 : Int))) := hd 0 _ _ _ rfl rfl rfl rfl rfl; exact of_pick (decide (((gtD p0 y4).2) < (1 : Int))) a0 (fun hc => by show _ = Value.bool x12; rw [q13, hc]; exact rfl) (fun hc => by have a2 : R' 32 = .bool x10 := hd 1 _ _ _ rfl rfl rfl rfl (g_and rfl (beq_of hc)); show _ = Value.bool x12; rw [q13, hc]; exact a2)) <|
          Obls.nil
      intro R w hw hs hF'
      replace h0 : R 0 = v0 := (hs 0 rfl).trans h0
      replace h3 : R 3 = .int .i64 y4 := (hs 3 rfl).trans h3
      have h33 : R 33 = .bool x12 := hF' 23 _ _ rfl rfl rfl
      replace f_v0 := f_v0.fr hw
      replace hA := hA.fr hw.size
      replace hF := hF.trans hw
      clear hs hF' hw
      refine seqR_nil ?_
      refine HT.cond x12 h33 (fun c14 => ?_) (fun c14 => ?_)
      · have hr := cnd_t c14 hr
        refine HT.seq ?_
        refine HT.text (l := ⟨_, true, .raw (.bool false)⟩ :: []) (tl := []) (by kernel_rfl) (by kernel_rfl) (by kernel_rfl) ?_ ?_
        · exact
            Obls.cons (Obl.plain rfl rfl fun R' w' hw hs hd => by exact of_assign rfl) <|
            Obls.nil
        intro R w hw hs hF'
        have h2 : R 2 = .bool false := hF' 0 _ _ rfl rfl rfl
        replace hA := hA.fr hw.size
        replace hF := hF.trans hw
        clear hs hF' hw
        refine seqR_nil ?_
        refine HT.ret ?_
        obtain rfl := Option.some.inj hr
        have hr := hr0
        replace hr : some _ = some _ := hr
        obtain rfl := Option.some.inj hr
        exact ⟨.inr rfl, [R 2], ⟨rfl, trivial⟩, h2, hF⟩
      · have hr := cnd_f c14 hr
        refine HT.skip ?_
        obtain ⟨e15, hr⟩ := ck_some hr
        refine HT.text (l := ⟨_, true, .raw (.int .i64 y4)⟩ :: ⟨_, true, .raw (.int .i64 (y4 + (1 : Int)))⟩ :: ⟨_, true, .raw (.int .i64 (y4 + (1 : Int)))⟩ :: []) (tl := []) (by kernel_rfl) (by kernel_rfl) (by kernel_rfl) ?_ ?_
        · exact
            Obls.cons (Obl.plain rfl rfl fun R' w' hw hs hd => by have a0 : R' 3 = .int .i64 y4 := (hs 3 rfl).trans h3; exact of_move a0) <|
            Obls.cons (Obl.plain rfl rfl fun R' w' hw hs hd => by have a0 : R' 8 = .int .i64 y4 := hd 0 _ _ _ rfl rfl rfl rfl rfl; exact of_add a0 rfl e15) <|
            Obls.cons (Obl.plain rfl rfl fun R' w' hw hs hd => by have a0 : R' 9 = .int .i64 (y4 + (1 : Int)) := hd 0 _ _ _ rfl rfl rfl rfl rfl; exact of_assign a0) <|
            Obls.nil
        intro R w hw hs hF'
        replace h0 : R 0 = v0 := (hs 0 rfl).trans h0
        have h3 : R 3 = .int .i64 (y4 + (1 : Int)) := hF' 2 _ _ rfl rfl rfl
        replace f_v0 := f_v0.fr hw
        replace hA := hA.fr hw.size
        replace hF := hF.trans hw
        clear hs hF' hw
        refine seqR_nil ?_
        exact Exists.intro k (And.intro (Nat.lt_succ_self k) ⟨_, hr, hA, hF, h0, h3, f_v0⟩)
    · have hr := cnd_f c5 hr
      refine HT.exit ?_
      obtain rfl := Option.some.inj hr
      exact Exists.intro _ ⟨rfl, hA, hF⟩
  rintro R w ⟨s3, rfl, hA, hF⟩
  have hr := exM_go hr
  refine HT.seq ?_
  refine HT.text (l := ⟨_, true, .raw (.bool true)⟩ :: []) (tl := []) (by kernel_rfl) (by kernel_rfl) (by kernel_rfl) ?_ ?_
  · exact
      Obls.cons (Obl.plain rfl rfl fun R' w' hw hs hd => by exact of_assign rfl) <|
      Obls.nil
  intro R w hw hs hF'
  have h2 : R 2 = .bool true := hF' 0 _ _ rfl rfl rfl
  replace hA := hA.fr hw.size
  replace hF := hF.trans hw
  clear hs hF' hw
  refine seqR_nil ?_
  refine HT.ret ?_
  obtain rfl := Option.some.inj hr
  exact ⟨.inr rfl, [R 2], ⟨rfl, trivial⟩, h2, hF⟩
def M_spec_IsValidSetIndex_L0 (fu : Nat) (p0 : T_impl_SetIndex) : Nat → Int → Option (Ex Bool Unit)
  | 0, _ => none
  | k + 1, y5 =>
    bif (decide (y5 < (p0.2.2.length : Int))) then (
      ck (inR y5 p0.2.2.length) <|
      cl true (M_spec_l1In fu ((gtD p0.2.2 y5).1) (0 : Int) (999 : Int)) fun x8 =>
      ck (!(true && ((!x8) == false)) || inR y5 p0.2.2.length) <|
      cl (true && ((!x8) == false)) (M_spec_IsTokenSet fu ((gtD p0.2.2 y5).2)) fun x11 =>
      bd ((!x8) || (!x11)) fun x13 =>
      ck (!((true && (x13 == false)) && ((decide ((0 : Int) < y5)) == true)) || i64B (y5 - (1 : Int))) <|
      ck (!((true && (x13 == false)) && ((decide ((0 : Int) < y5)) == true)) || inR (y5 - (1 : Int)) p0.2.2.length) <|
      ck (!((true && (x13 == false)) && ((decide ((0 : Int) < y5)) == true)) || inR y5 p0.2.2.length) <|
      bd ((decide ((0 : Int) < y5)) && (decide (((gtD p0.2.2 y5).1) ≤ ((gtD p0.2.2 (y5 - (1 : Int))).1)))) fun x18 =>
      bd (x13 || x18) fun x20 =>
      bif x20 then (
        some (Ex.ret false)
      ) else (
        ck (i64B (y5 + (1 : Int))) <|
        M_spec_IsValidSetIndex_L0 fu p0 k (y5 + (1 : Int))
      )
    ) else (
      some (Ex.go ())
    )
def M_spec_IsValidSetIndex (fu : Nat) (p0 : T_impl_SetIndex) : Option Bool :=
  cl true (M_spec_IsValidSetIndex_L0 fu p0 fu (0 : Int)) fun rl2 =>
  exM rl2 (fun r => some r) fun s4 =>
  cl true (M_spec_IsTokenTable fu p0.2.1) fun x24 =>
  cl (true && (x24 == true)) (M_spec_l1In fu p0.1 (1 : Int) (1000 : Int)) fun x26 =>
  bd (x24 && x26) fun x28 =>
  bd (x28 && (decide ((p0.2.2.length : Int) ≤ (12 : Int)))) fun x30 =>
  some x30
set_option maxRecDepth 100000 in
set_option maxHeartbeats 4000000 in
theorem M_spec_IsValidSetIndex_ok {fu : Nat} {A0 : Av} {p0 : T_impl_SetIndex} {r : Bool} (hr : M_spec_IsValidSetIndex fu p0 = some r) {w : World} {v0 : Value} (hA : AvOK A0 w) (h0 : Rep E_impl_SetIndex A0 w v0 p0) :
    Calls Try.prog 22 #[v0] w fun e w' => ∃ v, e = .returned v ∧ (v = .bool r ∧ Fr w w') := by
  unfold M_spec_IsValidSetIndex at hr
  obtain ⟨w0, hw0⟩ : ∃ w0, w0 = w := ⟨_, rfl⟩
  have hF : Fr w0 w := hw0 ▸ Fr.refl _
  have hA0 : ∀ b o, A0 b o → b < w0.heap.size := fun b o h => hw0 ▸ hA b o h
  have hA00 : AvOK A0 w0 := hA0
  rw [show Fr w = Fr w0 from hw0 ▸ rfl]
  clear hw0
  obtain ⟨A, hAe⟩ : ∃ A, A = A0 := ⟨_, rfl⟩
  have hAA : ∀ b o, A0 b o → A b o := fun b o h => hAe ▸ h
  replace hA : AvOK A w := hAe ▸ hA
  have hO : IniOK [] A w := IniOK.nil
  refine calls_of_HT2 [.tmp 2] Try.func22 Try.ntmps22 (by decide) rfl rfl (Nat.le_of_ble_eq_true rfl) ?_
  intro R hR
  have f_v0 : Rep E_impl_SetIndex A w v0 p0 := hAe ▸ h0
  replace h0 : R 0 = v0 := hR 0 _ rfl
  clear hR hAe
  refine HT.seq ?_
  refine HT.textR [] (⟨_, true, [], some (.box w0.heap.size 30 E_impl_SetIndex p0), true, fun A => .any⟩ :: ⟨_, true, [], none, true, fun A => .raw (.bool false)⟩ :: []) (by kernel_rfl) (by kernel_rfl) (Wf.mk' (by kernel_rfl) (UAll.cons ust_any (UAll.cons ust_raw (UAll.nil))) (by kernel_rfl) (by kernel_rfl)) hO hA ?_ ?_
  · exact
      OblsR.cons (OblR.made _ rfl rfl rfl rfl fun A' R' w' ho hd => by have a0 : R' 0 = v0 := (ho.old 0 rfl).trans h0; have ra0 := (f_v0.stp ho.stp).eq a0; exact made_box ra0 (Nat.le_trans hF.size ho.ch.size)) <|
      OblsR.cons (OblR.plain rfl rfl rfl rfl fun A' R' w' ho hd => by exact of_assign rfl) <|
      OblsR.nil
  intro done ρ σ A R w hdn hI
  obtain ⟨b1_0, e_b1_0⟩ := hI.boxv hdn 0 rfl rfl
  have h1 : R 1 = (.pointer (some ⟨b1_0, 0, none⟩)) := (hI.opvR hdn 0 0 rfl rfl rfl rfl rfl).symm.trans e_b1_0
  replace hAA := hI.low' hAA hA0 (hO.ge (trivial))
  replace hF : Fr w0 w := hF.tr hI.ch (hO.ge (trivial))
  replace hO : IniOK [ob (.pointer (some ⟨b1_0, 0, none⟩)) (.box w0.heap.size 30 E_impl_SetIndex p0)] A w := hI.left hdn [(0, ob (.pointer (some ⟨b1_0, 0, none⟩)) (.box w0.heap.size 30 E_impl_SetIndex p0))] ⟨rfl, rfl, e_b1_0, rfl, rfl, trivial⟩
  replace hA := hI.avok
  clear hI
  refine HT.seq ?_
  refine HT.seq ?_
  refine HT.text (l := ⟨_, true, .raw (.int .i64 (0 : Int))⟩ :: []) (tl := []) (by kernel_rfl) (by kernel_rfl) (by kernel_rfl) ?_ ?_
  · exact
      Obls.cons (Obl.plain rfl rfl fun R' w' hw hs hd => by exact of_assign rfl) <|
      Obls.nil
  intro R w hw hs hF'
  replace h1 : R 1 = (.pointer (some ⟨b1_0, 0, none⟩)) := (hs 1 rfl).trans h1
  have h3 : R 3 = .int .i64 (0 : Int) := hF' 0 _ _ rfl rfl rfl
  replace hO := hO.fr hw
  replace hA := hA.fr hw.size
  replace hF := hF.trans hw
  clear hs hF' hw
  refine seqR_nil ?_
  obtain ⟨rl2, q3, hr⟩ := cl_some hr
  replace q3 := q3 rfl
  refine HT.cut0 (fun R w => ∃ A : Av, ∃ (s4 : Unit), rl2 = Ex.go s4 ∧ AvOK A w ∧ Fr w0 w ∧ (∀ b o, A0 b o → A b o) ∧ IniOK [ob (.pointer (some ⟨b1_0, 0, none⟩)) (.box w0.heap.size 30 E_impl_SetIndex p0)] A w ∧ R 1 = (.pointer (some ⟨b1_0, 0, none⟩))) ?_ ?_
  · refine HT.block ?_
    refine HT.loop (fun k R w => ∃ A : Av, ∃ (y5 : Int), M_spec_IsValidSetIndex_L0 fu p0 k y5 = some rl2 ∧ AvOK A w ∧ Fr w0 w ∧ (∀ b o, A0 b o → A b o) ∧ IniOK [ob (.pointer (some ⟨b1_0, 0, none⟩)) (.box w0.heap.size 30 E_impl_SetIndex p0)] A w ∧ R 1 = (.pointer (some ⟨b1_0, 0, none⟩)) ∧ R 3 = .int .i64 y5) fu ⟨_, _, q3, hA, hF, hAA, hO, h1, h3⟩ ?_
    have hr0 := hr; clear hr q3
    rintro k R w ⟨A, y5, hr, hA, hF, hAA, hO, h1, h3⟩
    rcases k with _ | k
    · cases (show none = some _ from hr)
    rw [M_spec_IsValidSetIndex_L0] at hr
    refine HT.seq ?_
    refine HT.seq ?_
    refine HT.text (l := ⟨_, true, .raw (.int .i64 y5)⟩ :: ⟨_, true, .raw (.pointer (some ⟨b1_0, 2, none⟩))⟩ :: ⟨_, true, .rep (eSl E_impl_IndexedSet) A p0.2.2⟩ :: ⟨_, true, .raw (.int .i64 (p0.2.2.length : Int))⟩ :: ⟨_, true, .raw (.bool (decide (y5 < (p0.2.2.length : Int))))⟩ :: []) (tl := []) (by kernel_rfl) (by kernel_rfl) (by kernel_rfl) ?_ ?_
    · exact
        Obls.cons (Obl.plain rfl rfl fun R' w' hw hs hd => by have a0 : R' 3 = .int .i64 y5 := (hs 3 rfl).trans h3; exact of_move a0) <|
        Obls.cons (Obl.plain rfl rfl fun R' w' hw hs hd => by have a0 : R' 1 = (.pointer (some ⟨b1_0, 0, none⟩)) := (hs 1 rfl).trans h1; exact of_fieldAddr_raw a0 ff_30_2 Try.sizeOf28 (by decide) rfl) <|
        Obls.cons (Obl.plain rfl rfl fun R' w' hw hs hd => by have a0 : R' 5 = (.pointer (some ⟨b1_0, 2, none⟩)) := hd 0 _ _ _ rfl rfl rfl rfl rfl; exact (of_load_box ((hO.fr hw).ok 0 _ rfl).1 a0 fl_impl_SetIndex_2 rfl Try.isAgg28 Try.sizeOf28)) <|
        Obls.cons (Obl.plain rfl rfl fun R' w' hw hs hd => by have a0 : Rep (eSl E_impl_IndexedSet) A w' (R' 6) p0.2.2 := hd 0 _ _ _ rfl rfl rfl rfl rfl; exact of_len_sl (aT := #[]) a0 Try.underlying28) <|
        Obls.cons (Obl.plain rfl rfl fun R' w' hw hs hd => by have a0 : R' 4 = .int .i64 y5 := hd 0 _ _ _ rfl rfl rfl rfl rfl; have a1 : R' 7 = .int .i64 (p0.2.2.length : Int) := hd 1 _ _ _ rfl rfl rfl rfl rfl; exact of_lss a0 a1) <|
        Obls.nil
    intro R w hw hs hF'
    replace h1 : R 1 = (.pointer (some ⟨b1_0, 0, none⟩)) := (hs 1 rfl).trans h1
    replace h3 : R 3 = .int .i64 y5 := (hs 3 rfl).trans h3
    have h8 : R 8 = .bool (decide (y5 < (p0.2.2.length : Int))) := hF' 4 _ _ rfl rfl rfl
    replace hO := hO.fr hw
    replace hA := hA.fr hw.size
    replace hF := hF.trans hw
    clear hs hF' hw
    refine seqR_nil ?_
    refine HT.cond (decide (y5 < (p0.2.2.length : Int))) h8 (fun c6 => ?_) (fun c6 => ?_)
    · have hr := cnd_t c6 hr
      refine HT.skip ?_
      refine HT.seq ?_
      refine HT.block ?_
      refine HT.seq ?_
      obtain ⟨e7, hr⟩ := ck_some hr
      obtain ⟨x8, q9, hr⟩ := cl_some hr
      obtain ⟨e10, hr⟩ := ck_some hr
      obtain ⟨x11, q12, hr⟩ := cl_some hr
      obtain ⟨x13, q14, hr⟩ := bd_some hr
      obtain ⟨e15, hr⟩ := ck_some hr
      obtain ⟨e16, hr⟩ := ck_some hr
      obtain ⟨e17, hr⟩ := ck_some hr
      obtain ⟨x18, q19, hr⟩ := bd_some hr
      obtain ⟨x20, q21, hr⟩ := bd_some hr
      refine HT.draw (by kernel_rfl) (l := ⟨_, true, .raw (.pointer (some ⟨b1_0, 2, none⟩))⟩ :: ⟨_, true, .rep (eSl E_impl_IndexedSet) A p0.2.2⟩ :: ⟨_, true, .raw (.int .i64 y5)⟩ :: ⟨_, true, .qtr E_impl_IndexedSet A (gtD p0.2.2 y5)⟩ :: ⟨_, true, .qtr (eInt .i64) A ((gtD p0.2.2 y5).1)⟩ :: ⟨_, true, .raw (.int .i64 ((gtD p0.2.2 y5).1))⟩ :: ⟨_, true, .raw (.bool x8)⟩ :: ⟨_, true, .raw (.bool (!x8))⟩ :: ⟨_, true, .raw (.bool (!x8))⟩ :: ⟨_, (true && ((!x8) == false)), .raw (.pointer (some ⟨b1_0, 2, none⟩))⟩ :: ⟨_, (true && ((!x8) == false)), .rep (eSl E_impl_IndexedSet) A p0.2.2⟩ :: ⟨_, (true && ((!x8) == false)), .raw (.int .i64 y5)⟩ :: ⟨_, (true && ((!x8) == false)), .qtr E_impl_IndexedSet A (gtD p0.2.2 y5)⟩ :: ⟨_, (true && ((!x8) == false)), .qtr (eSl eStr) A ((gtD p0.2.2 y5).2)⟩ :: ⟨_, (true && ((!x8) == false)), .rep (eSl eStr) A ((gtD p0.2.2 y5).2)⟩ :: ⟨_, (true && ((!x8) == false)), .raw (.bool x11)⟩ :: ⟨_, (true && ((!x8) == false)), .raw (.bool (!x11))⟩ :: ⟨_, true, .raw (.bool x13)⟩ :: ⟨_, true, .raw (.bool x13)⟩ :: ⟨_, (true && (x13 == false)), .raw (.int .i64 y5)⟩ :: ⟨_, (true && (x13 == false)), .raw (.bool (decide ((0 : Int) < y5)))⟩ :: ⟨_, (true && (x13 == false)), .raw (.bool (decide ((0 : Int) < y5)))⟩ :: ⟨_, ((true && (x13 == false)) && ((decide ((0 : Int) < y5)) == true)), .raw (.pointer (some ⟨b1_0, 2, none⟩))⟩ :: ⟨_, ((true && (x13 == false)) && ((decide ((0 : Int) < y5)) == true)), .rep (eSl E_impl_IndexedSet) A p0.2.2⟩ :: ⟨_, ((true && (x13 == false)) && ((decide ((0 : Int) < y5)) == true)), .raw (.int .i64 y5)⟩ :: ⟨_, ((true && (x13 == false)) && ((decide ((0 : Int) < y5)) == true)), .raw (.int .i64 (y5 - (1 : Int)))⟩ :: ⟨_, ((true && (x13 == false)) && ((decide ((0 : Int) < y5)) == true)), .qtr E_impl_IndexedSet A (gtD p0.2.2 (y5 - (1 : Int)))⟩ :: ⟨_, ((true && (x13 == false)) && ((decide ((0 : Int) < y5)) == true)), .qtr (eInt .i64) A ((gtD p0.2.2 (y5 - (1 : Int))).1)⟩ :: ⟨_, ((true && (x13 == false)) && ((decide ((0 : Int) < y5)) == true)), .raw (.int .i64 ((gtD p0.2.2 (y5 - (1 : Int))).1))⟩ :: ⟨_, ((true && (x13 == false)) && ((decide ((0 : Int) < y5)) == true)), .raw (.pointer (some ⟨b1_0, 2, none⟩))⟩ :: ⟨_, ((true && (x13 == false)) && ((decide ((0 : Int) < y5)) == true)), .rep (eSl E_impl_IndexedSet) A p0.2.2⟩ :: ⟨_, ((true && (x13 == false)) && ((decide ((0 : Int) < y5)) == true)), .raw (.int .i64 y5)⟩ :: ⟨_, ((true && (x13 == false)) && ((decide ((0 : Int) < y5)) == true)), .qtr E_impl_IndexedSet A (gtD p0.2.2 y5)⟩ :: ⟨_, ((true && (x13 == false)) && ((decide ((0 : Int) < y5)) == true)), .qtr (eInt .i64) A ((gtD p0.2.2 y5).1)⟩ :: ⟨_, ((true && (x13 == false)) && ((decide ((0 : Int) < y5)) == true)), .raw (.int .i64 ((gtD p0.2.2 y5).1))⟩ :: ⟨_, ((true && (x13 == false)) && ((decide ((0 : Int) < y5)) == true)), .raw (.bool (decide (((gtD p0.2.2 y5).1) ≤ ((gtD p0.2.2 (y5 - (1 : Int))).1))))⟩ :: ⟨_, (true && (x13 == false)), .raw (.bool x18)⟩ :: ⟨_, true, .raw (.bool x20)⟩ :: []) (tl := []) (by kernel_rfl) (by kernel_rfl) (by kernel_rfl) (by kernel_rfl) ?_ ?_
      · exact
          Obls.cons (Obl.plain rfl rfl fun R' w' hw hs hd => by have a0 : R' 1 = (.pointer (some ⟨b1_0, 0, none⟩)) := (hs 1 rfl).trans h1; exact of_fieldAddr_raw a0 ff_30_2 Try.sizeOf28 (by decide) rfl) <|
          Obls.cons (Obl.plain rfl rfl fun R' w' hw hs hd => by have a0 : R' 11 = (.pointer (some ⟨b1_0, 2, none⟩)) := hd 0 _ _ _ rfl rfl rfl rfl rfl; exact (of_load_box ((hO.fr hw).ok 0 _ rfl).1 a0 fl_impl_SetIndex_2 rfl Try.isAgg28 Try.sizeOf28)) <|
          Obls.cons (Obl.plain rfl rfl fun R' w' hw hs hd => by have a0 : R' 3 = .int .i64 y5 := (hs 3 rfl).trans h3; exact of_move a0) <|
          Obls.cons (Obl.plain rfl rfl fun R' w' hw hs hd => by have a0 : Rep (eSl E_impl_IndexedSet) A w' (R' 12) p0.2.2 := hd 0 _ _ _ rfl rfl rfl rfl rfl; have a1 : R' 13 = .int .i64 y5 := hd 1 _ _ _ rfl rfl rfl rfl rfl; exact of_indexAddr a0 a1 Try.underlying28 Try.sizeOf55 e7) <|
          Obls.cons (Obl.plain rfl rfl fun R' w' hw hs hd => by have a0 : QRep E_impl_IndexedSet A w' (R' 14) (gtD p0.2.2 y5) := hd 0 _ _ _ rfl rfl rfl rfl rfl; exact of_fieldAddr_q a0 ff_55_0 Try.sizeOf3 (by decide) fl_impl_IndexedSet_0 rfl) <|
          Obls.cons (Obl.plain rfl rfl fun R' w' hw hs hd => by have a0 : QRep (eInt .i64) A w' (R' 15) ((gtD p0.2.2 y5).1) := hd 0 _ _ _ rfl rfl rfl rfl rfl; exact OpF.int (of_load a0.ptr Try.isAgg3 Try.sizeOf3)) <|
          Obls.cons (Obl.plain rfl rfl fun R' w' hw hs hd => by have a0 : R' 16 = .int .i64 ((gtD p0.2.2 y5).1) := hd 0 _ _ _ rfl rfl rfl rfl rfl; exact of_call Try.call37 (M_spec_l1In_ok (q9 rfl) (hA.fr hw.size) a0 rfl rfl)) <|
          Obls.cons (Obl.plain rfl rfl fun R' w' hw hs hd => by have a0 : R' 17 = .bool x8 := hd 0 _ _ _ rfl rfl rfl rfl rfl; exact of_not a0) <|
          Obls.cons (Obl.plain rfl rfl fun R' w' hw hs hd => by have a0 : R' 18 = .bool (!x8) := hd 0 _ _ _ rfl rfl rfl rfl rfl; exact of_move a0) <|
          Obls.cons (Obl.grd 8 false _ _ _ rfl rfl rfl rfl rfl (by kernel_rfl) fun hg R' w' hw hs hd => by have a0 : R' 1 = (.pointer (some ⟨b1_0, 0, none⟩)) := (hs 1 rfl).trans h1; exact of_fieldAddr_raw a0 ff_30_2 Try.sizeOf28 (by decide) rfl) <|
          Obls.cons (Obl.grd 8 false _ _ _ rfl rfl rfl rfl rfl (by kernel_rfl) fun hg R' w' hw hs hd => by have a0 : R' 20 = (.pointer (some ⟨b1_0, 2, none⟩)) := hd 0 _ _ _ rfl rfl rfl rfl hg; exact (of_load_box ((hO.fr hw).ok 0 _ rfl).1 a0 fl_impl_SetIndex_2 rfl Try.isAgg28 Try.sizeOf28)) <|
          Obls.cons (Obl.grd 8 false _ _ _ rfl rfl rfl rfl rfl (by kernel_rfl) fun hg R' w' hw hs hd => by have a0 : R' 3 = .int .i64 y5 := (hs 3 rfl).trans h3; exact of_move a0) <|
          Obls.cons (Obl.grd 8 false _ _ _ rfl rfl rfl rfl rfl (by kernel_rfl) fun hg R' w' hw hs hd => by have a0 : Rep (eSl E_impl_IndexedSet) A w' (R' 21) p0.2.2 := hd 0 _ _ _ rfl rfl rfl rfl hg; have a1 : R' 22 = .int .i64 y5 := hd 1 _ _ _ rfl rfl rfl rfl hg; exact of_indexAddr a0 a1 Try.underlying28 Try.sizeOf55 (gd e10 hg)) <|
          Obls.cons (Obl.grd 8 false _ _ _ rfl rfl rfl rfl rfl (by kernel_rfl) fun hg R' w' hw hs hd => by have a0 : QRep E_impl_IndexedSet A w' (R' 23) (gtD p0.2.2 y5) := hd 0 _ _ _ rfl rfl rfl rfl hg; exact of_fieldAddr_q a0 ff_55_1 Try.sizeOf37 (by decide) fl_impl_IndexedSet_1 rfl) <|
          Obls.cons (Obl.grd 8 false _ _ _ rfl rfl rfl rfl rfl (by kernel_rfl) fun hg R' w' hw hs hd => by have a0 : QRep (eSl eStr) A w' (R' 24) ((gtD p0.2.2 y5).2) := hd 0 _ _ _ rfl rfl rfl rfl hg; exact (of_load a0.ptr Try.isAgg37 Try.sizeOf37)) <|
          Obls.cons (Obl.grd 8 false _ _ _ rfl rfl rfl rfl rfl (by kernel_rfl) fun hg R' w' hw hs hd => by have a0 : Rep (eSl eStr) A w' (R' 25) ((gtD p0.2.2 y5).2) := hd 0 _ _ _ rfl rfl rfl rfl hg; exact of_call Try.call36 (M_spec_IsTokenSet_ok (q12 hg) (hA.fr hw.size) a0)) <|
          Obls.cons (Obl.grd 8 false _ _ _ rfl rfl rfl rfl rfl (by kernel_rfl) fun hg R' w' hw hs hd => by have a0 : R' 26 = .bool x11 := hd 0 _ _ _ rfl rfl rfl rfl hg; exact of_not a0) <|
          Obls.cons (Obl.plain rfl rfl fun R' w' hw hs hd => by have a0 : R' 19 = .bool (!x8) := hd 0 _ _ _ rfl rfl rfl rfl rfl; exact of_pick (!x8) a0 (fun hc => by show _ = Value.bool x13; rw [q14, hc]; exact rfl) (fun hc => by have a2 : R' 27 = .bool (!x11) := hd 1 _ _ _ rfl rfl rfl rfl (g_and rfl (beq_of hc)); show _ = Value.bool x13; rw [q14, hc]; exact a2)) <|
          Obls.cons (Obl.plain rfl rfl fun R' w' hw hs hd => by have a0 : R' 28 = .bool x13 := hd 0 _ _ _ rfl rfl rfl rfl rfl; exact of_move a0) <|
          Obls.cons (Obl.grd 18 false _ _ _ rfl rfl rfl rfl rfl (by kernel_rfl) fun hg R' w' hw hs hd => by have a0 : R' 3 = .int .i64 y5 := (hs 3 rfl).trans h3; exact of_move a0) <|
          Obls.cons (Obl.grd 18 false _ _ _ rfl rfl rfl rfl rfl (by kernel_rfl) fun hg R' w' hw hs hd => by have a0 : R' 30 = .int .i64 y5 := hd 0 _ _ _ rfl rfl rfl rfl hg; exact of_gtr a0 rfl) <|
          Obls.cons (Obl.grd 18 false _ _ _ rfl rfl rfl rfl rfl (by kernel_rfl) fun hg R' w' hw hs hd => by have a0 : R' 31 = .bool (decide ((0 : Int) < y5)) := hd 0 _ _ _ rfl rfl rfl rfl hg; exact of_move a0) <|
          Obls.cons (Obl.grd 21 true _ _ _ rfl rfl rfl rfl rfl (by kernel_rfl) fun hg R' w' hw hs hd => by have a0 : R' 1 = (.pointer (some ⟨b1_0, 0, none⟩)) := (hs 1 rfl).trans h1; exact of_fieldAddr_raw a0 ff_30_2 Try.sizeOf28 (by decide) rfl) <|
          Obls.cons (Obl.grd 21 true _ _ _ rfl rfl rfl rfl rfl (by kernel_rfl) fun hg R' w' hw hs hd => by have a0 : R' 33 = (.pointer (some ⟨b1_0, 2, none⟩)) := hd 0 _ _ _ rfl rfl rfl rfl hg; exact (of_load_box ((hO.fr hw).ok 0 _ rfl).1 a0 fl_impl_SetIndex_2 rfl Try.isAgg28 Try.sizeOf28)) <|
          Obls.cons (Obl.grd 21 true _ _ _ rfl rfl rfl rfl rfl (by kernel_rfl) fun hg R' w' hw hs hd => by have a0 : R' 3 = .int .i64 y5 := (hs 3 rfl).trans h3; exact of_move a0) <|
          Obls.cons (Obl.grd 21 true _ _ _ rfl rfl rfl rfl rfl (by kernel_rfl) fun hg R' w' hw hs hd => by have a0 : R' 35 = .int .i64 y5 := hd 0 _ _ _ rfl rfl rfl rfl hg; exact of_sub a0 rfl (gd e15 hg)) <|
          Obls.cons (Obl.grd 21 true _ _ _ rfl rfl rfl rfl rfl (by kernel_rfl) fun hg R' w' hw hs hd => by have a0 : Rep (eSl E_impl_IndexedSet) A w' (R' 34) p0.2.2 := hd 0 _ _ _ rfl rfl rfl rfl hg; have a1 : R' 36 = .int .i64 (y5 - (1 : Int)) := hd 1 _ _ _ rfl rfl rfl rfl hg; exact of_indexAddr a0 a1 Try.underlying28 Try.sizeOf55 (gd e16 hg)) <|
          Obls.cons (Obl.grd 21 true _ _ _ rfl rfl rfl rfl rfl (by kernel_rfl) fun hg R' w' hw hs hd => by have a0 : QRep E_impl_IndexedSet A w' (R' 37) (gtD p0.2.2 (y5 - (1 : Int))) := hd 0 _ _ _ rfl rfl rfl rfl hg; exact of_fieldAddr_q a0 ff_55_0 Try.sizeOf3 (by decide) fl_impl_IndexedSet_0 rfl) <|
          Obls.cons (Obl.grd 21 true _ _ _ rfl rfl rfl rfl rfl (by kernel_rfl) fun hg R' w' hw hs hd => by have a0 : QRep (eInt .i64) A w' (R' 38) ((gtD p0.2.2 (y5 - (1 : Int))).1) := hd 0 _ _ _ rfl rfl rfl rfl hg; exact OpF.int (of_load a0.ptr Try.isAgg3 Try.sizeOf3)) <|
          Obls.cons (Obl.grd 21 true _ _ _ rfl rfl rfl rfl rfl (by kernel_rfl) fun hg R' w' hw hs hd => by have a0 : R' 1 = (.pointer (some ⟨b1_0, 0, none⟩)) := (hs 1 rfl).trans h1; exact of_fieldAddr_raw a0 ff_30_2 Try.sizeOf28 (by decide) rfl) <|
          Obls.cons (Obl.grd 21 true _ _ _ rfl rfl rfl rfl rfl (by kernel_rfl) fun hg R' w' hw hs hd => by have a0 : R' 40 = (.pointer (some ⟨b1_0, 2, none⟩)) := hd 0 _ _ _ rfl rfl rfl rfl hg; exact (of_load_box ((hO.fr hw).ok 0 _ rfl).1 a0 fl_impl_SetIndex_2 rfl Try.isAgg28 Try.sizeOf28)) <|
          Obls.cons (Obl.grd 21 true _ _ _ rfl rfl rfl rfl rfl (by kernel_rfl) fun hg R' w' hw hs hd => by have a0 : R' 3 = .int .i64 y5 := (hs 3 rfl).trans h3; exact of_move a0) <|
          Obls.cons (Obl.grd 21 true _ _ _ rfl rfl rfl rfl rfl (by kernel_rfl) fun hg R' w' hw hs hd => by have a0 : Rep (eSl E_impl_IndexedSet) A w' (R' 41) p0.2.2 := hd 0 _ _ _ rfl rfl rfl rfl hg; have a1 : R' 42 = .int .i64 y5 := hd 1 _ _ _ rfl rfl rfl rfl hg; exact of_indexAddr a0 a1 Try.underlying28 Try.sizeOf55 (gd e17 hg)) <|
          Obls.cons (Obl.grd 21 true _ _ _ rfl rfl rfl rfl rfl (by kernel_rfl) fun hg R' w' hw hs hd => by have a0 : QRep E_impl_IndexedSet A w' (R' 43) (gtD p0.2.2 y5) := hd 0 _ _ _ rfl rfl rfl rfl hg; exact of_fieldAddr_q a0 ff_55_0 Try.sizeOf3 (by decide) fl_impl_IndexedSet_0 rfl) <|
          Obls.cons (Obl.grd 21 true _ _ _ rfl rfl rfl rfl rfl (by kernel_rfl) fun hg R' w' hw hs hd => by have a0 : QRep (eInt .i64) A w' (R' 44) ((gtD p0.2.2 y5).1) := hd 0 _ _ _ rfl rfl rfl rfl hg; exact OpF.int (of_load a0.ptr Try.isAgg3 Try.sizeOf3)) <|
          Obls.cons (Obl.grd 21 true _ _ _ rfl rfl rfl rfl rfl (by kernel_rfl) fun hg R' w' hw hs hd => by have a0 : R' 39 = .int .i64 ((gtD p0.2.2 (y5 - (1 : Int))).1) := hd 0 _ _ _ rfl rfl rfl rfl hg; have a1 : R' 45 = .int .i64 ((gtD p0.2.2 y5).1) := hd 1 _ _ _ rfl rfl rfl rfl hg; exact of_geq a0 a1) <|
          Obls.cons (Obl.grd 18 false _ _ _ rfl rfl rfl rfl rfl (by kernel_rfl) fun hg R' w' hw hs hd => by have a0 : R' 32 = .bool (decide ((0 : Int) < y5)) := hd 0 _ _ _ rfl rfl rfl rfl hg; exact of_pick (decide ((0 : Int) < y5)) a0 (fun hc => by have a1 : R' 46 = .bool (decide (((gtD p0.2.2 y5).1) ≤ ((gtD p0.2.2 (y5 - (1 : Int))).1))) := hd 1 _ _ _ rfl rfl rfl rfl (g_and hg (beq_of hc)); show _ = Value.bool x18; rw [q19, hc]; exact a1) (fun hc => by show _ = Value.bool x18; rw [q19, hc]; exact rfl)) <|
          Obls.cons (Obl.plain rfl rfl fun R' w' hw hs hd => by have a0 : R' 29 = .bool x13 := hd 0 _ _ _ rfl rfl rfl rfl rfl; exact of_pick x13 a0 (fun hc => by show _ = Value.bool x20; rw [q21, hc]; exact rfl) (fun hc => by have a2 : R' 47 = .bool x18 := hd 1 _ _ _ rfl rfl rfl rfl (g_and rfl (beq_of hc)); show _ = Value.bool x20; rw [q21, hc]; exact a2)) <|
          Obls.nil
      intro R w hw hs hF'
      replace h1 : R 1 = (.pointer (some ⟨b1_0, 0, none⟩)) := (hs 1 rfl).trans h1
      replace h3 : R 3 = .int .i64 y5 := (hs 3 rfl).trans h3
      have h48 : R 48 = .bool x20 := hF' 37 _ _ rfl rfl rfl
      replace hO := hO.fr hw
      replace hA := hA.fr hw.size
      replace hF := hF.trans hw
      clear hs hF' hw
      refine seqR_nil ?_
      refine HT.cond x20 h48 (fun c22 => ?_) (fun c22 => ?_)
      · have hr := cnd_t c22 hr
        refine HT.seq ?_
        refine HT.text (l := ⟨_, true, .raw (.bool false)⟩ :: []) (tl := []) (by kernel_rfl) (by kernel_rfl) (by kernel_rfl) ?_ ?_
        · exact
            Obls.cons (Obl.plain rfl rfl fun R' w' hw hs hd => by exact of_assign rfl) <|
            Obls.nil
        intro R w hw hs hF'
        have h2 : R 2 = .bool false := hF' 0 _ _ rfl rfl rfl
        replace hO := hO.fr hw
        replace hO : IniOK [] A w := hO.sub [] trivial
        replace hA := hA.fr hw.size
        replace hF := hF.trans hw
        clear hs hF' hw
        refine seqR_nil ?_
        refine HT.ret ?_
        obtain rfl := Option.some.inj hr
        have hr := hr0
        replace hr : some _ = some _ := hr
        obtain rfl := Option.some.inj hr
        exact ⟨.inr rfl, [R 2], ⟨rfl, trivial⟩, h2, hF⟩
      · have hr := cnd_f c22 hr
        refine HT.skip ?_
        obtain ⟨e23, hr⟩ := ck_some hr
        refine HT.text (l := ⟨_, true, .raw (.int .i64 y5)⟩ :: ⟨_, true, .raw (.int .i64 (y5 + (1 : Int)))⟩ :: ⟨_, true, .raw (.int .i64 (y5 + (1 : Int)))⟩ :: []) (tl := []) (by kernel_rfl) (by kernel_rfl) (by kernel_rfl) ?_ ?_
        · exact
            Obls.cons (Obl.plain rfl rfl fun R' w' hw hs hd => by have a0 : R' 3 = .int .i64 y5 := (hs 3 rfl).trans h3; exact of_move a0) <|
            Obls.cons (Obl.plain rfl rfl fun R' w' hw hs hd => by have a0 : R' 9 = .int .i64 y5 := hd 0 _ _ _ rfl rfl rfl rfl rfl; exact of_add a0 rfl e23) <|
            Obls.cons (Obl.plain rfl rfl fun R' w' hw hs hd => by have a0 : R' 10 = .int .i64 (y5 + (1 : Int)) := hd 0 _ _ _ rfl rfl rfl rfl rfl; exact of_assign a0) <|
            Obls.nil
        intro R w hw hs hF'
        replace h1 : R 1 = (.pointer (some ⟨b1_0, 0, none⟩)) := (hs 1 rfl).trans h1
        have h3 : R 3 = .int .i64 (y5 + (1 : Int)) := hF' 2 _ _ rfl rfl rfl
        replace hO := hO.fr hw
        replace hA := hA.fr hw.size
        replace hF := hF.trans hw
        clear hs hF' hw
        refine seqR_nil ?_
        exact Exists.intro k (And.intro (Nat.lt_succ_self k) ⟨_, _, hr, hA, hF, hAA, hO, h1, h3⟩)
    · have hr := cnd_f c6 hr
      refine HT.exit ?_
      obtain rfl := Option.some.inj hr
      exact Exists.intro _ ⟨_, rfl, hA, hF, hAA, hO, h1⟩
  rintro R w ⟨A, s4, rfl, hA, hF, hAA, hO, h1⟩
  have hr := exM_go hr
  refine HT.seq ?_
  obtain ⟨x24, q25, hr⟩ := cl_some hr
  obtain ⟨x26, q27, hr⟩ := cl_some hr
  obtain ⟨x28, q29, hr⟩ := bd_some hr
  obtain ⟨x30, q31, hr⟩ := bd_some hr
  refine HT.text (l := ⟨_, true, .raw (.pointer (some ⟨b1_0, 1, none⟩))⟩ :: ⟨_, true, .rep (eSl E_impl_TokenCount) A p0.2.1⟩ :: ⟨_, true, .raw (.bool x24)⟩ :: ⟨_, true, .raw (.bool x24)⟩ :: ⟨_, (true && (x24 == true)), .raw (.pointer (some ⟨b1_0, 0, none⟩))⟩ :: ⟨_, (true && (x24 == true)), .raw (.int .i64 p0.1)⟩ :: ⟨_, (true && (x24 == true)), .raw (.bool x26)⟩ :: ⟨_, true, .raw (.bool x28)⟩ :: ⟨_, true, .raw (.bool x28)⟩ :: ⟨_, (true && (x28 == true)), .raw (.pointer (some ⟨b1_0, 2, none⟩))⟩ :: ⟨_, (true && (x28 == true)), .rep (eSl E_impl_IndexedSet) A p0.2.2⟩ :: ⟨_, (true && (x28 == true)), .raw (.int .i64 (p0.2.2.length : Int))⟩ :: ⟨_, (true && (x28 == true)), .raw (.bool (decide ((p0.2.2.length : Int) ≤ (12 : Int))))⟩ :: ⟨_, true, .raw (.bool x30)⟩ :: ⟨_, true, .raw (.bool x30)⟩ :: []) (tl := []) (by kernel_rfl) (by kernel_rfl) (by kernel_rfl) ?_ ?_
  · exact
      Obls.cons (Obl.plain rfl rfl fun R' w' hw hs hd => by have a0 : R' 1 = (.pointer (some ⟨b1_0, 0, none⟩)) := (hs 1 rfl).trans h1; exact of_fieldAddr_raw a0 ff_30_1 Try.sizeOf27 (by decide) rfl) <|
      Obls.cons (Obl.plain rfl rfl fun R' w' hw hs hd => by have a0 : R' 49 = (.pointer (some ⟨b1_0, 1, none⟩)) := hd 0 _ _ _ rfl rfl rfl rfl rfl; exact (of_load_box ((hO.fr hw).ok 0 _ rfl).1 a0 fl_impl_SetIndex_1 rfl Try.isAgg27 Try.sizeOf27)) <|
      Obls.cons (Obl.plain rfl rfl fun R' w' hw hs hd => by have a0 : Rep (eSl E_impl_TokenCount) A w' (R' 50) p0.2.1 := hd 0 _ _ _ rfl rfl rfl rfl rfl; exact of_call Try.call44 (M_spec_IsTokenTable_ok (q25 rfl) (hA.fr hw.size) a0)) <|
      Obls.cons (Obl.plain rfl rfl fun R' w' hw hs hd => by have a0 : R' 51 = .bool x24 := hd 0 _ _ _ rfl rfl rfl rfl rfl; exact of_move a0) <|
      Obls.cons (Obl.grd 3 true _ _ _ rfl rfl rfl rfl rfl (by kernel_rfl) fun hg R' w' hw hs hd => by have a0 : R' 1 = (.pointer (some ⟨b1_0, 0, none⟩)) := (hs 1 rfl).trans h1; exact of_fieldAddr_raw a0 ff_30_0 Try.sizeOf3 (by decide) rfl) <|
      Obls.cons (Obl.grd 3 true _ _ _ rfl rfl rfl rfl rfl (by kernel_rfl) fun hg R' w' hw hs hd => by have a0 : R' 53 = (.pointer (some ⟨b1_0, 0, none⟩)) := hd 0 _ _ _ rfl rfl rfl rfl hg; exact OpF.int (of_load_box ((hO.fr hw).ok 0 _ rfl).1 a0 fl_impl_SetIndex_0 rfl Try.isAgg3 Try.sizeOf3)) <|
      Obls.cons (Obl.grd 3 true _ _ _ rfl rfl rfl rfl rfl (by kernel_rfl) fun hg R' w' hw hs hd => by have a0 : R' 54 = .int .i64 p0.1 := hd 0 _ _ _ rfl rfl rfl rfl hg; exact of_call Try.call37 (M_spec_l1In_ok (q27 hg) (hA.fr hw.size) a0 rfl rfl)) <|
      Obls.cons (Obl.plain rfl rfl fun R' w' hw hs hd => by have a0 : R' 52 = .bool x24 := hd 0 _ _ _ rfl rfl rfl rfl rfl; exact of_pick x24 a0 (fun hc => by have a1 : R' 55 = .bool x26 := hd 1 _ _ _ rfl rfl rfl rfl (g_and rfl (beq_of hc)); show _ = Value.bool x28; rw [q29, hc]; exact a1) (fun hc => by show _ = Value.bool x28; rw [q29, hc]; exact rfl)) <|
      Obls.cons (Obl.plain rfl rfl fun R' w' hw hs hd => by have a0 : R' 56 = .bool x28 := hd 0 _ _ _ rfl rfl rfl rfl rfl; exact of_move a0) <|
      Obls.cons (Obl.grd 8 true _ _ _ rfl rfl rfl rfl rfl (by kernel_rfl) fun hg R' w' hw hs hd => by have a0 : R' 1 = (.pointer (some ⟨b1_0, 0, none⟩)) := (hs 1 rfl).trans h1; exact of_fieldAddr_raw a0 ff_30_2 Try.sizeOf28 (by decide) rfl) <|
      Obls.cons (Obl.grd 8 true _ _ _ rfl rfl rfl rfl rfl (by kernel_rfl) fun hg R' w' hw hs hd => by have a0 : R' 58 = (.pointer (some ⟨b1_0, 2, none⟩)) := hd 0 _ _ _ rfl rfl rfl rfl hg; exact (of_load_box ((hO.fr hw).ok 0 _ rfl).1 a0 fl_impl_SetIndex_2 rfl Try.isAgg28 Try.sizeOf28)) <|
      Obls.cons (Obl.grd 8 true _ _ _ rfl rfl rfl rfl rfl (by kernel_rfl) fun hg R' w' hw hs hd => by have a0 : Rep (eSl E_impl_IndexedSet) A w' (R' 59) p0.2.2 := hd 0 _ _ _ rfl rfl rfl rfl hg; exact of_len_sl (aT := #[]) a0 Try.underlying28) <|
      Obls.cons (Obl.grd 8 true _ _ _ rfl rfl rfl rfl rfl (by kernel_rfl) fun hg R' w' hw hs hd => by have a0 : R' 60 = .int .i64 (p0.2.2.length : Int) := hd 0 _ _ _ rfl rfl rfl rfl hg; exact of_leq a0 rfl) <|
      Obls.cons (Obl.plain rfl rfl fun R' w' hw hs hd => by have a0 : R' 57 = .bool x28 := hd 0 _ _ _ rfl rfl rfl rfl rfl; exact of_pick x28 a0 (fun hc => by have a1 : R' 61 = .bool (decide ((p0.2.2.length : Int) ≤ (12 : Int))) := hd 1 _ _ _ rfl rfl rfl rfl (g_and rfl (beq_of hc)); show _ = Value.bool x30; rw [q31, hc]; exact a1) (fun hc => by show _ = Value.bool x30; rw [q31, hc]; exact rfl)) <|
      Obls.cons (Obl.plain rfl rfl fun R' w' hw hs hd => by have a0 : R' 62 = .bool x30 := hd 0 _ _ _ rfl rfl rfl rfl rfl; exact of_assign a0) <|
      Obls.nil
  intro R w hw hs hF'
  have h2 : R 2 = .bool x30 := hF' 14 _ _ rfl rfl rfl
  replace hO := hO.fr hw
  replace hO : IniOK [] A w := hO.sub [] trivial
  replace hA := hA.fr hw.size
  replace hF := hF.trans hw
  clear hs hF' hw
  refine seqR_nil ?_
  refine HT.ret ?_
  obtain rfl := Option.some.inj hr
  exact ⟨.inr rfl, [R 2], ⟨rfl, trivial⟩, h2, hF⟩
def M_slices_Clone_impl_TokenCount_impl_TokenCount (fu : Nat) (p0 : List T_impl_TokenCount) : Option (List T_impl_TokenCount) :=
  ck (lenOK (([] : List T_impl_TokenCount).length + p0.length)) <|
  some (([] : List T_impl_TokenCount) ++ p0)
set_option maxRecDepth 100000 in
set_option maxHeartbeats 4000000 in
theorem M_slices_Clone_impl_TokenCount_impl_TokenCount_ok {fu : Nat} {A0 : Av} {p0 : List T_impl_TokenCount} {r : List T_impl_TokenCount} (hr : M_slices_Clone_impl_TokenCount_impl_TokenCount fu p0 = some r) {w : World} {v0 : Value} (hA : AvOK A0 w) (h0 : Rep (eSl E_impl_TokenCount) A0 w v0 p0) :
    Calls Try.prog 47 #[v0] w fun e w' => ∃ v, e = .returned v ∧ ((Res.vec w.heap.size 70 E_impl_TokenCount r).ok (addA A0 v) v w' ∧ Fr w w') := by
  unfold M_slices_Clone_impl_TokenCount_impl_TokenCount at hr
  obtain ⟨w0, hw0⟩ : ∃ w0, w0 = w := ⟨_, rfl⟩
  have hF : Fr w0 w := hw0 ▸ Fr.refl _
  have hA0 : ∀ b o, A0 b o → b < w0.heap.size := fun b o h => hw0 ▸ hA b o h
  have hA00 : AvOK A0 w0 := hA0
  rw [show w.heap.size = w0.heap.size from hw0 ▸ rfl]
  rw [show Fr w = Fr w0 from hw0 ▸ rfl]
  clear hw0
  obtain ⟨A, hAe⟩ : ∃ A, A = A0 := ⟨_, rfl⟩
  have hAA : ∀ b o, A0 b o → A b o := fun b o h => hAe ▸ h
  replace hA : AvOK A w := hAe ▸ hA
  have hO : IniOK [] A w := IniOK.nil
  refine calls_of_HT2 [.tmp 2] Try.func47 Try.ntmps47 (by decide) rfl rfl (Nat.le_of_ble_eq_true rfl) ?_
  intro R hR
  have f_v0 : Rep (eSl E_impl_TokenCount) A w v0 p0 := hAe ▸ h0
  replace h0 : R 0 = v0 := hR 0 _ rfl
  clear hR hAe
  refine HT.seq ?_
  refine HT.text (l := ⟨_, true, .any⟩ :: []) (tl := []) (by kernel_rfl) (by kernel_rfl) (by kernel_rfl) ?_ ?_
  · exact
      Obls.cons (Obl.plain rfl rfl fun R' w' hw hs hd => by exact of_assign trivial) <|
      Obls.nil
  intro R w hw hs hF'
  replace h0 : R 0 = v0 := (hs 0 rfl).trans h0
  replace f_v0 := f_v0.fr hw
  replace hO := hO.fr hw
  replace hA := hA.fr hw.size
  replace hF := hF.trans hw
  clear hs hF' hw
  refine seqR_nil ?_
  refine HT.seq ?_
  refine HT.seq ?_
  refine HT.text (l := ⟨_, true, .raw v0⟩ :: ⟨_, true, .raw (.bool (isNilV v0))⟩ :: []) (tl := []) (by kernel_rfl) (by kernel_rfl) (by kernel_rfl) ?_ ?_
  · exact
      Obls.cons (Obl.plain rfl rfl fun R' w' hw hs hd => by have a0 : R' 0 = v0 := (hs 0 rfl).trans h0; exact of_move a0) <|
      Obls.cons (Obl.plain rfl rfl fun R' w' hw hs hd => by have a0 : R' 3 = v0 := hd 0 _ _ _ rfl rfl rfl rfl rfl; have ra0 := f_v0.fr hw; exact of_nil_eql a0 ra0 rfl Try.underlying27) <|
      Obls.nil
  intro R w hw hs hF'
  replace h0 : R 0 = v0 := (hs 0 rfl).trans h0
  have h4 : R 4 = .bool (isNilV v0) := hF' 1 _ _ rfl rfl rfl
  replace f_v0 := f_v0.fr hw
  replace hO := hO.fr hw
  replace hA := hA.fr hw.size
  replace hF := hF.trans hw
  clear hs hF' hw
  refine seqR_nil ?_
  refine HT.cond (isNilV v0) h4 (fun c1 => ?_) (fun c1 => ?_)
  · obtain rfl := nil_of_rep f_v0 c1
    refine HT.seq ?_
    refine HT.text (l := ⟨_, true, .raw (.slice none 0 0)⟩ :: []) (tl := []) (by kernel_rfl) (by kernel_rfl) (by kernel_rfl) ?_ ?_
    · exact
        Obls.cons (Obl.plain rfl rfl fun R' w' hw hs hd => by exact of_assign rfl) <|
        Obls.nil
    intro R w hw hs hF'
    obtain ⟨u2, n_u2⟩ : ∃ u, u = Value.slice none 0 0 := ⟨_, rfl⟩
    have h2 : R 2 = u2 := (hF' 0 _ _ rfl rfl rfl).trans n_u2.symm
    replace hO := hO.fr hw
    replace hA := hA.fr hw.size
    replace hF := hF.trans hw
    clear hs hF' hw
    refine seqR_nil ?_
    replace hO := hO.nilcons (u := u2) n_u2 w0.heap.size 70 E_impl_TokenCount
    refine HT.ret ?_
    replace hr : some ([] : List T_impl_TokenCount) = some r := hr
    obtain rfl := Option.some.inj hr
    exact ⟨.inr rfl, [R 2], ⟨rfl, trivial⟩, (own_post (hO.ok 0 _ rfl) hAA h2), hF⟩
  · skip
    refine HT.skip ?_
    refine HT.seq ?_
    obtain ⟨e3, hr⟩ := ck_some hr
    refine HT.textR [] (⟨_, true, [], some (.vec w0.heap.size 70 E_impl_TokenCount ([] : List T_impl_TokenCount)), true, fun A => .any⟩ :: ⟨_, true, [], none, true, fun A => .raw v0⟩ :: ⟨_, true, [0], some (.vec w0.heap.size 70 E_impl_TokenCount (([] : List T_impl_TokenCount) ++ p0)), true, fun A => .any⟩ :: ⟨_, true, [2], some (.vec w0.heap.size 70 E_impl_TokenCount (([] : List T_impl_TokenCount) ++ p0)), true, fun A => .any⟩ :: []) (by kernel_rfl) (by kernel_rfl) (Wf.mk' (by kernel_rfl) (UAll.cons ust_any (UAll.cons ust_raw (UAll.cons ust_any (UAll.cons ust_any (UAll.nil))))) (by kernel_rfl) (by kernel_rfl)) hO hA ?_ ?_
    · exact
        OblsR.cons (OblR.made _ rfl rfl rfl rfl fun A' R' w' ho hd => by exact made_build [] (E := E_impl_TokenCount) trivial Try.underlying27 Try.sizeOf70 Try.zeroValue70 rfl rfl rfl (Nat.le_trans hF.size ho.ch.size)) <|
        OblsR.cons (OblR.plain rfl rfl rfl rfl fun A' R' w' ho hd => by have a0 : R' 0 = v0 := (ho.old 0 rfl).trans h0; exact of_move a0) <|
        OblsR.cons (OblR.took 0 _ _ rfl rfl rfl rfl rfl fun A' R' w' ho hd u hok hav hin hop hds => by have a1 : R' 6 = v0 := hd 1 _ _ _ rfl rfl rfl rfl rfl; have ra1 := (f_v0.stp ho.stp).eq a1; exact took_append (hop _ _ rfl rfl rfl rfl).symm hok hav (Nat.le_trans hF.size ho.ch.size) ra1 Try.underlying27 el_70 e3) <|
        OblsR.cons (OblR.took 2 _ _ rfl rfl rfl rfl rfl fun A' R' w' ho hd u hok hav hin hop hds => by exact took_assign (hop _ _ rfl rfl rfl rfl).symm hok hav) <|
        OblsR.nil
    intro done ρ σ A R w hdn hI
    obtain ⟨u4, e_u4⟩ : ∃ u, ρ 3 = u := ⟨_, rfl⟩
    have h2 : R 2 = u4 := (hI.opvR hdn 3 3 rfl rfl rfl rfl rfl).symm.trans e_u4
    replace hAA := hI.low' hAA hA0 (hO.ge (trivial))
    replace hF : Fr w0 w := hF.tr hI.ch (hO.ge (trivial))
    replace hO : IniOK [ob u4 (.vec w0.heap.size 70 E_impl_TokenCount (([] : List T_impl_TokenCount) ++ p0))] A w := hI.left hdn [(3, ob u4 (.vec w0.heap.size 70 E_impl_TokenCount (([] : List T_impl_TokenCount) ++ p0)))] ⟨rfl, rfl, e_u4, rfl, rfl, trivial⟩
    replace hA := hI.avok
    clear hI
    refine HT.ret ?_
    obtain rfl := Option.some.inj hr
    exact ⟨.inr rfl, [R 2], ⟨rfl, trivial⟩, (own_post (hO.ok 0 _ rfl) hAA h2), hF⟩
def M_slices_Clone_impl_IndexedSet_impl_IndexedSet (fu : Nat) (p0 : List T_impl_IndexedSet) : Option (List T_impl_IndexedSet) :=
  ck (lenOK (([] : List T_impl_IndexedSet).length + p0.length)) <|
  some (([] : List T_impl_IndexedSet) ++ p0)
set_option maxRecDepth 100000 in
set_option maxHeartbeats 4000000 in
theorem M_slices_Clone_impl_IndexedSet_impl_IndexedSet_ok {fu : Nat} {A0 : Av} {p0 : List T_impl_IndexedSet} {r : List T_impl_IndexedSet} (hr : M_slices_Clone_impl_IndexedSet_impl_IndexedSet fu p0 = some r) {w : World} {v0 : Value} (hA : AvOK A0 w) (h0 : Rep (eSl E_impl_IndexedSet) A0 w v0 p0) :
    Calls Try.prog 48 #[v0] w fun e w' => ∃ v, e = .returned v ∧ ((Res.vec w.heap.size 55 E_impl_IndexedSet r).ok (addA A0 v) v w' ∧ Fr w w') := by
  unfold M_slices_Clone_impl_IndexedSet_impl_IndexedSet at hr
  obtain ⟨w0, hw0⟩ : ∃ w0, w0 = w := ⟨_, rfl⟩
  have hF : Fr w0 w := hw0 ▸ Fr.refl _
  have hA0 : ∀ b o, A0 b o → b < w0.heap.size := fun b o h => hw0 ▸ hA b o h
  have hA00 : AvOK A0 w0 := hA0
  rw [show w.heap.size = w0.heap.size from hw0 ▸ rfl]
  rw [show Fr w = Fr w0 from hw0 ▸ rfl]
  clear hw0
  obtain ⟨A, hAe⟩ : ∃ A, A = A0 := ⟨_, rfl⟩
  have hAA : ∀ b o, A0 b o → A b o := fun b o h => hAe ▸ h
  replace hA : AvOK A w := hAe ▸ hA
  have hO : IniOK [] A w := IniOK.nil
  refine calls_of_HT2 [.tmp 2] Try.func48 Try.ntmps48 (by decide) rfl rfl (Nat.le_of_ble_eq_true rfl) ?_
  intro R hR
  have f_v0 : Rep (eSl E_impl_IndexedSet) A w v0 p0 := hAe ▸ h0
  replace h0 : R 0 = v0 := hR 0 _ rfl
  clear hR hAe
  refine HT.seq ?_
  refine HT.text (l := ⟨_, true, .any⟩ :: []) (tl := []) (by kernel_rfl) (by kernel_rfl) (by kernel_rfl) ?_ ?_
  · exact
      Obls.cons (Obl.plain rfl rfl fun R' w' hw hs hd => by exact of_assign trivial) <|
      Obls.nil
  intro R w hw hs hF'
  replace h0 : R 0 = v0 := (hs 0 rfl).trans h0
  replace f_v0 := f_v0.fr hw
  replace hO := hO.fr hw
  replace hA := hA.fr hw.size
  replace hF := hF.trans hw
  clear hs hF' hw
  refine seqR_nil ?_
  refine HT.seq ?_
  refine HT.seq ?_
  refine HT.text (l := ⟨_, true, .raw v0⟩ :: ⟨_, true, .raw (.bool (isNilV v0))⟩ :: []) (tl := []) (by kernel_rfl) (by kernel_rfl) (by kernel_rfl) ?_ ?_
  · exact
      Obls.cons (Obl.plain rfl rfl fun R' w' hw hs hd => by have a0 : R' 0 = v0 := (hs 0 rfl).trans h0; exact of_move a0) <|
      Obls.cons (Obl.plain rfl rfl fun R' w' hw hs hd => by have a0 : R' 3 = v0 := hd 0 _ _ _ rfl rfl rfl rfl rfl; have ra0 := f_v0.fr hw; exact of_nil_eql a0 ra0 rfl Try.underlying28) <|
      Obls.nil
  intro R w hw hs hF'
  replace h0 : R 0 = v0 := (hs 0 rfl).trans h0
  have h4 : R 4 = .bool (isNilV v0) := hF' 1 _ _ rfl rfl rfl
  replace f_v0 := f_v0.fr hw
  replace hO := hO.fr hw
  replace hA := hA.fr hw.size
  replace hF := hF.trans hw
  clear hs hF' hw
  refine seqR_nil ?_
  refine HT.cond (isNilV v0) h4 (fun c1 => ?_) (fun c1 => ?_)
  · obtain rfl := nil_of_rep f_v0 c1
    refine HT.seq ?_
    refine HT.text (l := ⟨_, true, .raw (.slice none 0 0)⟩ :: []) (tl := []) (by kernel_rfl) (by kernel_rfl) (by kernel_rfl) ?_ ?_
    · exact
        Obls.cons (Obl.plain rfl rfl fun R' w' hw hs hd => by exact of_assign rfl) <|
        Obls.nil
    intro R w hw hs hF'
    obtain ⟨u2, n_u2⟩ : ∃ u, u = Value.slice none 0 0 := ⟨_, rfl⟩
    have h2 : R 2 = u2 := (hF' 0 _ _ rfl rfl rfl).trans n_u2.symm
    replace hO := hO.fr hw
    replace hA := hA.fr hw.size
    replace hF := hF.trans hw
    clear hs hF' hw
    refine seqR_nil ?_
    replace hO := hO.nilcons (u := u2) n_u2 w0.heap.size 55 E_impl_IndexedSet
    refine HT.ret ?_
    replace hr : some ([] : List T_impl_IndexedSet) = some r := hr
    obtain rfl := Option.some.inj hr
    exact ⟨.inr rfl, [R 2], ⟨rfl, trivial⟩, (own_post (hO.ok 0 _ rfl) hAA h2), hF⟩
  · skip
    refine HT.skip ?_
    refine HT.seq ?_
    obtain ⟨e3, hr⟩ := ck_some hr
    refine HT.textR [] (⟨_, true, [], some (.vec w0.heap.size 55 E_impl_IndexedSet ([] : List T_impl_IndexedSet)), true, fun A => .any⟩ :: ⟨_, true, [], none, true, fun A => .raw v0⟩ :: ⟨_, true, [0], some (.vec w0.heap.size 55 E_impl_IndexedSet (([] : List T_impl_IndexedSet) ++ p0)), true, fun A => .any⟩ :: ⟨_, true, [2], some (.vec w0.heap.size 55 E_impl_IndexedSet (([] : List T_impl_IndexedSet) ++ p0)), true, fun A => .any⟩ :: []) (by kernel_rfl) (by kernel_rfl) (Wf.mk' (by kernel_rfl) (UAll.cons ust_any (UAll.cons ust_raw (UAll.cons ust_any (UAll.cons ust_any (UAll.nil))))) (by kernel_rfl) (by kernel_rfl)) hO hA ?_ ?_
    · exact
        OblsR.cons (OblR.made _ rfl rfl rfl rfl fun A' R' w' ho hd => by exact made_build [] (E := E_impl_IndexedSet) trivial Try.underlying28 Try.sizeOf55 Try.zeroValue55 rfl rfl rfl (Nat.le_trans hF.size ho.ch.size)) <|
        OblsR.cons (OblR.plain rfl rfl rfl rfl fun A' R' w' ho hd => by have a0 : R' 0 = v0 := (ho.old 0 rfl).trans h0; exact of_move a0) <|
        OblsR.cons (OblR.took 0 _ _ rfl rfl rfl rfl rfl fun A' R' w' ho hd u hok hav hin hop hds => by have a1 : R' 6 = v0 := hd 1 _ _ _ rfl rfl rfl rfl rfl; have ra1 := (f_v0.stp ho.stp).eq a1; exact took_append (hop _ _ rfl rfl rfl rfl).symm hok hav (Nat.le_trans hF.size ho.ch.size) ra1 Try.underlying28 el_55 e3) <|
        OblsR.cons (OblR.took 2 _ _ rfl rfl rfl rfl rfl fun A' R' w' ho hd u hok hav hin hop hds => by exact took_assign (hop _ _ rfl rfl rfl rfl).symm hok hav) <|
        OblsR.nil
    intro done ρ σ A R w hdn hI
    obtain ⟨u4, e_u4⟩ : ∃ u, ρ 3 = u := ⟨_, rfl⟩
    have h2 : R 2 = u4 := (hI.opvR hdn 3 3 rfl rfl rfl rfl rfl).symm.trans e_u4
    replace hAA := hI.low' hAA hA0 (hO.ge (trivial))
    replace hF : Fr w0 w := hF.tr hI.ch (hO.ge (trivial))
    replace hO : IniOK [ob u4 (.vec w0.heap.size 55 E_impl_IndexedSet (([] : List T_impl_IndexedSet) ++ p0))] A w := hI.left hdn [(3, ob u4 (.vec w0.heap.size 55 E_impl_IndexedSet (([] : List T_impl_IndexedSet) ++ p0)))] ⟨rfl, rfl, e_u4, rfl, rfl, trivial⟩
    replace hA := hI.avok
    clear hI
    refine HT.ret ?_
    obtain rfl := Option.some.inj hr
    exact ⟨.inr rfl, [R 2], ⟨rfl, trivial⟩, (own_post (hO.ok 0 _ rfl) hAA h2), hF⟩
def M_slices_Clone_string_string (fu : Nat) (p0 : List (List UInt8)) : Option (List (List UInt8)) :=
  ck (lenOK (([] : List (List UInt8)).length + p0.length)) <|
  some (([] : List (List UInt8)) ++ p0)
set_option maxRecDepth 100000 in
set_option maxHeartbeats 4000000 in
theorem M_slices_Clone_string_string_ok {fu : Nat} {A0 : Av} {p0 : List (List UInt8)} {r : List (List UInt8)} (hr : M_slices_Clone_string_string fu p0 = some r) {w : World} {v0 : Value} (hA : AvOK A0 w) (h0 : Rep (eSl eStr) A0 w v0 p0) :
    Calls Try.prog 40 #[v0] w fun e w' => ∃ v, e = .returned v ∧ ((Res.vec w.heap.size 9 eStr r).ok (addA A0 v) v w' ∧ Fr w w') := by
  unfold M_slices_Clone_string_string at hr
  obtain ⟨w0, hw0⟩ : ∃ w0, w0 = w := ⟨_, rfl⟩
  have hF : Fr w0 w := hw0 ▸ Fr.refl _
  have hA0 : ∀ b o, A0 b o → b < w0.heap.size := fun b o h => hw0 ▸ hA b o h
  have hA00 : AvOK A0 w0 := hA0
  rw [show w.heap.size = w0.heap.size from hw0 ▸ rfl]
  rw [show Fr w = Fr w0 from hw0 ▸ rfl]
  clear hw0
  obtain ⟨A, hAe⟩ : ∃ A, A = A0 := ⟨_, rfl⟩
  have hAA : ∀ b o, A0 b o → A b o := fun b o h => hAe ▸ h
  replace hA : AvOK A w := hAe ▸ hA
  have hO : IniOK [] A w := IniOK.nil
  refine calls_of_HT2 [.tmp 2] Try.func40 Try.ntmps40 (by decide) rfl rfl (Nat.le_of_ble_eq_true rfl) ?_
  intro R hR
  have f_v0 : Rep (eSl eStr) A w v0 p0 := hAe ▸ h0
  replace h0 : R 0 = v0 := hR 0 _ rfl
  clear hR hAe
  refine HT.seq ?_
  refine HT.text (l := ⟨_, true, .any⟩ :: []) (tl := []) (by kernel_rfl) (by kernel_rfl) (by kernel_rfl) ?_ ?_
  · exact
      Obls.cons (Obl.plain rfl rfl fun R' w' hw hs hd => by exact of_assign trivial) <|
      Obls.nil
  intro R w hw hs hF'
  replace h0 : R 0 = v0 := (hs 0 rfl).trans h0
  replace f_v0 := f_v0.fr hw
  replace hO := hO.fr hw
  replace hA := hA.fr hw.size
  replace hF := hF.trans hw
  clear hs hF' hw
  refine seqR_nil ?_
  refine HT.seq ?_
  refine HT.seq ?_
  refine HT.text (l := ⟨_, true, .raw v0⟩ :: ⟨_, true, .raw (.bool (isNilV v0))⟩ :: []) (tl := []) (by kernel_rfl) (by kernel_rfl) (by kernel_rfl) ?_ ?_
  · exact
      Obls.cons (Obl.plain rfl rfl fun R' w' hw hs hd => by have a0 : R' 0 = v0 := (hs 0 rfl).trans h0; exact of_move a0) <|
      Obls.cons (Obl.plain rfl rfl fun R' w' hw hs hd => by have a0 : R' 3 = v0 := hd 0 _ _ _ rfl rfl rfl rfl rfl; have ra0 := f_v0.fr hw; exact of_nil_eql a0 ra0 rfl Try.underlying37) <|
      Obls.nil
  intro R w hw hs hF'
  replace h0 : R 0 = v0 := (hs 0 rfl).trans h0
  have h4 : R 4 = .bool (isNilV v0) := hF' 1 _ _ rfl rfl rfl
  replace f_v0 := f_v0.fr hw
  replace hO := hO.fr hw
  replace hA := hA.fr hw.size
  replace hF := hF.trans hw
  clear hs hF' hw
  refine seqR_nil ?_
  refine HT.cond (isNilV v0) h4 (fun c1 => ?_) (fun c1 => ?_)
  · obtain rfl := nil_of_rep f_v0 c1
    refine HT.seq ?_
    refine HT.text (l := ⟨_, true, .raw (.slice none 0 0)⟩ :: []) (tl := []) (by kernel_rfl) (by kernel_rfl) (by kernel_rfl) ?_ ?_
    · exact
        Obls.cons (Obl.plain rfl rfl fun R' w' hw hs hd => by exact of_assign rfl) <|
        Obls.nil
    intro R w hw hs hF'
    obtain ⟨u2, n_u2⟩ : ∃ u, u = Value.slice none 0 0 := ⟨_, rfl⟩
    have h2 : R 2 = u2 := (hF' 0 _ _ rfl rfl rfl).trans n_u2.symm
    replace hO := hO.fr hw
    replace hA := hA.fr hw.size
    replace hF := hF.trans hw
    clear hs hF' hw
    refine seqR_nil ?_
    replace hO := hO.nilcons (u := u2) n_u2 w0.heap.size 9 eStr
    refine HT.ret ?_
    replace hr : some ([] : List (List UInt8)) = some r := hr
    obtain rfl := Option.some.inj hr
    exact ⟨.inr rfl, [R 2], ⟨rfl, trivial⟩, (own_post (hO.ok 0 _ rfl) hAA h2), hF⟩
  · skip
    refine HT.skip ?_
    refine HT.seq ?_
    obtain ⟨e3, hr⟩ := ck_some hr
    refine HT.textR [] (⟨_, true, [], some (.vec w0.heap.size 9 eStr ([] : List (List UInt8))), true, fun A => .any⟩ :: ⟨_, true, [], none, true, fun A => .raw v0⟩ :: ⟨_, true, [0], some (.vec w0.heap.size 9 eStr (([] : List (List UInt8)) ++ p0)), true, fun A => .any⟩ :: ⟨_, true, [2], some (.vec w0.heap.size 9 eStr (([] : List (List UInt8)) ++ p0)), true, fun A => .any⟩ :: []) (by kernel_rfl) (by kernel_rfl) (Wf.mk' (by kernel_rfl) (UAll.cons ust_any (UAll.cons ust_raw (UAll.cons ust_any (UAll.cons ust_any (UAll.nil))))) (by kernel_rfl) (by kernel_rfl)) hO hA ?_ ?_
    · exact
        OblsR.cons (OblR.made _ rfl rfl rfl rfl fun A' R' w' ho hd => by exact made_build [] (E := eStr) trivial Try.underlying37 Try.sizeOf9 Try.zeroValue9 rfl rfl rfl (Nat.le_trans hF.size ho.ch.size)) <|
        OblsR.cons (OblR.plain rfl rfl rfl rfl fun A' R' w' ho hd => by have a0 : R' 0 = v0 := (ho.old 0 rfl).trans h0; exact of_move a0) <|
        OblsR.cons (OblR.took 0 _ _ rfl rfl rfl rfl rfl fun A' R' w' ho hd u hok hav hin hop hds => by have a1 : R' 6 = v0 := hd 1 _ _ _ rfl rfl rfl rfl rfl; have ra1 := (f_v0.stp ho.stp).eq a1; exact took_append (hop _ _ rfl rfl rfl rfl).symm hok hav (Nat.le_trans hF.size ho.ch.size) ra1 Try.underlying37 el_9 e3) <|
        OblsR.cons (OblR.took 2 _ _ rfl rfl rfl rfl rfl fun A' R' w' ho hd u hok hav hin hop hds => by exact took_assign (hop _ _ rfl rfl rfl rfl).symm hok hav) <|
        OblsR.nil
    intro done ρ σ A R w hdn hI
    obtain ⟨u4, e_u4⟩ : ∃ u, ρ 3 = u := ⟨_, rfl⟩
    have h2 : R 2 = u4 := (hI.opvR hdn 3 3 rfl rfl rfl rfl rfl).symm.trans e_u4
    replace hAA := hI.low' hAA hA0 (hO.ge (trivial))
    replace hF : Fr w0 w := hF.tr hI.ch (hO.ge (trivial))
    replace hO : IniOK [ob u4 (.vec w0.heap.size 9 eStr (([] : List (List UInt8)) ++ p0))] A w := hI.left hdn [(3, ob u4 (.vec w0.heap.size 9 eStr (([] : List (List UInt8)) ++ p0)))] ⟨rfl, rfl, e_u4, rfl, rfl, trivial⟩
    replace hA := hI.avok
    clear hI
    refine HT.ret ?_
    obtain rfl := Option.some.inj hr
    exact ⟨.inr rfl, [R 2], ⟨rfl, trivial⟩, (own_post (hO.ok 0 _ rfl) hAA h2), hF⟩
def M_impl_SetIndex_clone (fu : Nat) (p0 : T_impl_SetIndex) : Option T_impl_SetIndex :=
  ck (lenOK p0.2.1.length) <|
  ck (lenOK p0.2.2.length) <|
  ck (p0.2.2.all fun s => lenOK s.2.length) <|
  some p0
/-- what is new since w is avoided -/
abbrev clA (w : World) (A : Av) (W : World) : Av := fun b o => A b o ∨ (w.heap.size ≤ b ∧ b < W.heap.size)
theorem clA_ok {w W : World} {A : Av} (hA : AvOK A w) (h : Fr w W) : AvOK (clA w A W) W := fun b o hb => hb.elim (fun hb => Nat.lt_of_lt_of_le (hA b o hb) h.size) fun hb => hb.2
theorem clA_stp0 {w W : World} {A : Av} (h : Fr w W) : Stp A (clA w A W) w W :=
  ⟨h.size, fun b o v hv _ => (h.cell (p := ⟨b, o, none⟩) (cell_lt' hv)).trans hv, fun b o hb h => h.elim id fun h => absurd h.1 (by omega)⟩
abbrev clF : OE T_impl_IndexedSet := oPr (oRd (eInt .i64)) (oSl 9 (oRd eStr))
theorem cl_arg {A : Av} {w : World} {v : Value} {x : T_impl_SetIndex} (h : Rep E_impl_SetIndex A w v x) : ∃ a1 n1 c1 a2 n2 c2, v = .agg #[.int .i64 x.1, .slice a1 n1 c1, .slice a2 n2 c2] ∧ Rep (eSl E_impl_TokenCount) A w (.slice a1 n1 c1) x.2.1 ∧ Rep (eSl E_impl_IndexedSet) A w (.slice a2 n2 c2) x.2.2 := by
  obtain ⟨cs, rfl, c, d, rfl, h1, e, f, rfl, h2, h3⟩ := h
  obtain ⟨a1, n1, c1, rfl, h2⟩ := h2
  obtain ⟨a2, n2, c2, rfl, h3⟩ := h3
  have h1 : c = [.int .i64 x.1] := h1
  subst h1
  exact ⟨a1, n1, c1, a2, n2, c2, rfl, ⟨_, rfl, a1, n1, c1, rfl, h2⟩, ⟨_, rfl, a2, n2, c2, rfl, h3⟩⟩
theorem cl_nilvec {α : Type} {E : Enc α} {A : Av} {w : World} {B : Nat} {T : TypeId} {u : Value} {xs : List α} (h : (Res.vec B T E xs).ok A u w) (hT : T ≠ tByte) : ∃ a c, u = .slice a xs.length c ∧ ((a = none ∧ c = 0 ∧ xs = []) ∨ ∃ g arr, a = some ⟨g, 0, none⟩ ∧ B ≤ g ∧ Blk w g T arr ∧ xs.length ≤ c ∧ c ≤ maxLen ∧ arr.size = c * E.size ∧ ∀ (i : Nat) x, xs[i]? = some x → ∃ ds, E.rep A w x ds ∧ ∀ (j : Nat) d, ds[j]? = some d → arr[i * E.size + j]? = some d) := by
  obtain ⟨cs, ⟨h1, h2⟩, h3, h4⟩ := h
  rcases h2 with ⟨rfl, h2⟩ | ⟨g, cap, cur, rfl, hB, hk, hn, hm, hs, ht⟩
  · have := List.length_eq_zero_iff.1 h2
    subst this
    exact ⟨none, 0, rfl, .inl ⟨rfl, rfl, rfl⟩⟩
  · refine ⟨_, cap, rfl, .inr ⟨g, cur, rfl, hB, hk.plain hT, hn, hm, hs, fun i x hx => ?_⟩⟩
    obtain ⟨ds, h5, h6⟩ := h4 i x hx
    refine ⟨ds, h5, fun j d hd => ?_⟩
    have h7 := h6 j d hd
    rw [← ht, List.getElem?_take] at h7
    split at h7
    · rwa [Array.getElem?_toList] at h7
    · cases h7
abbrev avT : Av := fun _ _ => True
theorem avT_stp {w w' : World} (h : w.heap.size ≤ w'.heap.size) : Stp avT avT w w' := ⟨h, fun b o v _ hn => absurd trivial hn, fun _ _ _ _ => trivial⟩
theorem cl_own {α : Type} {E : Enc α} {A : Av} {B : Nat} {T : TypeId} {u : Value} {xs : List α} {w : World} (hfl : ∀ A A' w x cs, E.rep A w x cs → E.rep A' w x cs) (h : (Res.vec B T E xs).ok A u w) (hT : T ≠ tByte) : (oSl T (oRd E)).own avT w (ownsB u) xs [u] ∧ ∀ k, ownsB u k → B ≤ k ∧ k < w.heap.size := by
  obtain ⟨a, c, rfl, _⟩ := cl_nilvec h hT
  obtain ⟨cs, e, h1⟩ := own_of_vec h hT
  refine ⟨?_, fun k hk => ?_⟩
  · have h2 := pure_sl (T := T) (pure_rd hfl) (A' := avT) h1
    obtain ⟨a', n', c', rfl⟩ := own_sl_cell h2
    have e : Value.slice a xs.length c = .slice a' n' c' := e
    rw [← e] at h2
    exact h2
  · refine ⟨?_, (oSl T (oRd E)).lt h1 hk⟩
    obtain ⟨cs', h3, _⟩ := h
    rcases h3.2 with ⟨e, _⟩ | ⟨g, cap, cur, e, hB, _⟩
    · rw [e] at hk; exact hk.elim
    · rw [e] at hk
      have hk : g = k := hk
      omega
theorem cl_step {w W6 wr w' : World} {g c5 j : Nat} {p : List T_impl_IndexedSet} {L : List (Prt T_impl_IndexedSet)} {arr : Array Value} {x : T_impl_IndexedSet} {v : Value} {A : Av} (hge : w.heap.size ≤ g) (hgl : g < W6.heap.size) (hfr : Fr w wr) (hch : Ch (fun k => g = k) W6 wr) (hL : L.length = j) (hE : EL clF avT wr L) (hLx : L.map (·.1) = p.take j) (hLg : ∀ k, inL L k → W6.heap.size ≤ k)
    (hk : Blk wr g 55 arr) (hsz : arr.size = c5 * 2) (hjc : j < c5) (htk : arr.toList.take (j * 2) = csOf L) (hx : p[j]? = some x) (hz0 : arr[j * 2]? = some (.int .i64 x.1)) (hv : (Res.vec wr.heap.size 9 eStr x.2).ok A v w') (hf : Fr wr w') :
    Fr w (w'.setCell ⟨g, j * 2 + 1, none⟩ v) ∧ Ch (fun k => g = k) W6 (w'.setCell ⟨g, j * 2 + 1, none⟩ v) ∧ ∃ L' : List (Prt T_impl_IndexedSet), L'.length = j + 1 ∧ EL clF avT (w'.setCell ⟨g, j * 2 + 1, none⟩ v) L' ∧ L'.map (·.1) = p.take (j + 1) ∧ (∀ k, inL L' k → W6.heap.size ≤ k) ∧
      ∃ arr', Blk (w'.setCell ⟨g, j * 2 + 1, none⟩ v) g 55 arr' ∧ arr'.size = c5 * 2 ∧ arr'.toList.take ((j + 1) * 2) = csOf L' ∧ ∀ k, (j + 1) * 2 ≤ k → arr'[k]? = arr[k]? := by
  obtain ⟨hv, hr⟩ := cl_own (E := eStr) (fun _ _ _ _ _ h => h) hv (by decide)
  obtain ⟨W, hW⟩ : ∃ W, W = w'.setCell ⟨g, j * 2 + 1, none⟩ v := ⟨_, rfl⟩
  have w1 : Wr g w' W := hW ▸ Wr.setCell _ _ _ _
  have k1 : Blk w' g 55 arr := (hf.block _ hk.lt).trans hk
  have k2 : Blk W g 55 (arr.setIfInBounds (j * 2 + 1) v) := hW ▸ k1.put _ _
  rw [← hW]
  have hs := hf.size
  have hs6 := hch.size
  have hsW := w1.size
  have hblk : ∀ k, k < wr.heap.size → k ≠ g → W.heap[k]? = wr.heap[k]? := fun k h1 h2 => (w1.block k h2).trans (hf.block k h1)
  have hE1 : EL clF avT W L := hE.stab (fun k hk' => hblk k (hE.lt hk') (by have := hLg k hk'; omega)) (avT_stp (by omega))
  have hv1 : (oSl 9 (oRd eStr)).own avT W (ownsB v) x.2 [v] := (oSl 9 (oRd eStr)).stab hv (fun k hk' => w1.block k (by have := (hr k hk').1; omega)) (avT_stp (by omega))
  have hnew : clF.own avT W (ownsB v) x [.int .i64 x.1, v] := own_prR (F := oRd (eInt .i64)) (c := [.int .i64 x.1]) (own_rd rfl) hv1
  have e0 : arr.toList.length = arr.size := Array.length_toList
  refine ⟨(hfr.trans hf).trans' w1 hge, hch.tr ((hf.ch (fun k => g = k)).tr w1.ch fun k h => .inr h) fun k h => .inr h, L ++ [(x, ownsB v, [.int .i64 x.1, v])], by rw [List.length_append, hL]; rfl, ⟨fun t ht => ?_, ?_⟩, ?_, fun k hk' => ?_, _, k2, by rw [Array.size_setIfInBounds, hsz], ?_, fun k hk' => ?_⟩
  · rcases List.mem_append.1 ht with ht | ht
    · exact hE1.own t ht
    · rw [List.mem_singleton.1 ht]
      exact hnew
  · refine List.pairwise_append.2 ⟨hE.dis, List.pairwise_singleton .., fun a ha b hb k h1 h2 => ?_⟩
    rw [List.mem_singleton.1 hb] at h2
    have h3 := hE.lt ⟨a, ha, h1⟩
    have h4 := (hr k h2).1
    omega
  · rw [List.map_append, hLx, List.take_add_one, hx]
    rfl
  · obtain ⟨t, ht, h1⟩ := hk'
    rcases List.mem_append.1 ht with ht | ht
    · exact hLg k ⟨t, ht, h1⟩
    · rw [List.mem_singleton.1 ht] at h1
      have := (hr k h1).1
      omega
  · have hcl := hE.len
    have hcl : (csOf L).length = j * 2 := by rw [hcl, hL]; rfl
    rw [csOf_append, show csOf [(x, ownsB v, [.int .i64 x.1, v])] = [.int .i64 x.1, v] from rfl]
    refine List.ext_getElem? fun q => ?_
    rcases Nat.lt_or_ge q ((j + 1) * 2) with hq | hq
    · rw [List.getElem?_take_of_lt hq, Array.getElem?_toList]
      rcases Nat.lt_or_ge q (j * 2) with hq2 | hq2
      · rw [Array.getElem?_setIfInBounds_ne (by omega), List.getElem?_append_left (by omega), ← htk, List.getElem?_take_of_lt hq2, Array.getElem?_toList]
      · rw [List.getElem?_append_right (by omega), hcl]
        by_cases h : q = j * 2
        · subst h
          rw [Array.getElem?_setIfInBounds_ne (by omega), hz0, Nat.sub_self]
          rfl
        · obtain rfl : q = j * 2 + 1 := by omega
          rw [Array.getElem?_setIfInBounds_self_of_lt (by omega), show j * 2 + 1 - j * 2 = 1 by omega]
          rfl
    · rw [List.getElem?_eq_none_iff.2 (by rw [List.length_take]; omega), List.getElem?_eq_none_iff.2 (by rw [List.length_append, hcl]; show j * 2 + 2 ≤ q; omega)]
  · exact Array.getElem?_setIfInBounds_ne (by omega)
theorem cl_fin {w wf : World} {A0 : Av} {p0 : T_impl_SetIndex} {tv sv : Value} {S1 S2 : Nat → Prop} (hF : Fr w wf) (h1 : (oSl 70 (oRd E_impl_TokenCount)).own avT wf S1 p0.2.1 [tv]) (h2 : (oSl 55 clF).own avT wf S2 p0.2.2 [sv]) (hg1 : ∀ k, S1 k → w.heap.size ≤ k) (hg2 : ∀ k, S2 k → w.heap.size ≤ k) (hd : ∀ k, S1 k → ¬ S2 k) :
    MadeS A0 (trR (geB w.heap.size) (oPr (oRd (eInt .i64)) (oPr (oSl 70 (oRd E_impl_TokenCount)) (oSl 55 clF))) p0 []) (fun _ => .any) w (.agg #[.int .i64 p0.1, tv, sv]) wf := by
  have hp : OEPure (oPr (oRd (eInt .i64)) (oPr (oSl 70 (oRd E_impl_TokenCount)) (oSl 55 clF))) := pure_pr (pure_rd fun _ _ _ _ _ h => h) (pure_pr (pure_sl (pure_rd fun _ _ _ _ _ h => h)) (pure_sl (pure_pr (pure_rd fun _ _ _ _ _ h => h) (pure_sl (pure_rd fun _ _ _ _ _ h => h)))))
  have h3 := own_prR (F := oRd (eInt .i64)) (c := [.int .i64 p0.1]) (y := p0.1) (own_rd rfl) (own_pr2 h1 h2 hd)
  refine ⟨fun k => S1 k ∨ S2 k, hF, fun k hk => hk.elim (hg1 k) (hg2 k), trivial, ⟨fun k hk => hk.elim (hg1 k) (hg2 k), ⟨⟨[.int .i64 p0.1, tv, sv], rfl, hp h3⟩, fun q hq => by cases hq⟩⟩, trivial⟩
set_option maxRecDepth 8000 in
set_option maxHeartbeats 4000000 in
theorem M_impl_SetIndex_clone_ok {fu : Nat} {A0 : Av} {p0 : T_impl_SetIndex} {r : T_impl_SetIndex} (hr : M_impl_SetIndex_clone fu p0 = some r) {w : World} {v0 : Value} (hA : AvOK A0 w) (h0 : Rep E_impl_SetIndex A0 w v0 p0) :
    Calls Try.prog 25 #[v0] w fun e w' => ∃ v, e = .returned v ∧ (MadeS A0 (trR (geB w.heap.size) (oPr (oRd (eInt .i64)) (oPr (oSl 70 (oRd E_impl_TokenCount)) (oSl 55 (oPr (oRd (eInt .i64)) (oSl 9 (oRd eStr)))))) r []) (fun _ => .any) w v w') := by
  unfold M_impl_SetIndex_clone at hr
  obtain ⟨q1, hr⟩ := ck_some hr
  obtain ⟨q2, hr⟩ := ck_some hr
  obtain ⟨q3, hr⟩ := ck_some hr
  obtain rfl := Option.some.inj hr
  obtain ⟨a1, n1, c1, a2, n2, c2, rfl, hT, hS⟩ := cl_arg h0
  obtain ⟨W1, hW1⟩ : ∃ W1, W1 = w.alloc (.cells #[.int .i64 p0.1, .slice a1 n1 c1, .slice a2 n2 c2] 30) := ⟨_, rfl⟩
  obtain ⟨W2, hW2⟩ : ∃ W2, W2 = W1.alloc (.cells #[.int .i64 0, .slice none 0 0, .slice none 0 0] 30) := ⟨_, rfl⟩
  have z1 : W1.heap.size = w.heap.size + 1 := by rw [hW1]; simp
  have z2 : W2.heap.size = w.heap.size + 1 + 1 := by rw [hW2, ← z1]; simp
  have F2 : Fr w W2 := by
    rw [hW2, hW1]
    exact (Fr.alloc _ _).trans (Fr.alloc _ _)
  have B1 : Blk W2 w.heap.size 30 #[.int .i64 p0.1, .slice a1 n1 c1, .slice a2 n2 c2] := by
    rw [hW2, hW1]
    exact (Blk.new _ _ _).alloc _
  have B2 : Blk W2 (w.heap.size + 1) 30 #[.int .i64 0, .slice none 0 0, .slice none 0 0] := by
    rw [← z1, hW2]
    exact Blk.new _ _ _
  have x1 := B1.cell 1
  simp only [List.getElem?_toArray, List.getElem?_cons_zero, List.getElem?_cons_succ] at x1
  have HT := Lib.hid (hT.stp (clA_stp0 F2))
  have HA2 := Lib.hid (clA_ok hA F2)
  have HB1 := Lib.hid B1
  have HB2 := Lib.hid B2
  have HF2 := Lib.hid F2
  have HS := Lib.hid hS
  have HHA := Lib.hid hA
  have hM1 : Hid (M_slices_Clone_impl_TokenCount_impl_TokenCount fu p0.2.1 = some p0.2.1) := by
    unfold M_slices_Clone_impl_TokenCount_impl_TokenCount
    rw [show ([] : List T_impl_TokenCount).length + p0.2.1.length = p0.2.1.length by simp, q1]
    rfl
  clear hT hS h0 F2 B1 B2 hA
  go_enter Try.func25, Try.ntmps25
  go_wp2_with fail
  rw [← hW1, ← hW2]
  refine (M_slices_Clone_impl_TokenCount_impl_TokenCount_ok hM1.out HA2.out HT.out).mono ?_
  clear hW1 hW2 z1 W1 x1 HT hM1 HA2
  rintro e W3 ⟨tv, rfl, hv3, hf3⟩
  obtain ⟨a3, c3, rfl, hc3⟩ := cl_nilvec hv3 (by decide)
  have F3 := HF2.out.trans hf3
  have hs3 : w.heap.size + 1 + 1 ≤ W3.heap.size := by rw [← z2]; exact hf3.size
  have B1 : Blk W3 w.heap.size 30 _ := (hf3.block _ HB1.out.lt).trans HB1.out
  have x1 := B1.cell 1
  have x2 := B1.cell 2
  have y1 := B1.frozen 1
  simp only [List.getElem?_toArray, List.getElem?_cons_zero, List.getElem?_cons_succ] at x1 x2
  obtain ⟨W4, hW4⟩ : ∃ W4, W4 = W3.setCell ⟨w.heap.size, 1, none⟩ (.slice a3 p0.2.1.length c3) := ⟨_, rfl⟩
  have w4 : Wr w.heap.size W3 W4 := hW4 ▸ Wr.setCell _ _ _ _
  have B1' : Blk W4 w.heap.size 30 _ := hW4 ▸ B1.put 1 _
  have F4 : Fr w W4 := F3.trans' w4 (Nat.le_refl _)
  obtain ⟨hv3, hr3⟩ := cl_own (E := E_impl_TokenCount) (fun _ _ _ _ _ h => h) hv3 (by decide)
  have HV4 := Lib.hid ((oSl 70 (oRd E_impl_TokenCount)).stab hv3 (fun k hk => w4.block k (by have := (hr3 k hk).1; omega)) (avT_stp (by rw [w4.size]; exact Nat.le_refl _)))
  have HR4 : Hid (∀ k, ownsB (.slice a3 p0.2.1.length c3) k → w.heap.size + 2 ≤ k ∧ k < W4.heap.size) := Lib.hid fun k hk => ⟨by have := (hr3 k hk).1; omega, by rw [w4.size]; exact (hr3 k hk).2⟩
  have HS4 := Lib.hid (HS.out.stp (clA_stp0 F4))
  have HA4 := Lib.hid (clA_ok HHA.out F4)
  have HB1 := Lib.hid B1'
  have HB2 : Hid (Blk W4 (w.heap.size + 1) 30 _) := Lib.hid (w4.blk (by omega) ((hf3.block _ HB2.out.lt).trans HB2.out))
  have HF4 := Lib.hid F4
  have hs4 : w.heap.size + 1 + 1 ≤ W4.heap.size := by rw [w4.size]; exact hs3
  have hM2 : Hid (M_slices_Clone_impl_IndexedSet_impl_IndexedSet fu p0.2.2 = some p0.2.2) := by
    unfold M_slices_Clone_impl_IndexedSet_impl_IndexedSet
    rw [show ([] : List T_impl_IndexedSet).length + p0.2.2.length = p0.2.2.length by simp, q2]
    rfl
  clear hv3 hc3 hf3 F3 B1 B1' w4 F4
  go_wp2_with fail
  rw [← hW4]
  refine (M_slices_Clone_impl_IndexedSet_impl_IndexedSet_ok hM2.out HA4.out HS4.out).mono ?_
  clear hW4 x1 x2 y1 hM2 HS4
  rintro e W5 ⟨sv, rfl, hv5, hf5⟩
  obtain ⟨a5, c5, rfl, hc5⟩ := cl_nilvec hv5 (by decide)
  have F5 := HF4.out.trans hf5
  have hs5 : w.heap.size + 1 + 1 ≤ W5.heap.size := Nat.le_trans hs4 hf5.size
  have B1 : Blk W5 w.heap.size 30 _ := (hf5.block _ HB1.out.lt).trans HB1.out
  have x2 := B1.cell 2
  have y2 := B1.frozen 2
  simp only [List.getElem?_toArray, List.getElem?_cons_zero, List.getElem?_cons_succ, List.setIfInBounds_toArray, List.set_cons_succ, List.set_cons_zero] at x2
  obtain ⟨W6, hW6⟩ : ∃ W6, W6 = W5.setCell ⟨w.heap.size, 2, none⟩ (.slice a5 p0.2.2.length c5) := ⟨_, rfl⟩
  have w6 : Wr w.heap.size W5 W6 := hW6 ▸ Wr.setCell _ _ _ _
  have B1' : Blk W6 w.heap.size 30 _ := hW6 ▸ B1.put 2 _
  simp only [List.setIfInBounds_toArray, List.set_cons_succ, List.set_cons_zero] at B1'
  have F6 : Fr w W6 := F5.trans' w6 (Nat.le_refl _)
  have x6 := B1'.cell 2
  simp only [List.getElem?_toArray, List.getElem?_cons_zero, List.getElem?_cons_succ] at x6
  have HB1 := Lib.hid B1'
  obtain ⟨A5, hA5⟩ : ∃ A5, A5 = addA (clA w A0 W4) (.slice a5 p0.2.2.length c5) := ⟨_, rfl⟩
  have hA5ok : AvOK A5 W5 := fun b o hb => by
    rw [hA5] at hb
    rcases hb with hb | hb
    · exact Nat.lt_of_lt_of_le (HA4.out b o hb) hf5.size
    · rcases hc5 with ⟨rfl, _⟩ | ⟨g, arr, rfl, _, hk, _⟩
      · exact hb.elim
      · have hb : g = b := hb
        exact hb ▸ hk.lt
  have hA5w : ∀ b o, w.heap.size ≤ b → b < W4.heap.size → A5 b o := fun b o h1 h2 => hA5 ▸ .inl (.inr ⟨h1, h2⟩)
  have hA5g : ∀ b o, ownsB (.slice a5 p0.2.2.length c5) b → A5 b o := fun b o h => hA5 ▸ .inr h
  rw [← hA5] at hc5
  have hT5 := (oSl 70 (oRd E_impl_TokenCount)).stab HV4.out (fun k hk => ((w6.block k (by have := (HR4.out k hk).1; omega)).trans (hf5.block k (HR4.out k hk).2))) (avT_stp (w' := W6) (by rw [w6.size]; exact hf5.size))
  have HT := Lib.hid hT5
  have hz6 := w6.size
  have hz5 := hf5.size
  have hb2 : Blk W6 (w.heap.size + 1) 30 _ := w6.blk (by omega) ((hf5.block _ HB2.out.lt).trans HB2.out)
  have HB2 := Lib.hid hb2
  have HC := Lib.hid hc5
  have HF6 := Lib.hid F6
  have HW6 := Lib.hid w6
  have HA := Lib.hid hA5ok
  have HAw := Lib.hid hA5w
  have HAg := Lib.hid hA5g
  have Hn := lenOK_le q2
  clear hc5 F6 w6 hA5ok hA5w hA5g hT5 hb2 B1 B1' hv5 F5 hf5 hA5 HV4 HA4
  go_wp2_with fail
  rw [← hW6]
  clear hW6 x2 y2
  go_loopw [15] (fun i wr => ∃ (j : Nat), i = .int .i64 (j : Int) ∧ j ≤ p0.2.2.length ∧ Fr w wr ∧ Ch (ownsB (.slice a5 p0.2.2.length c5)) W6 wr ∧ ∃ L : List (Prt T_impl_IndexedSet), L.length = j ∧ EL clF avT wr L ∧ L.map (·.1) = p0.2.2.take j ∧ (∀ k, inL L k → W6.heap.size ≤ k) ∧ ∀ g, a5 = some ⟨g, 0, none⟩ → ∃ (arr0 arr : Array Value), (∀ (i : Nat) x, p0.2.2[i]? = some x → ∃ ds, E_impl_IndexedSet.rep A5 W5 x ds ∧ ∀ (q : Nat) d, ds[q]? = some d → arr0[i * 2 + q]? = some d) ∧ p0.2.2.length ≤ c5 ∧ c5 ≤ maxLen ∧ Blk wr g 55 arr ∧ arr.size = c5 * 2 ∧ arr.toList.take (j * 2) = csOf L ∧ ∀ k, j * 2 ≤ k → arr[k]? = arr0[k]?) (fun i _ => p0.2.2.length - (intOf i).toNat)
  case atStart =>
    refine ⟨0, rfl, Nat.zero_le _, HF6.out, Ch.refl _ _, [], rfl, ⟨(fun t h => by cases h), List.Pairwise.nil⟩, rfl, (fun k h => by obtain ⟨t, h, _⟩ := h; cases h), fun g hg => ?_⟩
    rcases HC.out with ⟨e, _⟩ | ⟨g', arr, e, hB, hk, h1, h2, h3, h4⟩
    · rw [e] at hg; cases hg
    · rw [e] at hg
      obtain rfl : g' = g := by injection hg with hg; injection hg
      exact ⟨arr, arr, h4, h1, h2, HW6.out.blk (by omega) hk, h3, by rw [Nat.zero_mul, List.take_zero]; rfl, fun k _ => rfl⟩
  case round =>
    obtain ⟨j, rfl, hj, hfr, hch, L, hL, hE, hLx, hLg, hrow⟩ := hrel
    have X2 : wr.cell? ⟨w.heap.size, 2, none⟩ = some (.slice a5 p0.2.2.length c5) := by
      have hb : Blk wr w.heap.size 30 _ := (hch.block _ HB1.out.lt fun hk => by
        rcases HC.out with ⟨rfl, _⟩ | ⟨g, arr, rfl, hB, _⟩
        · exact hk
        · have hk : g = w.heap.size := hk
          omega).trans HB1.out
      have := hb.cell 2
      simpa only [List.getElem?_toArray, List.getElem?_cons_zero, List.getElem?_cons_succ] using this
    by_cases hlt : j < p0.2.2.length
    · rcases HC.out with ⟨_, _, e⟩ | ⟨g, arr9, rfl, hB, hk9, _⟩
      · rw [e] at hlt
        exact absurd hlt (Nat.not_lt_zero _)
      obtain ⟨arr0, arr, hel, hnc, hcm, hk, hsz, htk, hup⟩ := hrow g rfl
      obtain ⟨x, hx⟩ : ∃ x, p0.2.2[j]? = some x := ⟨_, List.getElem?_eq_getElem hlt⟩
      obtain ⟨ds, hrep, hds⟩ := hel j x hx
      obtain ⟨dc, dd, rfl, h1, h2⟩ := hrep
      have h1 : dc = [.int .i64 x.1] := h1
      subst h1
      obtain ⟨za, zn, zc, rfl, h2⟩ := h2
      have hz0 := (hup (j * 2 + 0) (by omega)).trans (hds 0 _ rfl)
      have hz1 := (hup (j * 2 + 1) (by omega)).trans (hds 1 _ rfl)
      have X3 : wr.cell? ⟨g, j * 2 + 1, none⟩ = some (.slice za zn zc) := (hk.cell _).trans hz1
      have hgw : w.heap.size + 1 + 1 ≤ g := by omega
      have hgl := hk.lt
      have hge6 : Hid (w.heap.size ≤ g ∧ g < W6.heap.size) := ⟨by omega, by rw [hz6]; exact hk9.lt⟩
      have hbl : ∀ k, k < W5.heap.size → k ≠ w.heap.size → k ≠ g → wr.heap[k]? = W5.heap[k]? := fun k h1 h2 h3 => (hch.block k (by omega) fun h => h3 (Eq.symm h)).trans (HW6.out.block k h2)
      have hrd : Rep (eSl eStr) A5 wr (.slice za zn zc) x.2 := by
        refine (show Rep (eSl eStr) A5 W5 (.slice za zn zc) x.2 from ⟨_, rfl, za, zn, zc, rfl, h2⟩).stp ⟨Nat.le_trans (by omega) hch.size, fun b o v hv hn => ?_, fun _ _ _ h => h⟩
        have hb := cell_lt' hv
        have e := hbl b hb (fun e => hn (HAw.out b o (by omega) (by omega))) (fun e => hn (HAg.out b o (Eq.symm e)))
        show wr.cell? ⟨b, o, none⟩ = some v
        exact (World.cell?_of_block e).trans hv
      have hA : AvOK A5 wr := HA.out.fr (Nat.le_trans (by omega) hch.size)
      have hM : M_slices_Clone_string_string fu x.2 = some x.2 := by
        unfold M_slices_Clone_string_string
        rw [show ([] : List (List UInt8)).length + x.2.length = x.2.length by simp, List.all_eq_true.1 q3 x (List.mem_of_getElem? hx)]
        rfl
      have hcall := M_slices_Clone_string_string_ok (w := wr.drew) hM hA (hrd.fr (Fr.drew wr))
      have HK := Lib.hid hk
      have HE := Lib.hid hE
      have HX := Lib.hid hx
      have HFR := Lib.hid hfr
      have HCH := Lib.hid hch
      have HREST : Hid (L.length = j ∧ L.map (·.1) = p0.2.2.take j ∧ (∀ k, inL L k → W6.heap.size ≤ k) ∧ arr.size = c5 * 2 ∧ arr.toList.take (j * 2) = csOf L ∧ (∀ k, j * 2 ≤ k → arr[k]? = arr0[k]?) ∧ arr[j * 2]? = some (.int .i64 x.1) ∧ arr[j * 2 + 1]? = some (.slice za zn zc)) := ⟨hL, hLx, hLg, hsz, htk, hup, hz0, hz1⟩
      have HEL := Lib.hid hel
      have HCALL := Lib.hid hcall
      have hjn : (j : Int) < (p0.2.2.length : Int) := by omega
      clear hk hE hx hfr hch hL hLx hLg hsz htk hup hz0 hz1 hel hcall hM hA hrd hbl hrow hds h2
      have hbw : w.heap.size < wr.heap.size := by omega
      go_wp2_with fail
      go_region_with (go_at_call 40; refine HCALL.out.mono ?_; rintro e w' ⟨v, rfl, hv, hf⟩; obtain ⟨a7, c7, rfl, _⟩ := cl_nilvec hv (by decide); have Y2 := (Fr.cell (p := ⟨w.heap.size, 2, none⟩) hf hbw).trans X2; have Y3 := (Fr.cell (p := ⟨g, j * 2 + 1, none⟩) hf hgl).trans X3; have Y4 : w'.frozen? ⟨g, j * 2 + 1, none⟩ = false := Blk.frozen ((hf.block _ HK.out.lt).trans HK.out) _; have HV := Lib.hid hv; have HF := Lib.hid hf; clear hv hf)
      all_goals
        obtain ⟨r1, r2, r3, r4, r5, r6, r7, _⟩ := HREST.out
        obtain ⟨s1, s2, L', s3, s4, s5, s6, arr', s7, s8, s9, s10⟩ := cl_step (w := w) (W6 := W6) (wr := wr) hge6.out.1 hge6.out.2 HFR.out HCH.out r1 HE.out r2 r3 HK.out r4 (by omega) r5 HX.out r7 HV.out ((Fr.drew wr).trans HF.out)
        obtain ⟨W, hW⟩ : ∃ W, W = w'.setCell ⟨g, j * 2 + 1, none⟩ (.slice a7 x.2.length c7) := ⟨_, rfl⟩
        rw [← hW] at s1 s2 s4 s7 ⊢
        have ST : Hid (j + 1 ≤ p0.2.2.length ∧ Fr w W ∧ Ch (ownsB (.slice (some ⟨g, 0, none⟩) p0.2.2.length c5)) W6 W ∧ ∃ L : List (Prt T_impl_IndexedSet), L.length = j + 1 ∧ EL clF avT W L ∧ L.map (·.1) = p0.2.2.take (j + 1) ∧ (∀ k, inL L k → W6.heap.size ≤ k) ∧ ∀ g', some (⟨g, 0, none⟩ : Addr) = some ⟨g', 0, none⟩ → ∃ (arr0 arr : Array Value), (∀ (i : Nat) x, p0.2.2[i]? = some x → ∃ ds, E_impl_IndexedSet.rep A5 W5 x ds ∧ ∀ (q : Nat) d, ds[q]? = some d → arr0[i * 2 + q]? = some d) ∧ p0.2.2.length ≤ c5 ∧ c5 ≤ maxLen ∧ Blk W g' 55 arr ∧ arr.size = c5 * 2 ∧ arr.toList.take ((j + 1) * 2) = csOf L ∧ ∀ k, (j + 1) * 2 ≤ k → arr[k]? = arr0[k]?) :=
          ⟨hlt, s1, s2, L', s3, s4, s5, s6, fun g' hg' => by
            obtain rfl : g = g' := by injection hg' with hg'; injection hg'
            exact ⟨arr0, arr', HEL.out, hnc, hcm, s7, s8, s9, fun k hk => (s10 k hk).trans (r6 k (by omega))⟩⟩
        clear s1 s2 s3 s4 s5 s6 s7 s8 s9 s10 r1 r2 r3 r4 r5 r6 r7 hW
        go_wp2_with fail
        refine ⟨⟨j + 1, rfl, ST.out⟩, ?_⟩
        show p0.2.2.length - ((j : Int) + 1).toNat < p0.2.2.length - ((j : Nat) : Int).toNat
        omega
    · obtain rfl : j = p0.2.2.length := by omega
      have hnb : ∀ k, k < w.heap.size + 1 + 1 → ¬ ownsB (.slice a5 p0.2.2.length c5) k := fun k hk h => by
        rcases HC.out with ⟨rfl, _⟩ | ⟨g, arr, rfl, hB, _⟩
        · exact h
        · have h : g = k := h
          omega
      have b1 : Blk wr w.heap.size 30 _ := (hch.block _ HB1.out.lt (hnb _ (by omega))).trans HB1.out
      have b2 : Blk wr (w.heap.size + 1) 30 _ := (hch.block _ HB2.out.lt (hnb _ (by omega))).trans HB2.out
      have e0 := b1.cell 0
      have e1 := b1.cell 1
      have f0 := b2.cell 0
      have f1 := b2.cell 1
      have f2 := b2.cell 2
      have g0 := b2.frozen 0
      have g1 := b2.frozen 1
      have g2 := b2.frozen 2
      simp only [List.getElem?_toArray, List.getElem?_cons_zero, List.getElem?_cons_succ] at e0 e1 f0 f1 f2
      obtain ⟨Wf, hWf⟩ : ∃ Wf, Wf = ((wr.setCell ⟨w.heap.size + 1, 0, none⟩ (.int .i64 p0.1)).setCell ⟨w.heap.size + 1, 1, none⟩ (.slice a3 p0.2.1.length c3)).setCell ⟨w.heap.size + 1, 2, none⟩ (.slice a5 p0.2.2.length c5) := ⟨_, rfl⟩
      have wf : Wr (w.heap.size + 1) wr Wf := hWf ▸ ((Wr.setCell _ _ _ _).trans (Wr.setCell _ _ _ _)).trans (Wr.setCell _ _ _ _)
      have hzf := wf.size
      have hsz6 := hch.size
      have hT := (oSl 70 (oRd E_impl_TokenCount)).stab HT.out (fun k hk => (wf.block k (by have := (HR4.out k hk).1; omega)).trans (hch.block k (by have := (HR4.out k hk).2; omega) fun h => by
        rcases HC.out with ⟨rfl, _⟩ | ⟨g, arr, rfl, hB, _⟩
        · exact h
        · have h : g = k := h
          have := (HR4.out k hk).2
          omega)) (avT_stp (w' := Wf) (by omega))
      have hS : ∃ S2 : Nat → Prop, (oSl 55 clF).own avT Wf S2 p0.2.2 [.slice a5 p0.2.2.length c5] ∧ ∀ k, S2 k → W4.heap.size ≤ k := by
        rcases HC.out with ⟨rfl, rfl, e⟩ | ⟨g, arr9, rfl, hB, hk9, _⟩
        · refine ⟨fun _ => False, ?_, fun k h => h.elim⟩
          rw [e]
          exact own_nil
        · obtain ⟨arr0, arr, _, hnc, hcm, hk, hsz, htk, _⟩ := hrow g rfl
          rw [List.take_length] at hLx
          have hE' : EL clF avT Wf L := hE.stab (fun k hk => wf.block k (by have := hLg k hk; omega)) (avT_stp (by omega))
          have hkf : Blk Wf g 55 arr := wf.blk (by omega) hk
          have h := list_own hE' hkf (c := c5) (by omega) hcm hsz (by rw [hL]; exact htk) (fun h => by have := hLg g h; have := hk9.lt; omega)
          rw [hLx, hL] at h
          refine ⟨_, h, fun k h => h.elim (fun e => by omega) fun h => by have := hLg k h; omega⟩
      obtain ⟨S2, hS, hS2⟩ := hS
      have fin := cl_fin (w := w) (A0 := A0) (hfr.trans' wf (by omega)) hT hS (fun k hk => by have := (HR4.out k hk).1; omega) (fun k hk => by have := hS2 k hk; omega) (fun k h1 h2 => by have := (HR4.out k h1).2; have := hS2 k h2; omega)
      have FIN := Lib.hid fin
      have kf : Blk Wf (w.heap.size + 1) 30 _ := hWf ▸ ((b2.put 0 (.int .i64 p0.1)).put 1 (.slice a3 p0.2.1.length c3)).put 2 (.slice a5 p0.2.2.length c5)
      simp only [List.setIfInBounds_toArray, List.set_cons_succ, List.set_cons_zero] at kf
      have KF := Lib.hid kf
      clear kf fin hS hS2 hT hzf hsz6 wf b1 b2 hnb hfr hch hL hE hLx hLg hrow
      go_wp2_with fail
      try simp only [Exit.inBlock, Exit.then]
      rw [← hWf]
      refine bodyPost_ret (results_cell_row (p := 2) (ty := 30) rfl _ _ _ _ _ (0, 0) _ rfl KF.out Try.underlying30 rfl (by kernel_rfl)) rfl ?_
      exact ⟨_, rfl, FIN.out⟩
end Go.Proofs.Ytmgiijdejigdhaa
