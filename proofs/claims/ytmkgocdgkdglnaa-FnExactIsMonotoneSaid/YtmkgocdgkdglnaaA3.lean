/- Printed by dec.py: plain functions and the proofs that the code computes them. No statement of the seat is proved here. -/
import Derived.Test.YtmkgocdgkdglnaaA2
namespace Go.Proofs.Ytmkgocdgkdglnaa
open Go.RowKit
set_option linter.unusedVariables false
def M_impl_allTests_L0 (fu : Nat) (p0 : T_impl_RuleSet) : Nat → Int → (List T_impl_Test) → Option (List T_impl_Test)
  | 0, _, _ => none
  | k + 1, y7, y8 =>
    bif (decide (y7 < (p0.length : Int))) then (
      ck (inR y7 p0.length) <|
      ck (lenOK (y8.length + (gtD p0 y7).length)) <|
      ck (i64B (y7 + (1 : Int))) <|
      M_impl_allTests_L0 fu p0 k (y7 + (1 : Int)) (y8 ++ (gtD p0 y7))
    ) else (
      some y8
    )
def M_impl_allTests (fu : Nat) (p0 : T_impl_RuleSet) : Option (List T_impl_Test) :=
  cl true (M_impl_allTests_L0 fu p0 fu (0 : Int) ([] : List T_impl_Test)) fun s6 =>
  some s6
set_option maxRecDepth 100000 in
set_option maxHeartbeats 4000000 in
theorem M_impl_allTests_ok {fu : Nat} {A0 : Av} {p0 : T_impl_RuleSet} {r : List T_impl_Test} (hr : M_impl_allTests fu p0 = some r) {w : World} {v0 : Value} (hA : AvOK A0 w) (h0 : Rep E_impl_RuleSet A0 w v0 p0) :
    Calls Try.prog 65 #[v0] w fun e w' => ∃ v, e = .returned v ∧ ((Res.vec w.heap.size 82 E_impl_Test r).ok (addA A0 v) v w' ∧ Fr w w') := by
  unfold M_impl_allTests at hr
  obtain ⟨w0, hw0⟩ : ∃ w0, w0 = w := ⟨_, rfl⟩
  have hF : Fr w0 w := hw0 ▸ Fr.refl _
  have hA0 : ∀ b o, A0 b o → b < w0.heap.size := fun b o h => hw0 ▸ hA b o h
  have hA00 : AvOK A0 w0 := hA0
  rw [show w.heap.size = w0.heap.size from hw0 ▸ rfl]
  rw [show Fr w = Fr w0 from hw0 ▸ rfl]
  clear hw0
  obtain ⟨A, hAe⟩ : ∃ A, A = A0 := ⟨_, rfl⟩
  have hAA : ∀ b o, A0 b o → A b o := fun b o h => hAe ▸ h
  replace hA : AvOK A w := hAe ▸ hA
  have hO : IniOK [] A w := IniOK.nil
  refine calls_of_HT2 [.tmp 2] Try.func65 Try.ntmps65 (by decide) rfl rfl (Nat.le_of_ble_eq_true rfl) ?_
  intro R hR
  have f_v0 : Rep E_impl_RuleSet A w v0 p0 := hAe ▸ h0
  replace h0 : R 0 = v0 := hR 0 _ rfl
  clear hR hAe
  refine HT.seq ?_
  refine HT.textR [] (⟨_, true, [], some (.box w0.heap.size 29 E_impl_RuleSet p0), true, fun A => .any⟩ :: ⟨_, true, [], none, true, fun A => .any⟩ :: []) (by kernel_rfl) (by kernel_rfl) (Wf.mk' (by kernel_rfl) (UAll.cons ust_any (UAll.cons ust_any (UAll.nil))) (by kernel_rfl) (by kernel_rfl)) hO hA ?_ ?_
  · exact
      OblsR.cons (OblR.made _ rfl rfl rfl rfl fun A' R' w' ho hd => by have a0 : R' 0 = v0 := (ho.old 0 rfl).trans h0; have ra0 := (f_v0.stp ho.stp).eq a0; exact made_box ra0 (Nat.le_trans hF.size ho.ch.size)) <|
      OblsR.cons (OblR.plain rfl rfl rfl rfl fun A' R' w' ho hd => by exact of_assign trivial) <|
      OblsR.nil
  intro done ρ σ A R w hdn hI
  obtain ⟨b1_0, e_b1_0⟩ := hI.boxv hdn 0 rfl rfl
  have h1 : R 1 = (.pointer (some ⟨b1_0, 0, none⟩)) := (hI.opvR hdn 0 0 rfl rfl rfl rfl rfl).symm.trans e_b1_0
  replace hAA := hI.low' hAA hA0 (hO.ge (trivial))
  replace hF : Fr w0 w := hF.tr hI.ch (hO.ge (trivial))
  replace hO : IniOK [ob (.pointer (some ⟨b1_0, 0, none⟩)) (.box w0.heap.size 29 E_impl_RuleSet p0)] A w := hI.left hdn [(0, ob (.pointer (some ⟨b1_0, 0, none⟩)) (.box w0.heap.size 29 E_impl_RuleSet p0))] ⟨rfl, rfl, e_b1_0, rfl, rfl, trivial⟩
  replace hA := hI.avok
  clear hI
  refine HT.seq ?_
  refine HT.text (l := ⟨_, true, .raw (.slice none 0 0)⟩ :: []) (tl := []) (by kernel_rfl) (by kernel_rfl) (by kernel_rfl) ?_ ?_
  · exact
      Obls.cons (Obl.plain rfl rfl fun R' w' hw hs hd => by exact of_assign rfl) <|
      Obls.nil
  intro R w hw hs hF'
  replace h1 : R 1 = (.pointer (some ⟨b1_0, 0, none⟩)) := (hs 1 rfl).trans h1
  obtain ⟨u2, n_u2⟩ : ∃ u, u = Value.slice none 0 0 := ⟨_, rfl⟩
  have h3 : R 3 = u2 := (hF' 0 _ _ rfl rfl rfl).trans n_u2.symm
  replace hO := hO.fr hw
  replace hA := hA.fr hw.size
  replace hF := hF.trans hw
  clear hs hF' hw
  refine seqR_nil ?_
  replace hO := hO.nilcons (u := u2) n_u2 w0.heap.size 82 E_impl_Test
  refine HT.seq ?_
  refine HT.seq ?_
  refine HT.text (l := ⟨_, true, .raw (.pointer (some ⟨b1_0, 0, none⟩))⟩ :: ⟨_, true, .rep (eSl E_impl_Rule) A p0⟩ :: ⟨_, true, .raw (.int .i64 (p0.length : Int))⟩ :: ⟨_, true, .raw (.int .i64 (0 : Int))⟩ :: []) (tl := []) (by kernel_rfl) (by kernel_rfl) (by kernel_rfl) ?_ ?_
  · exact
      Obls.cons (Obl.plain rfl rfl fun R' w' hw hs hd => by have a0 : R' 1 = (.pointer (some ⟨b1_0, 0, none⟩)) := (hs 1 rfl).trans h1; exact of_fieldAddr_raw a0 ff_29_0 Try.sizeOf27 (by decide) rfl) <|
      Obls.cons (Obl.plain rfl rfl fun R' w' hw hs hd => by have a0 : R' 6 = (.pointer (some ⟨b1_0, 0, none⟩)) := hd 0 _ _ _ rfl rfl rfl rfl rfl; exact (of_load_box ((hO.fr hw).ok 1 _ rfl).1 a0 fl_impl_RuleSet_0 rfl Try.isAgg27 Try.sizeOf27)) <|
      Obls.cons (Obl.plain rfl rfl fun R' w' hw hs hd => by have a0 : Rep (eSl E_impl_Rule) A w' (R' 7) p0 := hd 0 _ _ _ rfl rfl rfl rfl rfl; exact of_len_sl (aT := #[]) a0 Try.underlying27) <|
      Obls.cons (Obl.plain rfl rfl fun R' w' hw hs hd => by exact of_move rfl) <|
      Obls.nil
  intro R w hw hs hF'
  replace h3 : R 3 = u2 := (hs 3 rfl).trans h3
  obtain ⟨u3, h7, f_u3⟩ : ∃ u, R 7 = u ∧ Rep (eSl E_impl_Rule) A w u p0 := ⟨_, rfl, hF' 1 _ _ rfl rfl rfl⟩
  have h8 : R 8 = .int .i64 (p0.length : Int) := hF' 2 _ _ rfl rfl rfl
  have h9 : R 9 = .int .i64 (0 : Int) := hF' 3 _ _ rfl rfl rfl
  replace hO := hO.fr hw
  replace hO : IniOK [ob u2 (.vec w0.heap.size 82 E_impl_Test ([] : List T_impl_Test))] A w := hO.sub [(0, ob u2 (.vec w0.heap.size 82 E_impl_Test ([] : List T_impl_Test)))] ⟨rfl, rfl, trivial⟩
  replace hA := hA.fr hw.size
  replace hF := hF.trans hw
  clear hs hF' hw
  refine seqR_nil ?_
  obtain ⟨rl4, q5, hr⟩ := cl_some hr
  replace q5 := q5 rfl
  refine HT.cut0 (fun R w => ∃ A : Av, ∃ (s6 : (List T_impl_Test)) (uo_u2 : Value), rl4 = s6 ∧ AvOK A w ∧ Fr w0 w ∧ (∀ b o, A0 b o → A b o) ∧ IniOK [ob uo_u2 (.vec w0.heap.size 82 E_impl_Test s6)] A w ∧ R 3 = uo_u2) ?_ ?_
  · refine HT.block ?_
    refine HT.loop (fun k R w => ∃ A : Av, ∃ (y7 : Int) (y8 : List T_impl_Test) (ul_u2 : Value), M_impl_allTests_L0 fu p0 k y7 y8 = some rl4 ∧ AvOK A w ∧ Fr w0 w ∧ (∀ b o, A0 b o → A b o) ∧ IniOK [ob ul_u2 (.vec w0.heap.size 82 E_impl_Test y8)] A w ∧ R 3 = ul_u2 ∧ R 7 = u3 ∧ R 8 = .int .i64 (p0.length : Int) ∧ R 9 = .int .i64 y7 ∧ Rep (eSl E_impl_Rule) A w u3 p0) fu ⟨_, _, _, u2, q5, hA, hF, hAA, hO, h3, h7, h8, h9, f_u3⟩ ?_
    have hr0 := hr; clear hr q5
    rintro k R w ⟨A, y7, y8, ul_u2, hr, hA, hF, hAA, hO, h3, h7, h8, h9, f_u3⟩
    rcases k with _ | k
    · cases (show none = some _ from hr)
    rw [M_impl_allTests_L0] at hr
    refine HT.seq ?_
    refine HT.text (l := ⟨_, true, .raw (.bool (decide (y7 < (p0.length : Int))))⟩ :: []) (tl := []) (by kernel_rfl) (by kernel_rfl) (by kernel_rfl) ?_ ?_
    · exact
        Obls.cons (Obl.plain rfl rfl fun R' w' hw hs hd => by have a0 : R' 9 = .int .i64 y7 := (hs 9 rfl).trans h9; have a1 : R' 8 = .int .i64 (p0.length : Int) := (hs 8 rfl).trans h8; exact of_lss a0 a1) <|
        Obls.nil
    intro R w hw hs hF'
    replace h3 : R 3 = ul_u2 := (hs 3 rfl).trans h3
    replace h7 : R 7 = u3 := (hs 7 rfl).trans h7
    replace h8 : R 8 = .int .i64 (p0.length : Int) := (hs 8 rfl).trans h8
    replace h9 : R 9 = .int .i64 y7 := (hs 9 rfl).trans h9
    have h10 : R 10 = .bool (decide (y7 < (p0.length : Int))) := hF' 0 _ _ rfl rfl rfl
    replace f_u3 := f_u3.fr hw
    replace hO := hO.fr hw
    replace hA := hA.fr hw.size
    replace hF := hF.trans hw
    clear hs hF' hw
    refine seqR_nil ?_
    refine HT.seq ?_
    refine HT.cond (decide (y7 < (p0.length : Int))) h10 (fun c9 => ?_) (fun c9 => ?_)
    · have hr := cnd_t c9 hr
      refine HT.skip ?_
      refine HT.seq ?_
      refine HT.block ?_
      refine HT.seq ?_
      obtain ⟨e10, hr⟩ := ck_some hr
      refine HT.textR [ob ul_u2 (.vec w0.heap.size 82 E_impl_Test y8)] (⟨_, true, [], none, true, fun A => .qtr E_impl_Rule A (gtD p0 y7)⟩ :: ⟨_, true, [], none, true, fun A => .rep E_impl_Rule A (gtD p0 y7)⟩ :: ⟨_, true, [], some (.box w0.heap.size 79 E_impl_Rule ([] : List T_impl_Test)), true, fun A => .any⟩ :: ⟨_, true, [3], some (.box w0.heap.size 79 E_impl_Rule (gtD p0 y7)), false, fun A => .any⟩ :: []) (by kernel_rfl) (by kernel_rfl) (Wf.mk' (by kernel_rfl) (UAll.cons ust_qtr (UAll.cons ust_rep (UAll.cons ust_any (UAll.cons ust_any (UAll.nil))))) (by kernel_rfl) (by kernel_rfl)) hO hA ?_ ?_
      · exact
          OblsR.cons (OblR.plain rfl rfl rfl rfl fun A' R' w' ho hd => by have a0 : R' 7 = u3 := (ho.old 7 rfl).trans h7; have a1 : R' 9 = .int .i64 y7 := (ho.old 9 rfl).trans h9; have ra0 := (f_u3.stp ho.stp).eq a0; exact of_indexAddr ra0 a1 Try.underlying27 Try.sizeOf79 e10) <|
          OblsR.cons (OblR.plain rfl rfl rfl rfl fun A' R' w' ho hd => by have a0 : QRep E_impl_Rule A' w' (R' 11) (gtD p0 y7) := hd 0 _ _ _ rfl rfl rfl rfl rfl; exact (of_load a0.ptr Try.isAgg79 Try.sizeOf79)) <|
          OblsR.cons (OblR.made _ rfl rfl rfl rfl fun A' R' w' ho hd => by exact made_alloc Try.zeroValue79 (fun A w => rep1_nil) (Nat.le_trans hF.size ho.ch.size)) <|
          OblsR.cons (OblR.took 3 _ _ rfl rfl rfl rfl rfl fun A' R' w' ho hd u hok hav hin hop hds => by have a1 : Rep E_impl_Rule A' w' (R' 12) (gtD p0 y7) := hd 1 _ _ _ rfl rfl rfl rfl rfl; obtain ⟨b, hb, hB', hbx⟩ := hok; have hop' := hop _ _ rfl rfl rfl rfl; exact took_store a1 (hop'.symm.trans hb) hb ⟨b, hb, hB', hbx⟩ hav (FldS.id _) Try.sizeOf79 rfl) <|
          OblsR.nil
      intro done ρ σ A R w hdn hI
      replace h3 : R 3 = ul_u2 := (hI.reg rfl).trans h3
      replace h7 : R 7 = u3 := (hI.reg rfl).trans h7
      replace h8 : R 8 = .int .i64 (p0.length : Int) := (hI.reg rfl).trans h8
      replace h9 : R 9 = .int .i64 y7 := (hI.reg rfl).trans h9
      have z11 := hI.inivR 0 rfl
      obtain ⟨b5_11, e_b5_11⟩ := hI.boxv hdn 4 rfl rfl
      have z13 := (hI.opnR hdn 4 3 rfl rfl rfl rfl rfl).symm.trans e_b5_11
      have h5 : R 5 = (.pointer (some ⟨b5_11, 0, none⟩)) := (hI.opvR hdn 3 2 rfl rfl rfl rfl rfl).symm.trans z13
      replace f_u3 := f_u3.stp hI.stp
      replace hAA := hI.low' hAA hA0 (hO.ge (⟨rfl, trivial⟩))
      replace hF : Fr w0 w := hF.tr hI.ch (hO.ge (⟨rfl, trivial⟩))
      replace hO : IniOK [ob ul_u2 (.vec w0.heap.size 82 E_impl_Test y8), ob (.pointer (some ⟨b5_11, 0, none⟩)) (.box w0.heap.size 79 E_impl_Rule (gtD p0 y7))] A w := hI.left hdn [(0, ob ul_u2 (.vec w0.heap.size 82 E_impl_Test y8)), (4, ob (.pointer (some ⟨b5_11, 0, none⟩)) (.box w0.heap.size 79 E_impl_Rule (gtD p0 y7)))] ⟨rfl, rfl, z11, rfl, rfl, ⟨rfl, rfl, e_b5_11, rfl, rfl, trivial⟩⟩
      replace hA := hI.avok
      clear hI
      obtain ⟨e14, hr⟩ := ck_some hr
      refine HT.textR [ob ul_u2 (.vec w0.heap.size 82 E_impl_Test y8), ob (.pointer (some ⟨b5_11, 0, none⟩)) (.box w0.heap.size 79 E_impl_Rule (gtD p0 y7))] (⟨_, true, [], none, true, fun A => .raw ul_u2⟩ :: ⟨_, true, [], none, true, fun A => .raw (.pointer (some ⟨b5_11, 0, none⟩))⟩ :: ⟨_, true, [], none, true, fun A => .rep (eSl E_impl_Test) A (gtD p0 y7)⟩ :: ⟨_, true, [0], some (.vec w0.heap.size 82 E_impl_Test (y8 ++ (gtD p0 y7))), true, fun A => .any⟩ :: ⟨_, true, [5], some (.vec w0.heap.size 82 E_impl_Test (y8 ++ (gtD p0 y7))), true, fun A => .any⟩ :: []) (by kernel_rfl) (by kernel_rfl) (Wf.mk' (by kernel_rfl) (UAll.cons ust_raw (UAll.cons ust_raw (UAll.cons ust_rep (UAll.cons ust_any (UAll.cons ust_any (UAll.nil)))))) (by kernel_rfl) (by kernel_rfl)) hO hA ?_ ?_
      · exact
          OblsR.cons (OblR.plain rfl rfl rfl rfl fun A' R' w' ho hd => by have a0 : R' 3 = ul_u2 := (ho.old 3 rfl).trans h3; exact of_move a0) <|
          OblsR.cons (OblR.plain rfl rfl rfl rfl fun A' R' w' ho hd => by have a0 : R' 5 = (.pointer (some ⟨b5_11, 0, none⟩)) := (ho.old 5 rfl).trans h5; exact of_fieldAddr_raw a0 ff_79_0 Try.sizeOf65 (by decide) rfl) <|
          OblsR.cons (OblR.plain rfl rfl rfl rfl fun A' R' w' ho hd => by have a0 : R' 14 = (.pointer (some ⟨b5_11, 0, none⟩)) := hd 0 _ _ _ rfl rfl rfl rfl rfl; exact (of_load_box (ho.rd 1 _ rfl rfl) a0 fl_impl_Rule_0 rfl Try.isAgg65 Try.sizeOf65)) <|
          OblsR.cons (OblR.took 0 _ _ rfl rfl rfl rfl rfl fun A' R' w' ho hd u hok hav hin hop hds => by have a0 : R' 13 = ul_u2 := hd 0 _ _ _ rfl rfl rfl rfl rfl; have a1 : Rep (eSl E_impl_Test) A' w' (R' 15) (gtD p0 y7) := hd 1 _ _ _ rfl rfl rfl rfl rfl; exact took_append (a0.trans (hin _ rfl).symm) hok hav (Nat.le_trans hF.size ho.ch.size) a1 Try.underlying65 el_82 e14) <|
          OblsR.cons (OblR.took 5 _ _ rfl rfl rfl rfl rfl fun A' R' w' ho hd u hok hav hin hop hds => by exact took_assign (hop _ _ rfl rfl rfl rfl).symm hok hav) <|
          OblsR.nil
      intro done ρ σ A R w hdn hI
      replace h7 : R 7 = u3 := (hI.reg rfl).trans h7
      replace h8 : R 8 = .int .i64 (p0.length : Int) := (hI.reg rfl).trans h8
      replace h9 : R 9 = .int .i64 y7 := (hI.reg rfl).trans h9
      obtain ⟨u15, e_u15⟩ : ∃ u, ρ 6 = u := ⟨_, rfl⟩
      have h3 : R 3 = u15 := (hI.opvR hdn 6 4 rfl rfl rfl rfl rfl).symm.trans e_u15
      have z16 := hI.inivR 1 rfl
      replace f_u3 := f_u3.stp hI.stp
      replace hAA := hI.low' hAA hA0 (hO.ge (⟨rfl, ⟨rfl, trivial⟩⟩))
      replace hF : Fr w0 w := hF.tr hI.ch (hO.ge (⟨rfl, ⟨rfl, trivial⟩⟩))
      replace hO : IniOK [ob u15 (.vec w0.heap.size 82 E_impl_Test (y8 ++ (gtD p0 y7)))] A w := hI.left hdn [(6, ob u15 (.vec w0.heap.size 82 E_impl_Test (y8 ++ (gtD p0 y7))))] ⟨rfl, rfl, e_u15, rfl, rfl, trivial⟩
      replace hA := hI.avok
      clear hI
      obtain ⟨e17, hr⟩ := ck_some hr
      refine HT.text (l := ⟨_, true, .raw (.int .i64 (y7 + (1 : Int)))⟩ :: ⟨_, true, .raw (.int .i64 (y7 + (1 : Int)))⟩ :: []) (tl := []) (by kernel_rfl) (by kernel_rfl) (by kernel_rfl) ?_ ?_
      · exact
          Obls.cons (Obl.plain rfl rfl fun R' w' hw hs hd => by have a0 : R' 9 = .int .i64 y7 := (hs 9 rfl).trans h9; exact of_add a0 rfl e17) <|
          Obls.cons (Obl.plain rfl rfl fun R' w' hw hs hd => by have a0 : R' 17 = .int .i64 (y7 + (1 : Int)) := hd 0 _ _ _ rfl rfl rfl rfl rfl; exact of_move a0) <|
          Obls.nil
      intro R w hw hs hF'
      replace h3 : R 3 = u15 := (hs 3 rfl).trans h3
      replace h7 : R 7 = u3 := (hs 7 rfl).trans h7
      replace h8 : R 8 = .int .i64 (p0.length : Int) := (hs 8 rfl).trans h8
      have h9 : R 9 = .int .i64 (y7 + (1 : Int)) := hF' 1 _ _ rfl rfl rfl
      replace f_u3 := f_u3.fr hw
      replace hO := hO.fr hw
      replace hA := hA.fr hw.size
      replace hF := hF.trans hw
      clear hs hF' hw
      refine seqR_nil ?_
      exact Exists.intro k (And.intro (Nat.lt_succ_self k) ⟨_, _, _, u15, hr, hA, hF, hAA, hO, h3, h7, h8, h9, f_u3⟩)
    · have hr := cnd_f c9 hr
      refine HT.exit ?_
      obtain rfl := Option.some.inj hr
      exact Exists.intro _ ⟨_, ul_u2, rfl, hA, hF, hAA, hO, h3⟩
  rintro R w ⟨A, s6, uo_u2, es, hA, hF, hAA, hO, h3⟩
  obtain rfl := es.symm
  refine HT.seq ?_
  refine HT.text (l := ⟨_, true, .raw uo_u2⟩ :: ⟨_, true, .raw uo_u2⟩ :: []) (tl := []) (by kernel_rfl) (by kernel_rfl) (by kernel_rfl) ?_ ?_
  · exact
      Obls.cons (Obl.plain rfl rfl fun R' w' hw hs hd => by have a0 : R' 3 = uo_u2 := (hs 3 rfl).trans h3; exact of_move a0) <|
      Obls.cons (Obl.plain rfl rfl fun R' w' hw hs hd => by have a0 : R' 18 = uo_u2 := hd 0 _ _ _ rfl rfl rfl rfl rfl; exact of_assign a0) <|
      Obls.nil
  intro R w hw hs hF'
  have h2 : R 2 = uo_u2 := hF' 1 _ _ rfl rfl rfl
  replace hO := hO.fr hw
  replace hA := hA.fr hw.size
  replace hF := hF.trans hw
  clear hs hF' hw
  refine seqR_nil ?_
  refine HT.ret ?_
  obtain rfl := Option.some.inj hr
  exact ⟨.inr rfl, [R 2], ⟨rfl, trivial⟩, (own_post (hO.ok 0 _ rfl) hAA h2), hF⟩
theorem M_impl_allTests_okR {fu : Nat} {A0 : Av} {p0 : T_impl_RuleSet} {r : List T_impl_Test} (hr : M_impl_allTests fu p0 = some r) {w : World} {v0 : Value} (hA : AvOK A0 w) (h0 : Rep E_impl_RuleSet A0 w v0 p0) :
    Calls Try.prog 65 #[v0] w fun e w' => ∃ v, e = .returned v ∧ (Rep (eSl E_impl_Test) A0 w' v r ∧ Fr w w') := by
  refine Calls.mono (M_impl_allTests_ok hr hA h0) ?_
  rintro e w' ⟨v, he, hv, hf⟩
  exact ⟨v, he, vec_rep hv (fun b o h => .inl h) hA, hf⟩
def M_slices_Compact_int_int_L1 (fu : Nat) (y5 : Int) (x13 : Nat) : Nat → Int → Int → (List Int) → Option (Int × (List Int))
  | 0, _, _, _ => none
  | k + 1, y18, y19, y20 =>
    bif (decide (y19 < (x13 : Int))) then (
      ck (inR y19 x13) <|
      ck (decide (0 ≤ y5)) <|
      ck (inR (y5 + y19) y20.length) <|
      ck (i64B (y19 - (1 : Int))) <|
      ck (inR (y19 - (1 : Int)) x13) <|
      ck (decide (0 ≤ y5)) <|
      ck (inR (y5 + (y19 - (1 : Int))) y20.length) <|
      bif ((gtD y20 (y5 + y19)) != (gtD y20 (y5 + (y19 - (1 : Int))))) then (
        ck (inR y19 x13) <|
        ck (decide (0 ≤ y5)) <|
        ck (inR (y5 + y19) y20.length) <|
        ck (inR y18 y20.length) <|
        ck (i64B (y18 + (1 : Int))) <|
        ck (i64B (y19 + (1 : Int))) <|
        M_slices_Compact_int_int_L1 fu y5 x13 k (y18 + (1 : Int)) (y19 + (1 : Int)) (y20.set y18.toNat (gtD y20 (y5 + y19)))
      ) else (
        ck (i64B (y19 + (1 : Int))) <|
        M_slices_Compact_int_int_L1 fu y5 x13 k y18 (y19 + (1 : Int)) y20
      )
    ) else (
      some (y18, y20)
    )
def M_slices_Compact_int_int_L0 (fu : Nat) : Nat → Int → (List Int) → Option (Ex (List Int) (List Int))
  | 0, _, _ => none
  | k + 1, y5, y6 =>
    bif (decide (y5 < (y6.length : Int))) then (
      ck (inR y5 y6.length) <|
      ck (i64B (y5 - (1 : Int))) <|
      ck (inR (y5 - (1 : Int)) y6.length) <|
      bif ((gtD y6 y5) == (gtD y6 (y5 - (1 : Int)))) then (
        ck (subR y5 (y6.length : Int) y6.length) <|
        bd ((y6.length : Int).toNat - y5.toNat) fun x13 =>
        cl true (M_slices_Compact_int_int_L1 fu y5 x13 fu y5 (1 : Int) y6) fun s17 =>
        ck (subR s17.1 (s17.2.length : Int) s17.2.length) <|
        bd ((s17.2.length : Int).toNat - s17.1.toNat) fun x40 =>
        ck (subR s17.1 s17.2.length s17.2.length) <|
        ck (x40 == s17.2.length - s17.1.toNat) <|
        ck (subR 0 s17.1 (s17.2.take s17.1.toNat ++ List.replicate (s17.2.length - s17.1.toNat) (0 : Int)).length) <|
        some (Ex.ret (subL (s17.2.take s17.1.toNat ++ List.replicate (s17.2.length - s17.1.toNat) (0 : Int)) 0 s17.1))
      ) else (
        ck (i64B (y5 + (1 : Int))) <|
        M_slices_Compact_int_int_L0 fu k (y5 + (1 : Int)) y6
      )
    ) else (
      some (Ex.go y6)
    )
def M_slices_Compact_int_int (fu : Nat) (p0 : List Int) : Option (List Int) :=
  bif (decide ((p0.length : Int) < (2 : Int))) then (
    some p0
  ) else (
    cl true (M_slices_Compact_int_int_L0 fu fu (1 : Int) p0) fun rl2 =>
    exM rl2 (fun r => some r) fun s4 =>
    some s4
  )
set_option maxRecDepth 100000 in
set_option maxHeartbeats 4000000 in
theorem M_slices_Compact_int_int_ok {fu : Nat} {A0 : Av} {p0 : List Int} {r : List Int} (hr : M_slices_Compact_int_int fu p0 = some r) {w : World} {v0 : Value} {B0 : Nat} (hA : AvOK A0 w) (hN : ∀ b o, A0 b o → ¬ ownsB v0 b) (h0 : (Res.vec B0 3 (eInt .i64) p0).ok A0 v0 w) :
    Calls Try.prog 67 #[v0] w fun e w' => ∃ v, e = .returned v ∧ Took (addA A0 v0) true v0 (.vec B0 3 (eInt .i64) r) (fun _ => .any) w v w' := by
  unfold M_slices_Compact_int_int at hr
  obtain ⟨w0, hw0⟩ : ∃ w0, w0 = w := ⟨_, rfl⟩
  have hF : Ch (ownsB v0) w0 w := hw0 ▸ Ch.refl _ _
  have hA0 : ∀ b o, A0 b o → b < w0.heap.size := fun b o h => hw0 ▸ hA b o h
  have hA00 : AvOK A0 w0 := hA0
  rw [show Took (addA A0 v0) true v0 (.vec B0 3 (eInt .i64) r) (fun _ => .any) w = Took (addA A0 v0) true v0 (.vec B0 3 (eInt .i64) r) (fun _ => .any) w0 from hw0 ▸ rfl]
  clear hw0
  obtain ⟨A, hAe⟩ : ∃ A, A = addA A0 v0 := ⟨_, rfl⟩
  have hAA : ∀ b o, A0 b o → A b o := fun b o h => hAe ▸ .inl h
  replace hA : AvOK A w := hAe ▸ hA.one h0
  have hO : IniOK [ob v0 (.vec B0 3 (eInt .i64) p0)] A w := hAe ▸ IniOK.one h0 (fun _ _ _ _ _ h => h)
  refine calls_of_HT2 [.tmp 2] Try.func67 Try.ntmps67 (by decide) rfl rfl (Nat.le_of_ble_eq_true rfl) ?_
  intro R hR
  replace h0 : R 0 = v0 := hR 0 _ rfl
  clear hR hAe
  refine HT.seq ?_
  refine HT.text (l := ⟨_, true, .any⟩ :: []) (tl := []) (by kernel_rfl) (by kernel_rfl) (by kernel_rfl) ?_ ?_
  · exact
      Obls.cons (Obl.plain rfl rfl fun R' w' hw hs hd => by exact of_assign trivial) <|
      Obls.nil
  intro R w hw hs hF'
  replace h0 : R 0 = v0 := (hs 0 rfl).trans h0
  replace hO := hO.fr hw
  replace hA := hA.fr hw.size
  replace hF := hF.tr (hw.ch noB) fun _ h => False.elim h
  clear hs hF' hw
  refine seqR_nil ?_
  refine HT.seq ?_
  refine HT.seq ?_
  refine HT.text (l := ⟨_, true, .raw v0⟩ :: ⟨_, true, .raw (.int .i64 (p0.length : Int))⟩ :: ⟨_, true, .raw (.bool (decide ((p0.length : Int) < (2 : Int))))⟩ :: []) (tl := []) (by kernel_rfl) (by kernel_rfl) (by kernel_rfl) ?_ ?_
  · exact
      Obls.cons (Obl.plain rfl rfl fun R' w' hw hs hd => by have a0 : R' 0 = v0 := (hs 0 rfl).trans h0; exact of_move a0) <|
      Obls.cons (Obl.plain rfl rfl fun R' w' hw hs hd => by have a0 : R' 6 = v0 := hd 0 _ _ _ rfl rfl rfl rfl rfl; exact of_len_vec (hO.ok 0 _ rfl).1 a0 Try.underlying33) <|
      Obls.cons (Obl.plain rfl rfl fun R' w' hw hs hd => by have a0 : R' 7 = .int .i64 (p0.length : Int) := hd 0 _ _ _ rfl rfl rfl rfl rfl; exact of_lss a0 rfl) <|
      Obls.nil
  intro R w hw hs hF'
  replace h0 : R 0 = v0 := (hs 0 rfl).trans h0
  have h8 : R 8 = .bool (decide ((p0.length : Int) < (2 : Int))) := hF' 2 _ _ rfl rfl rfl
  replace hO := hO.fr hw
  replace hA := hA.fr hw.size
  replace hF := hF.tr (hw.ch noB) fun _ h => False.elim h
  clear hs hF' hw
  refine seqR_nil ?_
  refine HT.cond (decide ((p0.length : Int) < (2 : Int))) h8 (fun c1 => ?_) (fun c1 => ?_)
  · have hr := cnd_t c1 hr
    refine HT.seq ?_
    refine HT.text (l := ⟨_, true, .raw v0⟩ :: ⟨_, true, .raw v0⟩ :: []) (tl := []) (by kernel_rfl) (by kernel_rfl) (by kernel_rfl) ?_ ?_
    · exact
        Obls.cons (Obl.plain rfl rfl fun R' w' hw hs hd => by have a0 : R' 0 = v0 := (hs 0 rfl).trans h0; exact of_move a0) <|
        Obls.cons (Obl.plain rfl rfl fun R' w' hw hs hd => by have a0 : R' 9 = v0 := hd 0 _ _ _ rfl rfl rfl rfl rfl; exact of_assign a0) <|
        Obls.nil
    intro R w hw hs hF'
    have h2 : R 2 = v0 := hF' 1 _ _ rfl rfl rfl
    replace hO := hO.fr hw
    replace hA := hA.fr hw.size
    replace hF := hF.tr (hw.ch noB) fun _ h => False.elim h
    clear hs hF' hw
    refine seqR_nil ?_
    refine HT.ret ?_
    obtain rfl := Option.some.inj hr
    exact ⟨.inr rfl, [R 2], ⟨rfl, trivial⟩, by show Took _ true _ _ _ w0 (R 2) w; rw [h2]; exact took_post (fun k h o => .inr h) hF (hO.ok 0 _ rfl).1 (hO.own_ge (⟨.inr (fun k h => .inr h), trivial⟩) (i := 0) rfl) (fun _ _ _ _ _ h => h)⟩
  · have hr := cnd_f c1 hr
    refine HT.skip ?_
    refine HT.seq ?_
    refine HT.seq ?_
    refine HT.text (l := ⟨_, true, .raw (.int .i64 (1 : Int))⟩ :: []) (tl := []) (by kernel_rfl) (by kernel_rfl) (by kernel_rfl) ?_ ?_
    · exact
        Obls.cons (Obl.plain rfl rfl fun R' w' hw hs hd => by exact of_assign rfl) <|
        Obls.nil
    intro R w hw hs hF'
    replace h0 : R 0 = v0 := (hs 0 rfl).trans h0
    have h3 : R 3 = .int .i64 (1 : Int) := hF' 0 _ _ rfl rfl rfl
    replace hO := hO.fr hw
    replace hA := hA.fr hw.size
    replace hF := hF.tr (hw.ch noB) fun _ h => False.elim h
    clear hs hF' hw
    refine seqR_nil ?_
    obtain ⟨rl2, q3, hr⟩ := cl_some hr
    replace q3 := q3 rfl
    refine HT.cut0 (fun R w => ∃ A : Av, ∃ (s4 : (List Int)), rl2 = Ex.go s4 ∧ AvOK A w ∧ Ch (ownsB v0) w0 w ∧ (∀ b o, A0 b o → A b o) ∧ IniOK [ob v0 (.vec B0 3 (eInt .i64) s4)] A w ∧ R 0 = v0) ?_ ?_
    · refine HT.block ?_
      refine HT.loop (fun k R w => ∃ A : Av, ∃ (y5 : Int) (y6 : List Int), M_slices_Compact_int_int_L0 fu k y5 y6 = some rl2 ∧ AvOK A w ∧ Ch (ownsB v0) w0 w ∧ (∀ b o, A0 b o → A b o) ∧ IniOK [ob v0 (.vec B0 3 (eInt .i64) y6)] A w ∧ R 0 = v0 ∧ R 3 = .int .i64 y5) fu ⟨_, _, _, q3, hA, hF, hAA, hO, h0, h3⟩ ?_
      have hr0 := hr; clear hr q3
      rintro k R w ⟨A, y5, y6, hr, hA, hF, hAA, hO, h0, h3⟩
      rcases k with _ | k
      · cases (show none = some _ from hr)
      rw [M_slices_Compact_int_int_L0] at hr
      refine HT.seq ?_
      refine HT.seq ?_
      refine HT.text (l := ⟨_, true, .raw (.int .i64 y5)⟩ :: ⟨_, true, .raw v0⟩ :: ⟨_, true, .raw (.int .i64 (y6.length : Int))⟩ :: ⟨_, true, .raw (.bool (decide (y5 < (y6.length : Int))))⟩ :: []) (tl := []) (by kernel_rfl) (by kernel_rfl) (by kernel_rfl) ?_ ?_
      · exact
          Obls.cons (Obl.plain rfl rfl fun R' w' hw hs hd => by have a0 : R' 3 = .int .i64 y5 := (hs 3 rfl).trans h3; exact of_move a0) <|
          Obls.cons (Obl.plain rfl rfl fun R' w' hw hs hd => by have a0 : R' 0 = v0 := (hs 0 rfl).trans h0; exact of_move a0) <|
          Obls.cons (Obl.plain rfl rfl fun R' w' hw hs hd => by have a0 : R' 11 = v0 := hd 0 _ _ _ rfl rfl rfl rfl rfl; exact of_len_vec (hO.ok 0 _ rfl).1 a0 Try.underlying33) <|
          Obls.cons (Obl.plain rfl rfl fun R' w' hw hs hd => by have a0 : R' 10 = .int .i64 y5 := hd 0 _ _ _ rfl rfl rfl rfl rfl; have a1 : R' 12 = .int .i64 (y6.length : Int) := hd 1 _ _ _ rfl rfl rfl rfl rfl; exact of_lss a0 a1) <|
          Obls.nil
      intro R w hw hs hF'
      replace h0 : R 0 = v0 := (hs 0 rfl).trans h0
      replace h3 : R 3 = .int .i64 y5 := (hs 3 rfl).trans h3
      have h13 : R 13 = .bool (decide (y5 < (y6.length : Int))) := hF' 3 _ _ rfl rfl rfl
      replace hO := hO.fr hw
      replace hA := hA.fr hw.size
      replace hF := hF.tr (hw.ch noB) fun _ h => False.elim h
      clear hs hF' hw
      refine seqR_nil ?_
      refine HT.cond (decide (y5 < (y6.length : Int))) h13 (fun c7 => ?_) (fun c7 => ?_)
      · have hr := cnd_t c7 hr
        refine HT.skip ?_
        refine HT.seq ?_
        refine HT.block ?_
        refine HT.seq ?_
        obtain ⟨e8, hr⟩ := ck_some hr
        obtain ⟨e9, hr⟩ := ck_some hr
        obtain ⟨e10, hr⟩ := ck_some hr
        refine HT.draw (by kernel_rfl) (l := ⟨_, true, .raw v0⟩ :: ⟨_, true, .raw (.int .i64 y5)⟩ :: ⟨_, true, .raw (vptr v0 (y5.toNat * 1))⟩ :: ⟨_, true, .raw (.int .i64 (gtD y6 y5))⟩ :: ⟨_, true, .raw v0⟩ :: ⟨_, true, .raw (.int .i64 y5)⟩ :: ⟨_, true, .raw (.int .i64 (y5 - (1 : Int)))⟩ :: ⟨_, true, .raw (vptr v0 ((y5 - (1 : Int)).toNat * 1))⟩ :: ⟨_, true, .raw (.int .i64 (gtD y6 (y5 - (1 : Int))))⟩ :: ⟨_, true, .raw (.bool ((gtD y6 y5) == (gtD y6 (y5 - (1 : Int)))))⟩ :: []) (tl := []) (by kernel_rfl) (by kernel_rfl) (by kernel_rfl) (by kernel_rfl) ?_ ?_
        · exact
            Obls.cons (Obl.plain rfl rfl fun R' w' hw hs hd => by have a0 : R' 0 = v0 := (hs 0 rfl).trans h0; exact of_move a0) <|
            Obls.cons (Obl.plain rfl rfl fun R' w' hw hs hd => by have a0 : R' 3 = .int .i64 y5 := (hs 3 rfl).trans h3; exact of_move a0) <|
            Obls.cons (Obl.plain rfl rfl fun R' w' hw hs hd => by have a0 : R' 16 = v0 := hd 0 _ _ _ rfl rfl rfl rfl rfl; have a1 : R' 17 = .int .i64 y5 := hd 1 _ _ _ rfl rfl rfl rfl rfl; exact of_indexAddr_vec (hO.ok 0 _ rfl).1 a0 a1 Try.underlying33 Try.sizeOf3 e8 rfl) <|
            Obls.cons (Obl.plain rfl rfl fun R' w' hw hs hd => by have a0 : R' 18 = (vptr v0 (y5.toNat * 1)) := hd 0 _ _ _ rfl rfl rfl rfl rfl; exact OpF.int (of_load_vec ((hO.fr hw).ok 0 _ rfl).1 a0 e8 rfl (Fld.id _) rfl Try.isAgg3 Try.sizeOf3)) <|
            Obls.cons (Obl.plain rfl rfl fun R' w' hw hs hd => by have a0 : R' 0 = v0 := (hs 0 rfl).trans h0; exact of_move a0) <|
            Obls.cons (Obl.plain rfl rfl fun R' w' hw hs hd => by have a0 : R' 3 = .int .i64 y5 := (hs 3 rfl).trans h3; exact of_move a0) <|
            Obls.cons (Obl.plain rfl rfl fun R' w' hw hs hd => by have a0 : R' 21 = .int .i64 y5 := hd 0 _ _ _ rfl rfl rfl rfl rfl; exact of_sub a0 rfl e9) <|
            Obls.cons (Obl.plain rfl rfl fun R' w' hw hs hd => by have a0 : R' 20 = v0 := hd 0 _ _ _ rfl rfl rfl rfl rfl; have a1 : R' 22 = .int .i64 (y5 - (1 : Int)) := hd 1 _ _ _ rfl rfl rfl rfl rfl; exact of_indexAddr_vec (hO.ok 0 _ rfl).1 a0 a1 Try.underlying33 Try.sizeOf3 e10 rfl) <|
            Obls.cons (Obl.plain rfl rfl fun R' w' hw hs hd => by have a0 : R' 23 = (vptr v0 ((y5 - (1 : Int)).toNat * 1)) := hd 0 _ _ _ rfl rfl rfl rfl rfl; exact OpF.int (of_load_vec ((hO.fr hw).ok 0 _ rfl).1 a0 e10 rfl (Fld.id _) rfl Try.isAgg3 Try.sizeOf3)) <|
            Obls.cons (Obl.plain rfl rfl fun R' w' hw hs hd => by have a0 : R' 19 = .int .i64 (gtD y6 y5) := hd 0 _ _ _ rfl rfl rfl rfl rfl; have a1 : R' 24 = .int .i64 (gtD y6 (y5 - (1 : Int))) := hd 1 _ _ _ rfl rfl rfl rfl rfl; exact of_eql a0 a1) <|
            Obls.nil
        intro R w hw hs hF'
        replace h0 : R 0 = v0 := (hs 0 rfl).trans h0
        replace h3 : R 3 = .int .i64 y5 := (hs 3 rfl).trans h3
        have h25 : R 25 = .bool ((gtD y6 y5) == (gtD y6 (y5 - (1 : Int)))) := hF' 9 _ _ rfl rfl rfl
        replace hO := hO.fr hw
        replace hA := hA.fr hw.size
        replace hF := hF.tr (hw.ch noB) fun _ h => False.elim h
        clear hs hF' hw
        refine seqR_nil ?_
        refine HT.cond ((gtD y6 y5) == (gtD y6 (y5 - (1 : Int)))) h25 (fun c11 => ?_) (fun c11 => ?_)
        · have hr := cnd_t c11 hr
          refine HT.seq ?_
          obtain ⟨e12, hr⟩ := ck_some hr
          obtain ⟨x13, q14, hr⟩ := bd_some hr
          refine HT.text (l := ⟨_, true, .raw v0⟩ :: ⟨_, true, .raw (.int .i64 y5)⟩ :: ⟨_, true, .raw (vsub v0 y5.toNat x13 1)⟩ :: ⟨_, true, .raw (vsub v0 y5.toNat x13 1)⟩ :: []) (tl := []) (by kernel_rfl) (by kernel_rfl) (by kernel_rfl) ?_ ?_
          · exact
              Obls.cons (Obl.plain rfl rfl fun R' w' hw hs hd => by have a0 : R' 0 = v0 := (hs 0 rfl).trans h0; exact of_move a0) <|
              Obls.cons (Obl.plain rfl rfl fun R' w' hw hs hd => by have a0 : R' 3 = .int .i64 y5 := (hs 3 rfl).trans h3; exact of_move a0) <|
              Obls.cons (Obl.plain rfl rfl fun R' w' hw hs hd => by have a0 : R' 26 = v0 := hd 0 _ _ _ rfl rfl rfl rfl rfl; have a1 : R' 27 = .int .i64 y5 := hd 1 _ _ _ rfl rfl rfl rfl rfl; exact (q14 ▸ of_view (hO.ok 0 _ rfl).1 a0 a1 Try.underlying33 Try.sizeOf3 e12)) <|
              Obls.cons (Obl.plain rfl rfl fun R' w' hw hs hd => by have a0 : R' 28 = (vsub v0 y5.toNat x13 1) := hd 0 _ _ _ rfl rfl rfl rfl rfl; exact of_assign a0) <|
              Obls.nil
          intro R w hw hs hF'
          replace h0 : R 0 = v0 := (hs 0 rfl).trans h0
          replace h3 : R 3 = .int .i64 y5 := (hs 3 rfl).trans h3
          have h4 : R 4 = (vsub v0 y5.toNat x13 1) := hF' 3 _ _ rfl rfl rfl
          replace hO := hO.fr hw
          replace hA := hA.fr hw.size
          replace hF := hF.tr (hw.ch noB) fun _ h => False.elim h
          clear hs hF' hw
          refine seqR_nil ?_
          refine HT.seq ?_
          refine HT.seq ?_
          refine HT.text (l := ⟨_, true, .raw (.int .i64 (1 : Int))⟩ :: []) (tl := []) (by kernel_rfl) (by kernel_rfl) (by kernel_rfl) ?_ ?_
          · exact
              Obls.cons (Obl.plain rfl rfl fun R' w' hw hs hd => by exact of_assign rfl) <|
              Obls.nil
          intro R w hw hs hF'
          replace h0 : R 0 = v0 := (hs 0 rfl).trans h0
          replace h3 : R 3 = .int .i64 y5 := (hs 3 rfl).trans h3
          replace h4 : R 4 = (vsub v0 y5.toNat x13 1) := (hs 4 rfl).trans h4
          have h5 : R 5 = .int .i64 (1 : Int) := hF' 0 _ _ rfl rfl rfl
          replace hO := hO.fr hw
          replace hA := hA.fr hw.size
          replace hF := hF.tr (hw.ch noB) fun _ h => False.elim h
          clear hs hF' hw
          refine seqR_nil ?_
          obtain ⟨rl15, q16, hr⟩ := cl_some hr
          replace q16 := q16 rfl
          refine HT.cut0 (fun R w => ∃ A : Av, ∃ (s17 : Int × (List Int)), rl15 = s17 ∧ AvOK A w ∧ Ch (ownsB v0) w0 w ∧ (∀ b o, A0 b o → A b o) ∧ IniOK [ob v0 (.vec B0 3 (eInt .i64) s17.2)] A w ∧ R 0 = v0 ∧ R 3 = .int .i64 s17.1) ?_ ?_
          · refine HT.block ?_
            refine HT.loop (fun k R w => ∃ A : Av, ∃ (y18 : Int) (y19 : Int) (y20 : List Int), M_slices_Compact_int_int_L1 fu y5 x13 k y18 y19 y20 = some rl15 ∧ AvOK A w ∧ Ch (ownsB v0) w0 w ∧ (∀ b o, A0 b o → A b o) ∧ IniOK [ob v0 (.vec B0 3 (eInt .i64) y20)] A w ∧ R 0 = v0 ∧ R 3 = .int .i64 y18 ∧ R 4 = (vsub v0 y5.toNat x13 1) ∧ R 5 = .int .i64 y19) fu ⟨_, _, _, _, q16, hA, hF, hAA, hO, h0, h3, h4, h5⟩ ?_
            have hr1 := hr; clear hr q16
            rintro k R w ⟨A, y18, y19, y20, hr, hA, hF, hAA, hO, h0, h3, h4, h5⟩
            rcases k with _ | k
            · cases (show none = some _ from hr)
            rw [M_slices_Compact_int_int_L1] at hr
            refine HT.seq ?_
            refine HT.seq ?_
            refine HT.text (l := ⟨_, true, .raw (.int .i64 y19)⟩ :: ⟨_, true, .raw (vsub v0 y5.toNat x13 1)⟩ :: ⟨_, true, .raw (.int .i64 (x13 : Int))⟩ :: ⟨_, true, .raw (.bool (decide (y19 < (x13 : Int))))⟩ :: []) (tl := []) (by kernel_rfl) (by kernel_rfl) (by kernel_rfl) ?_ ?_
            · exact
                Obls.cons (Obl.plain rfl rfl fun R' w' hw hs hd => by have a0 : R' 5 = .int .i64 y19 := (hs 5 rfl).trans h5; exact of_move a0) <|
                Obls.cons (Obl.plain rfl rfl fun R' w' hw hs hd => by have a0 : R' 4 = (vsub v0 y5.toNat x13 1) := (hs 4 rfl).trans h4; exact of_move a0) <|
                Obls.cons (Obl.plain rfl rfl fun R' w' hw hs hd => by have a0 : R' 30 = (vsub v0 y5.toNat x13 1) := hd 0 _ _ _ rfl rfl rfl rfl rfl; exact of_len_view (hO.ok 0 _ rfl).1 a0 Try.underlying33) <|
                Obls.cons (Obl.plain rfl rfl fun R' w' hw hs hd => by have a0 : R' 29 = .int .i64 y19 := hd 0 _ _ _ rfl rfl rfl rfl rfl; have a1 : R' 31 = .int .i64 (x13 : Int) := hd 1 _ _ _ rfl rfl rfl rfl rfl; exact of_lss a0 a1) <|
                Obls.nil
            intro R w hw hs hF'
            replace h0 : R 0 = v0 := (hs 0 rfl).trans h0
            replace h3 : R 3 = .int .i64 y18 := (hs 3 rfl).trans h3
            replace h4 : R 4 = (vsub v0 y5.toNat x13 1) := (hs 4 rfl).trans h4
            replace h5 : R 5 = .int .i64 y19 := (hs 5 rfl).trans h5
            have h32 : R 32 = .bool (decide (y19 < (x13 : Int))) := hF' 3 _ _ rfl rfl rfl
            replace hO := hO.fr hw
            replace hA := hA.fr hw.size
            replace hF := hF.tr (hw.ch noB) fun _ h => False.elim h
            clear hs hF' hw
            refine seqR_nil ?_
            refine HT.cond (decide (y19 < (x13 : Int))) h32 (fun c21 => ?_) (fun c21 => ?_)
            · have hr := cnd_t c21 hr
              refine HT.skip ?_
              refine HT.seq ?_
              refine HT.block ?_
              refine HT.seq ?_
              obtain ⟨e22, hr⟩ := ck_some hr
              obtain ⟨e23, hr⟩ := ck_some hr
              obtain ⟨e24, hr⟩ := ck_some hr
              obtain ⟨e25, hr⟩ := ck_some hr
              obtain ⟨e26, hr⟩ := ck_some hr
              obtain ⟨e27, hr⟩ := ck_some hr
              obtain ⟨e28, hr⟩ := ck_some hr
              refine HT.draw (by kernel_rfl) (l := ⟨_, true, .raw (vsub v0 y5.toNat x13 1)⟩ :: ⟨_, true, .raw (.int .i64 y19)⟩ :: ⟨_, true, .raw (vptr v0 ((y5 + y19).toNat * 1))⟩ :: ⟨_, true, .raw (.int .i64 (gtD y20 (y5 + y19)))⟩ :: ⟨_, true, .raw (vsub v0 y5.toNat x13 1)⟩ :: ⟨_, true, .raw (.int .i64 y19)⟩ :: ⟨_, true, .raw (.int .i64 (y19 - (1 : Int)))⟩ :: ⟨_, true, .raw (vptr v0 ((y5 + (y19 - (1 : Int))).toNat * 1))⟩ :: ⟨_, true, .raw (.int .i64 (gtD y20 (y5 + (y19 - (1 : Int)))))⟩ :: ⟨_, true, .raw (.bool ((gtD y20 (y5 + y19)) != (gtD y20 (y5 + (y19 - (1 : Int))))))⟩ :: []) (tl := []) (by kernel_rfl) (by kernel_rfl) (by kernel_rfl) (by kernel_rfl) ?_ ?_
              · exact
                  Obls.cons (Obl.plain rfl rfl fun R' w' hw hs hd => by have a0 : R' 4 = (vsub v0 y5.toNat x13 1) := (hs 4 rfl).trans h4; exact of_move a0) <|
                  Obls.cons (Obl.plain rfl rfl fun R' w' hw hs hd => by have a0 : R' 5 = .int .i64 y19 := (hs 5 rfl).trans h5; exact of_move a0) <|
                  Obls.cons (Obl.plain rfl rfl fun R' w' hw hs hd => by have a0 : R' 35 = (vsub v0 y5.toNat x13 1) := hd 0 _ _ _ rfl rfl rfl rfl rfl; have a1 : R' 36 = .int .i64 y19 := hd 1 _ _ _ rfl rfl rfl rfl rfl; exact of_indexAddr_view (hO.ok 0 _ rfl).1 a0 a1 Try.underlying33 Try.sizeOf3 e22 e23 e24 rfl) <|
                  Obls.cons (Obl.plain rfl rfl fun R' w' hw hs hd => by have a0 : R' 37 = (vptr v0 ((y5 + y19).toNat * 1)) := hd 0 _ _ _ rfl rfl rfl rfl rfl; exact OpF.int (of_load_vec ((hO.fr hw).ok 0 _ rfl).1 a0 e24 rfl (Fld.id _) rfl Try.isAgg3 Try.sizeOf3)) <|
                  Obls.cons (Obl.plain rfl rfl fun R' w' hw hs hd => by have a0 : R' 4 = (vsub v0 y5.toNat x13 1) := (hs 4 rfl).trans h4; exact of_move a0) <|
                  Obls.cons (Obl.plain rfl rfl fun R' w' hw hs hd => by have a0 : R' 5 = .int .i64 y19 := (hs 5 rfl).trans h5; exact of_move a0) <|
                  Obls.cons (Obl.plain rfl rfl fun R' w' hw hs hd => by have a0 : R' 40 = .int .i64 y19 := hd 0 _ _ _ rfl rfl rfl rfl rfl; exact of_sub a0 rfl e25) <|
                  Obls.cons (Obl.plain rfl rfl fun R' w' hw hs hd => by have a0 : R' 39 = (vsub v0 y5.toNat x13 1) := hd 0 _ _ _ rfl rfl rfl rfl rfl; have a1 : R' 41 = .int .i64 (y19 - (1 : Int)) := hd 1 _ _ _ rfl rfl rfl rfl rfl; exact of_indexAddr_view (hO.ok 0 _ rfl).1 a0 a1 Try.underlying33 Try.sizeOf3 e26 e27 e28 rfl) <|
                  Obls.cons (Obl.plain rfl rfl fun R' w' hw hs hd => by have a0 : R' 42 = (vptr v0 ((y5 + (y19 - (1 : Int))).toNat * 1)) := hd 0 _ _ _ rfl rfl rfl rfl rfl; exact OpF.int (of_load_vec ((hO.fr hw).ok 0 _ rfl).1 a0 e28 rfl (Fld.id _) rfl Try.isAgg3 Try.sizeOf3)) <|
                  Obls.cons (Obl.plain rfl rfl fun R' w' hw hs hd => by have a0 : R' 38 = .int .i64 (gtD y20 (y5 + y19)) := hd 0 _ _ _ rfl rfl rfl rfl rfl; have a1 : R' 43 = .int .i64 (gtD y20 (y5 + (y19 - (1 : Int)))) := hd 1 _ _ _ rfl rfl rfl rfl rfl; exact of_neq a0 a1) <|
                  Obls.nil
              intro R w hw hs hF'
              replace h0 : R 0 = v0 := (hs 0 rfl).trans h0
              replace h3 : R 3 = .int .i64 y18 := (hs 3 rfl).trans h3
              replace h4 : R 4 = (vsub v0 y5.toNat x13 1) := (hs 4 rfl).trans h4
              replace h5 : R 5 = .int .i64 y19 := (hs 5 rfl).trans h5
              have h44 : R 44 = .bool ((gtD y20 (y5 + y19)) != (gtD y20 (y5 + (y19 - (1 : Int))))) := hF' 9 _ _ rfl rfl rfl
              replace hO := hO.fr hw
              replace hA := hA.fr hw.size
              replace hF := hF.tr (hw.ch noB) fun _ h => False.elim h
              clear hs hF' hw
              refine seqR_nil ?_
              refine HT.cond ((gtD y20 (y5 + y19)) != (gtD y20 (y5 + (y19 - (1 : Int))))) h44 (fun c29 => ?_) (fun c29 => ?_)
              · have hr := cnd_t c29 hr
                refine HT.seq ?_
                obtain ⟨e30, hr⟩ := ck_some hr
                obtain ⟨e31, hr⟩ := ck_some hr
                obtain ⟨e32, hr⟩ := ck_some hr
                obtain ⟨e33, hr⟩ := ck_some hr
                refine HT.textR [ob v0 (.vec B0 3 (eInt .i64) y20)] (⟨_, true, [], none, true, fun A => .raw v0⟩ :: ⟨_, true, [], none, true, fun A => .raw (.int .i64 y18)⟩ :: ⟨_, true, [], none, true, fun A => .raw (vsub v0 y5.toNat x13 1)⟩ :: ⟨_, true, [], none, true, fun A => .raw (.int .i64 y19)⟩ :: ⟨_, true, [], none, true, fun A => .raw (vptr v0 ((y5 + y19).toNat * 1))⟩ :: ⟨_, true, [], none, true, fun A => .raw (.int .i64 (gtD y20 (y5 + y19)))⟩ :: ⟨_, true, [], none, true, fun A => .raw (vptr v0 (y18.toNat * 1))⟩ :: ⟨_, true, [0], some (.vec B0 3 (eInt .i64) (y20.set y18.toNat (gtD y20 (y5 + y19)))), false, fun A => .any⟩ :: []) (by kernel_rfl) (by kernel_rfl) (Wf.mk' (by kernel_rfl) (UAll.cons ust_raw (UAll.cons ust_raw (UAll.cons ust_raw (UAll.cons ust_raw (UAll.cons ust_raw (UAll.cons ust_raw (UAll.cons ust_raw (UAll.cons ust_any (UAll.nil))))))))) (by kernel_rfl) (by kernel_rfl)) hO hA ?_ ?_
                · exact
                    OblsR.cons (OblR.plain rfl rfl rfl rfl fun A' R' w' ho hd => by have a0 : R' 0 = v0 := (ho.old 0 rfl).trans h0; exact of_move a0) <|
                    OblsR.cons (OblR.plain rfl rfl rfl rfl fun A' R' w' ho hd => by have a0 : R' 3 = .int .i64 y18 := (ho.old 3 rfl).trans h3; exact of_move a0) <|
                    OblsR.cons (OblR.plain rfl rfl rfl rfl fun A' R' w' ho hd => by have a0 : R' 4 = (vsub v0 y5.toNat x13 1) := (ho.old 4 rfl).trans h4; exact of_move a0) <|
                    OblsR.cons (OblR.plain rfl rfl rfl rfl fun A' R' w' ho hd => by have a0 : R' 5 = .int .i64 y19 := (ho.old 5 rfl).trans h5; exact of_move a0) <|
                    OblsR.cons (OblR.plain rfl rfl rfl rfl fun A' R' w' ho hd => by have a0 : R' 47 = (vsub v0 y5.toNat x13 1) := hd 0 _ _ _ rfl rfl rfl rfl rfl; have a1 : R' 48 = .int .i64 y19 := hd 1 _ _ _ rfl rfl rfl rfl rfl; exact of_indexAddr_view (hO.ok 0 _ rfl).1 a0 a1 Try.underlying33 Try.sizeOf3 e30 e31 e32 rfl) <|
                    OblsR.cons (OblR.plain rfl rfl rfl rfl fun A' R' w' ho hd => by have a0 : R' 49 = (vptr v0 ((y5 + y19).toNat * 1)) := hd 0 _ _ _ rfl rfl rfl rfl rfl; exact OpF.int (of_load_vec (ho.rd 0 _ rfl rfl) a0 e32 rfl (Fld.id _) rfl Try.isAgg3 Try.sizeOf3)) <|
                    OblsR.cons (OblR.plain rfl rfl rfl rfl fun A' R' w' ho hd => by have a0 : R' 45 = v0 := hd 0 _ _ _ rfl rfl rfl rfl rfl; have a1 : R' 46 = .int .i64 y18 := hd 1 _ _ _ rfl rfl rfl rfl rfl; exact of_indexAddr_vec (hO.ok 0 _ rfl).1 a0 a1 Try.underlying33 Try.sizeOf3 e33 rfl) <|
                    OblsR.cons (OblR.took 0 _ _ rfl rfl rfl rfl rfl fun A' R' w' ho hd u hok hav hin hop hds => by have a0 : R' 51 = (vptr v0 (y18.toNat * 1)) := hd 0 _ _ _ rfl rfl rfl rfl rfl; have a1 : R' 50 = .int .i64 (gtD y20 (y5 + y19)) := hd 1 _ _ _ rfl rfl rfl rfl rfl; obtain rfl := hin _ rfl; exact took_vstore (rep_int.eq a1) hok hav a0 e33 rfl (FldS.id _) Try.sizeOf3 rfl) <|
                    OblsR.nil
                intro done ρ σ A R w hdn hI
                replace h0 : R 0 = v0 := (hI.reg rfl).trans h0
                replace h3 : R 3 = .int .i64 y18 := (hI.reg rfl).trans h3
                replace h4 : R 4 = (vsub v0 y5.toNat x13 1) := (hI.reg rfl).trans h4
                replace h5 : R 5 = .int .i64 y19 := (hI.reg rfl).trans h5
                have z34 := hI.inivR 0 rfl
                have z35 := (hI.opnR hdn 8 7 rfl rfl rfl rfl rfl).trans z34
                replace hAA := hI.lowK hAA hA0 hN (hO.geK (⟨.inr (fun k h => .inr h), trivial⟩))
                replace hF : Ch (ownsB v0) w0 w := hF.tr hI.ch (hO.geK (⟨.inr (fun k h => .inr h), trivial⟩))
                replace hO : IniOK [ob v0 (.vec B0 3 (eInt .i64) (y20.set y18.toNat (gtD y20 (y5 + y19))))] A w := hI.left hdn [(8, ob v0 (.vec B0 3 (eInt .i64) (y20.set y18.toNat (gtD y20 (y5 + y19)))))] ⟨rfl, rfl, z35, rfl, rfl, trivial⟩
                replace hA := hI.avok
                clear hI
                obtain ⟨e36, hr⟩ := ck_some hr
                refine HT.text (l := ⟨_, true, .raw (.int .i64 y18)⟩ :: ⟨_, true, .raw (.int .i64 (y18 + (1 : Int)))⟩ :: ⟨_, true, .raw (.int .i64 (y18 + (1 : Int)))⟩ :: []) (tl := []) (by kernel_rfl) (by kernel_rfl) (by kernel_rfl) ?_ ?_
                · exact
                    Obls.cons (Obl.plain rfl rfl fun R' w' hw hs hd => by have a0 : R' 3 = .int .i64 y18 := (hs 3 rfl).trans h3; exact of_move a0) <|
                    Obls.cons (Obl.plain rfl rfl fun R' w' hw hs hd => by have a0 : R' 52 = .int .i64 y18 := hd 0 _ _ _ rfl rfl rfl rfl rfl; exact of_add a0 rfl e36) <|
                    Obls.cons (Obl.plain rfl rfl fun R' w' hw hs hd => by have a0 : R' 53 = .int .i64 (y18 + (1 : Int)) := hd 0 _ _ _ rfl rfl rfl rfl rfl; exact of_assign a0) <|
                    Obls.nil
                intro R w hw hs hF'
                replace h0 : R 0 = v0 := (hs 0 rfl).trans h0
                replace h4 : R 4 = (vsub v0 y5.toNat x13 1) := (hs 4 rfl).trans h4
                replace h5 : R 5 = .int .i64 y19 := (hs 5 rfl).trans h5
                have h3 : R 3 = .int .i64 (y18 + (1 : Int)) := hF' 2 _ _ rfl rfl rfl
                replace hO := hO.fr hw
                replace hA := hA.fr hw.size
                replace hF := hF.tr (hw.ch noB) fun _ h => False.elim h
                clear hs hF' hw
                refine seqR_nil ?_
                obtain ⟨e37, hr⟩ := ck_some hr
                refine HT.text (l := ⟨_, true, .raw (.int .i64 y19)⟩ :: ⟨_, true, .raw (.int .i64 (y19 + (1 : Int)))⟩ :: ⟨_, true, .raw (.int .i64 (y19 + (1 : Int)))⟩ :: []) (tl := []) (by kernel_rfl) (by kernel_rfl) (by kernel_rfl) ?_ ?_
                · exact
                    Obls.cons (Obl.plain rfl rfl fun R' w' hw hs hd => by have a0 : R' 5 = .int .i64 y19 := (hs 5 rfl).trans h5; exact of_move a0) <|
                    Obls.cons (Obl.plain rfl rfl fun R' w' hw hs hd => by have a0 : R' 33 = .int .i64 y19 := hd 0 _ _ _ rfl rfl rfl rfl rfl; exact of_add a0 rfl e37) <|
                    Obls.cons (Obl.plain rfl rfl fun R' w' hw hs hd => by have a0 : R' 34 = .int .i64 (y19 + (1 : Int)) := hd 0 _ _ _ rfl rfl rfl rfl rfl; exact of_assign a0) <|
                    Obls.nil
                intro R w hw hs hF'
                replace h0 : R 0 = v0 := (hs 0 rfl).trans h0
                replace h3 : R 3 = .int .i64 (y18 + (1 : Int)) := (hs 3 rfl).trans h3
                replace h4 : R 4 = (vsub v0 y5.toNat x13 1) := (hs 4 rfl).trans h4
                have h5 : R 5 = .int .i64 (y19 + (1 : Int)) := hF' 2 _ _ rfl rfl rfl
                replace hO := hO.fr hw
                replace hA := hA.fr hw.size
                replace hF := hF.tr (hw.ch noB) fun _ h => False.elim h
                clear hs hF' hw
                refine seqR_nil ?_
                exact Exists.intro k (And.intro (Nat.lt_succ_self k) ⟨_, _, _, _, hr, hA, hF, hAA, hO, h0, h3, h4, h5⟩)
              · have hr := cnd_f c29 hr
                refine HT.skip ?_
                obtain ⟨e38, hr⟩ := ck_some hr
                refine HT.text (l := ⟨_, true, .raw (.int .i64 y19)⟩ :: ⟨_, true, .raw (.int .i64 (y19 + (1 : Int)))⟩ :: ⟨_, true, .raw (.int .i64 (y19 + (1 : Int)))⟩ :: []) (tl := []) (by kernel_rfl) (by kernel_rfl) (by kernel_rfl) ?_ ?_
                · exact
                    Obls.cons (Obl.plain rfl rfl fun R' w' hw hs hd => by have a0 : R' 5 = .int .i64 y19 := (hs 5 rfl).trans h5; exact of_move a0) <|
                    Obls.cons (Obl.plain rfl rfl fun R' w' hw hs hd => by have a0 : R' 33 = .int .i64 y19 := hd 0 _ _ _ rfl rfl rfl rfl rfl; exact of_add a0 rfl e38) <|
                    Obls.cons (Obl.plain rfl rfl fun R' w' hw hs hd => by have a0 : R' 34 = .int .i64 (y19 + (1 : Int)) := hd 0 _ _ _ rfl rfl rfl rfl rfl; exact of_assign a0) <|
                    Obls.nil
                intro R w hw hs hF'
                replace h0 : R 0 = v0 := (hs 0 rfl).trans h0
                replace h3 : R 3 = .int .i64 y18 := (hs 3 rfl).trans h3
                replace h4 : R 4 = (vsub v0 y5.toNat x13 1) := (hs 4 rfl).trans h4
                have h5 : R 5 = .int .i64 (y19 + (1 : Int)) := hF' 2 _ _ rfl rfl rfl
                replace hO := hO.fr hw
                replace hA := hA.fr hw.size
                replace hF := hF.tr (hw.ch noB) fun _ h => False.elim h
                clear hs hF' hw
                refine seqR_nil ?_
                exact Exists.intro k (And.intro (Nat.lt_succ_self k) ⟨_, _, _, _, hr, hA, hF, hAA, hO, h0, h3, h4, h5⟩)
            · have hr := cnd_f c21 hr
              refine HT.exit ?_
              obtain rfl := Option.some.inj hr
              exact Exists.intro _ ⟨_, rfl, hA, hF, hAA, hO, h0, h3⟩
          rintro R w ⟨A, s17, es, hA, hF, hAA, hO, h0, h3⟩
          obtain rfl := es.symm
          refine HT.seq ?_
          obtain ⟨e39, hr⟩ := ck_some hr
          obtain ⟨x40, q41, hr⟩ := bd_some hr
          obtain ⟨e42, hr⟩ := ck_some hr
          obtain ⟨e43, hr⟩ := ck_some hr
          refine HT.textR [ob v0 (.vec B0 3 (eInt .i64) s17.2)] (⟨_, true, [], none, true, fun A => .raw v0⟩ :: ⟨_, true, [], none, true, fun A => .raw (.int .i64 s17.1)⟩ :: ⟨_, true, [], none, true, fun A => .raw (vsub v0 s17.1.toNat x40 1)⟩ :: ⟨_, true, [0], some (.vec B0 3 (eInt .i64) (s17.2.take s17.1.toNat ++ List.replicate (s17.2.length - s17.1.toNat) (0 : Int))), false, fun A => .any⟩ :: []) (by kernel_rfl) (by kernel_rfl) (Wf.mk' (by kernel_rfl) (UAll.cons ust_raw (UAll.cons ust_raw (UAll.cons ust_raw (UAll.cons ust_any (UAll.nil))))) (by kernel_rfl) (by kernel_rfl)) hO hA ?_ ?_
          · exact
              OblsR.cons (OblR.plain rfl rfl rfl rfl fun A' R' w' ho hd => by have a0 : R' 0 = v0 := (ho.old 0 rfl).trans h0; exact of_move a0) <|
              OblsR.cons (OblR.plain rfl rfl rfl rfl fun A' R' w' ho hd => by have a0 : R' 3 = .int .i64 s17.1 := (ho.old 3 rfl).trans h3; exact of_move a0) <|
              OblsR.cons (OblR.plain rfl rfl rfl rfl fun A' R' w' ho hd => by have a0 : R' 54 = v0 := hd 0 _ _ _ rfl rfl rfl rfl rfl; have a1 : R' 55 = .int .i64 s17.1 := hd 1 _ _ _ rfl rfl rfl rfl rfl; exact (q41 ▸ of_view (hO.ok 0 _ rfl).1 a0 a1 Try.underlying33 Try.sizeOf3 e39)) <|
              OblsR.cons (OblR.took 0 _ _ rfl rfl rfl rfl rfl fun A' R' w' ho hd u hok hav hin hop hds => by have a0 : R' 56 = (vsub v0 s17.1.toNat x40 1) := hd 0 _ _ _ rfl rfl rfl rfl rfl; obtain rfl := hin _ rfl; exact took_clear a0 hok hav Try.underlying33 rfl Try.zeroValue3 (fun A w => rep1_int) e42 e43 rfl) <|
              OblsR.nil
          intro done ρ σ A R w hdn hI
          replace h0 : R 0 = v0 := (hI.reg rfl).trans h0
          replace h3 : R 3 = .int .i64 s17.1 := (hI.reg rfl).trans h3
          have z44 := hI.inivR 0 rfl
          have z45 := (hI.opnR hdn 4 3 rfl rfl rfl rfl rfl).trans z44
          replace hAA := hI.lowK hAA hA0 hN (hO.geK (⟨.inr (fun k h => .inr h), trivial⟩))
          replace hF : Ch (ownsB v0) w0 w := hF.tr hI.ch (hO.geK (⟨.inr (fun k h => .inr h), trivial⟩))
          replace hO : IniOK [ob v0 (.vec B0 3 (eInt .i64) (s17.2.take s17.1.toNat ++ List.replicate (s17.2.length - s17.1.toNat) (0 : Int)))] A w := hI.left hdn [(4, ob v0 (.vec B0 3 (eInt .i64) (s17.2.take s17.1.toNat ++ List.replicate (s17.2.length - s17.1.toNat) (0 : Int))))] ⟨rfl, rfl, z45, rfl, rfl, trivial⟩
          replace hA := hI.avok
          clear hI
          refine HT.seq ?_
          obtain ⟨e46, hr⟩ := ck_some hr
          refine HT.textR [ob v0 (.vec B0 3 (eInt .i64) (s17.2.take s17.1.toNat ++ List.replicate (s17.2.length - s17.1.toNat) (0 : Int)))] (⟨_, true, [], none, true, fun A => .raw v0⟩ :: ⟨_, true, [], none, true, fun A => .raw (.int .i64 s17.1)⟩ :: ⟨_, true, [0], some (.vec B0 3 (eInt .i64) (subL (s17.2.take s17.1.toNat ++ List.replicate (s17.2.length - s17.1.toNat) (0 : Int)) 0 s17.1)), true, fun A => .any⟩ :: ⟨_, true, [3], some (.vec B0 3 (eInt .i64) (subL (s17.2.take s17.1.toNat ++ List.replicate (s17.2.length - s17.1.toNat) (0 : Int)) 0 s17.1)), true, fun A => .any⟩ :: []) (by kernel_rfl) (by kernel_rfl) (Wf.mk' (by kernel_rfl) (UAll.cons ust_raw (UAll.cons ust_raw (UAll.cons ust_any (UAll.cons ust_any (UAll.nil))))) (by kernel_rfl) (by kernel_rfl)) hO hA ?_ ?_
          · exact
              OblsR.cons (OblR.plain rfl rfl rfl rfl fun A' R' w' ho hd => by have a0 : R' 0 = v0 := (ho.old 0 rfl).trans h0; exact of_move a0) <|
              OblsR.cons (OblR.plain rfl rfl rfl rfl fun A' R' w' ho hd => by have a0 : R' 3 = .int .i64 s17.1 := (ho.old 3 rfl).trans h3; exact of_move a0) <|
              OblsR.cons (OblR.took 0 _ _ rfl rfl rfl rfl rfl fun A' R' w' ho hd u hok hav hin hop hds => by have a0 : R' 57 = v0 := hd 0 _ _ _ rfl rfl rfl rfl rfl; have a1 : R' 58 = .int .i64 s17.1 := hd 1 _ _ _ rfl rfl rfl rfl rfl; exact took_prefix (a0.trans (hin _ rfl).symm) hok hav a1 Try.underlying33 Try.sizeOf3 e46 rfl) <|
              OblsR.cons (OblR.took 3 _ _ rfl rfl rfl rfl rfl fun A' R' w' ho hd u hok hav hin hop hds => by exact took_assign (hop _ _ rfl rfl rfl rfl).symm hok hav) <|
              OblsR.nil
          intro done ρ σ A R w hdn hI
          obtain ⟨u47, e_u47⟩ : ∃ u, ρ 4 = u := ⟨_, rfl⟩
          have h2 : R 2 = u47 := (hI.opvR hdn 4 3 rfl rfl rfl rfl rfl).symm.trans e_u47
          have hK_u47 : ∀ k, ownsB u47 k → w0.heap.size ≤ k ∨ (ownsB v0) k := hI.geK hdn 4 rfl rfl rfl e_u47 (hO.geK (⟨.inr (fun k h => .inr h), trivial⟩)) hF.size
          replace hAA := hI.lowK hAA hA0 hN (hO.geK (⟨.inr (fun k h => .inr h), trivial⟩))
          replace hF : Ch (ownsB v0) w0 w := hF.tr hI.ch (hO.geK (⟨.inr (fun k h => .inr h), trivial⟩))
          replace hO : IniOK [ob u47 (.vec B0 3 (eInt .i64) (subL (s17.2.take s17.1.toNat ++ List.replicate (s17.2.length - s17.1.toNat) (0 : Int)) 0 s17.1))] A w := hI.left hdn [(4, ob u47 (.vec B0 3 (eInt .i64) (subL (s17.2.take s17.1.toNat ++ List.replicate (s17.2.length - s17.1.toNat) (0 : Int)) 0 s17.1)))] ⟨rfl, rfl, e_u47, rfl, rfl, trivial⟩
          replace hA := hI.avok
          clear hI
          refine HT.ret ?_
          obtain rfl := Option.some.inj hr
          have hr := hr0
          replace hr : some _ = some _ := hr
          obtain rfl := Option.some.inj hr
          exact ⟨.inr rfl, [R 2], ⟨rfl, trivial⟩, by show Took _ true _ _ _ w0 (R 2) w; rw [h2]; exact took_post (fun k h o => .inr h) hF (hO.ok 0 _ rfl).1 (hO.own_ge (⟨.inr hK_u47, trivial⟩) (i := 0) rfl) (fun _ _ _ _ _ h => h)⟩
        · have hr := cnd_f c11 hr
          refine HT.skip ?_
          obtain ⟨e48, hr⟩ := ck_some hr
          refine HT.text (l := ⟨_, true, .raw (.int .i64 y5)⟩ :: ⟨_, true, .raw (.int .i64 (y5 + (1 : Int)))⟩ :: ⟨_, true, .raw (.int .i64 (y5 + (1 : Int)))⟩ :: []) (tl := []) (by kernel_rfl) (by kernel_rfl) (by kernel_rfl) ?_ ?_
          · exact
              Obls.cons (Obl.plain rfl rfl fun R' w' hw hs hd => by have a0 : R' 3 = .int .i64 y5 := (hs 3 rfl).trans h3; exact of_move a0) <|
              Obls.cons (Obl.plain rfl rfl fun R' w' hw hs hd => by have a0 : R' 14 = .int .i64 y5 := hd 0 _ _ _ rfl rfl rfl rfl rfl; exact of_add a0 rfl e48) <|
              Obls.cons (Obl.plain rfl rfl fun R' w' hw hs hd => by have a0 : R' 15 = .int .i64 (y5 + (1 : Int)) := hd 0 _ _ _ rfl rfl rfl rfl rfl; exact of_assign a0) <|
              Obls.nil
          intro R w hw hs hF'
          replace h0 : R 0 = v0 := (hs 0 rfl).trans h0
          have h3 : R 3 = .int .i64 (y5 + (1 : Int)) := hF' 2 _ _ rfl rfl rfl
          replace hO := hO.fr hw
          replace hA := hA.fr hw.size
          replace hF := hF.tr (hw.ch noB) fun _ h => False.elim h
          clear hs hF' hw
          refine seqR_nil ?_
          exact Exists.intro k (And.intro (Nat.lt_succ_self k) ⟨_, _, _, hr, hA, hF, hAA, hO, h0, h3⟩)
      · have hr := cnd_f c7 hr
        refine HT.exit ?_
        obtain rfl := Option.some.inj hr
        exact Exists.intro _ ⟨_, rfl, hA, hF, hAA, hO, h0⟩
    rintro R w ⟨A, s4, rfl, hA, hF, hAA, hO, h0⟩
    have hr := exM_go hr
    refine HT.seq ?_
    refine HT.text (l := ⟨_, true, .raw v0⟩ :: ⟨_, true, .raw v0⟩ :: []) (tl := []) (by kernel_rfl) (by kernel_rfl) (by kernel_rfl) ?_ ?_
    · exact
        Obls.cons (Obl.plain rfl rfl fun R' w' hw hs hd => by have a0 : R' 0 = v0 := (hs 0 rfl).trans h0; exact of_move a0) <|
        Obls.cons (Obl.plain rfl rfl fun R' w' hw hs hd => by have a0 : R' 60 = v0 := hd 0 _ _ _ rfl rfl rfl rfl rfl; exact of_assign a0) <|
        Obls.nil
    intro R w hw hs hF'
    have h2 : R 2 = v0 := hF' 1 _ _ rfl rfl rfl
    replace hO := hO.fr hw
    replace hA := hA.fr hw.size
    replace hF := hF.tr (hw.ch noB) fun _ h => False.elim h
    clear hs hF' hw
    refine seqR_nil ?_
    refine HT.ret ?_
    obtain rfl := Option.some.inj hr
    exact ⟨.inr rfl, [R 2], ⟨rfl, trivial⟩, by show Took _ true _ _ _ w0 (R 2) w; rw [h2]; exact took_post (fun k h o => .inr h) hF (hO.ok 0 _ rfl).1 (hO.own_ge (⟨.inr (fun k h => .inr h), trivial⟩) (i := 0) rfl) (fun _ _ _ _ _ h => h)⟩
def M_impl_levelsOf_L1 (fu : Nat) (y10 : Int) (x19 : List T_impl_Test) : Nat → Int → (List (List Int)) → Option (List (List Int))
  | 0, _, _ => none
  | k + 1, y25, y26 =>
    bif (decide (y25 < (x19.length : Int))) then (
      ck (inR y25 x19.length) <|
      bif (((gtD x19 y25).1) == y10) then (
        ck (inR y10 6) <|
        ck (lenOK ((gtD y26 y10).length + ([(gtD x19 y25).2.1] : List Int).length)) <|
        ck (inR y10 6) <|
        ck (i64B (y25 + (1 : Int))) <|
        M_impl_levelsOf_L1 fu y10 x19 k (y25 + (1 : Int)) (y26.set y10.toNat ((gtD y26 y10) ++ ([(gtD x19 y25).2.1] : List Int)))
      ) else (
        ck (i64B (y25 + (1 : Int))) <|
        M_impl_levelsOf_L1 fu y10 x19 k (y25 + (1 : Int)) y26
      )
    ) else (
      some y26
    )
def M_impl_levelsOf_L0 (fu : Nat) (p0 : T_impl_RuleSet) : Nat → Int → (List (List Int)) → Option (List (List Int))
  | 0, _, _ => none
  | k + 1, y10, y11 =>
    bif (decide (y10 < (6 : Int))) then (
      ck (inR y10 6) <|
      cl true (M_impl_allTests fu p0) fun x19 =>
      cl true (M_impl_levelsOf_L1 fu y10 x19 fu (0 : Int) (y11.set y10.toNat ([(0 : Int)] : List Int))) fun s24 =>
      ck (inR y10 6) <|
      cl true (M_sortI fu (gtD s24 y10)) fun x50 =>
      ck (inR y10 6) <|
      cl true (M_slices_Compact_int_int fu (gtD (s24.set y10.toNat x50) y10)) fun x60 =>
      ck (inR y10 6) <|
      ck (i64B (y10 + (1 : Int))) <|
      M_impl_levelsOf_L0 fu p0 k (y10 + (1 : Int)) ((s24.set y10.toNat x50).set y10.toNat x60)
    ) else (
      some y11
    )
def M_impl_levelsOf (fu : Nat) (p0 : T_impl_RuleSet) : Option (List (List Int)) :=
  cl true (M_impl_levelsOf_L0 fu p0 fu (0 : Int) ([([] : List Int), ([] : List Int), ([] : List Int), ([] : List Int), ([] : List Int), ([] : List Int)] : List (List Int))) fun s9 =>
  some s9
set_option maxRecDepth 100000 in
set_option maxHeartbeats 4000000 in
theorem M_impl_levelsOf_ok {fu : Nat} {A0 : Av} {p0 : T_impl_RuleSet} {r : List (List Int)} (hr : M_impl_levelsOf fu p0 = some r) {w : World} {v0 : Value} (hA : AvOK A0 w) (h0 : Rep E_impl_RuleSet A0 w v0 p0) :
    Calls Try.prog 38 #[v0] w fun e w' => ∃ v, e = .returned v ∧ (Rep (eAr (eSl (eInt .i64)) 6) A0 w' v r ∧ Fr w w') := by
  unfold M_impl_levelsOf at hr
  obtain ⟨w0, hw0⟩ : ∃ w0, w0 = w := ⟨_, rfl⟩
  have hF : Fr w0 w := hw0 ▸ Fr.refl _
  have hA0 : ∀ b o, A0 b o → b < w0.heap.size := fun b o h => hw0 ▸ hA b o h
  have hA00 : AvOK A0 w0 := hA0
  rw [show Fr w = Fr w0 from hw0 ▸ rfl]
  clear hw0
  obtain ⟨A, hAe⟩ : ∃ A, A = A0 := ⟨_, rfl⟩
  have hAA : ∀ b o, A0 b o → A b o := fun b o h => hAe ▸ h
  replace hA : AvOK A w := hAe ▸ hA
  have hO : IniOK [] A w := IniOK.nil
  refine calls_of_HT2 [.cell 2 58] Try.func38 Try.ntmps38 (by decide) rfl rfl (Nat.le_of_ble_eq_true rfl) ?_
  intro R hR
  have f_v0 : Rep E_impl_RuleSet A w v0 p0 := hAe ▸ h0
  replace h0 : R 0 = v0 := hR 0 _ rfl
  clear hR hAe
  refine HT.seq ?_
  refine HT.textR [] (⟨_, true, [], some (.box w0.heap.size 29 E_impl_RuleSet p0), true, fun A => .any⟩ :: ⟨_, true, [], some (.box w0.heap.size 58 (eAr (eSl (eInt .i64)) 6) ([([] : List Int), ([] : List Int), ([] : List Int), ([] : List Int), ([] : List Int), ([] : List Int)] : List (List Int))), true, fun A => .any⟩ :: []) (by kernel_rfl) (by kernel_rfl) (Wf.mk' (by kernel_rfl) (UAll.cons ust_any (UAll.cons ust_any (UAll.nil))) (by kernel_rfl) (by kernel_rfl)) hO hA ?_ ?_
  · exact
      OblsR.cons (OblR.made _ rfl rfl rfl rfl fun A' R' w' ho hd => by have a0 : R' 0 = v0 := (ho.old 0 rfl).trans h0; have ra0 := (f_v0.stp ho.stp).eq a0; exact made_box ra0 (Nat.le_trans hF.size ho.ch.size)) <|
      OblsR.cons (OblR.made _ rfl rfl rfl rfl fun A' R' w' ho hd => by exact made_alloc Try.zeroValue58 (fun A w => rep_arc rep1_nil (rep_arc rep1_nil (rep_arc rep1_nil (rep_arc rep1_nil (rep_arc rep1_nil (rep_arc rep1_nil rep_ar0)))))) (Nat.le_trans hF.size ho.ch.size)) <|
      OblsR.nil
  intro done ρ σ A R w hdn hI
  obtain ⟨b1_0, e_b1_0⟩ := hI.boxv hdn 0 rfl rfl
  have h1 : R 1 = (.pointer (some ⟨b1_0, 0, none⟩)) := (hI.opvR hdn 0 0 rfl rfl rfl rfl rfl).symm.trans e_b1_0
  obtain ⟨b2_1, e_b2_1⟩ := hI.boxv hdn 1 rfl rfl
  have h2 : R 2 = (.pointer (some ⟨b2_1, 0, none⟩)) := (hI.opvR hdn 1 1 rfl rfl rfl rfl rfl).symm.trans e_b2_1
  replace hAA := hI.low' hAA hA0 (hO.ge (trivial))
  replace hF : Fr w0 w := hF.tr hI.ch (hO.ge (trivial))
  replace hO : IniOK [ob (.pointer (some ⟨b1_0, 0, none⟩)) (.box w0.heap.size 29 E_impl_RuleSet p0), ob (.pointer (some ⟨b2_1, 0, none⟩)) (.box w0.heap.size 58 (eAr (eSl (eInt .i64)) 6) ([([] : List Int), ([] : List Int), ([] : List Int), ([] : List Int), ([] : List Int), ([] : List Int)] : List (List Int)))] A w := hI.left hdn [(0, ob (.pointer (some ⟨b1_0, 0, none⟩)) (.box w0.heap.size 29 E_impl_RuleSet p0)), (1, ob (.pointer (some ⟨b2_1, 0, none⟩)) (.box w0.heap.size 58 (eAr (eSl (eInt .i64)) 6) ([([] : List Int), ([] : List Int), ([] : List Int), ([] : List Int), ([] : List Int), ([] : List Int)] : List (List Int))))] ⟨rfl, rfl, e_b1_0, rfl, rfl, ⟨rfl, rfl, e_b2_1, rfl, rfl, trivial⟩⟩
  replace hA := hI.avok
  clear hI
  refine HT.seq ?_
  refine HT.textR [ob (.pointer (some ⟨b1_0, 0, none⟩)) (.box w0.heap.size 29 E_impl_RuleSet p0), ob (.pointer (some ⟨b2_1, 0, none⟩)) (.box w0.heap.size 58 (eAr (eSl (eInt .i64)) 6) ([([] : List Int), ([] : List Int), ([] : List Int), ([] : List Int), ([] : List Int), ([] : List Int)] : List (List Int)))] (⟨_, true, [], some (trR (geB w0.heap.size) (oPt 58 (oAr 6 (oSl 3 (oRd (eInt .i64))))) ([([] : List Int), ([] : List Int), ([] : List Int), ([] : List Int), ([] : List Int), ([] : List Int)] : List (List Int)) []), true, fun A => .any⟩ :: []) (by kernel_rfl) (by kernel_rfl) (Wf.mk' (by kernel_rfl) (UAll.cons ust_any (UAll.nil)) (by kernel_rfl) (by kernel_rfl)) hO hA ?_ ?_
  · exact
      OblsR.cons (OblR.madeS _ rfl rfl rfl rfl fun A' R' w' ho hd => by exact made_allocT Try.zeroValue58 (fun A w => own_arc own_nil (own_arc own_nil (own_arc own_nil (own_arc own_nil (own_arc own_nil (own_arc own_nil own_ar0)))))) (fun k hk => Nat.le_trans (Nat.le_trans hF.size ho.ch.size) hk)) <|
      OblsR.nil
  intro done ρ σ A R w hdn hI
  replace h1 : R 1 = (.pointer (some ⟨b1_0, 0, none⟩)) := (hI.reg rfl).trans h1
  replace h2 : R 2 = (.pointer (some ⟨b2_1, 0, none⟩)) := (hI.reg rfl).trans h2
  have z3 := hI.inivR 0 rfl
  have z4 := hI.inivR 1 rfl
  obtain ⟨u5, e_u5⟩ : ∃ u, ρ 2 = u := ⟨_, rfl⟩
  have h3 : R 3 = u5 := (hI.opvR hdn 2 0 rfl rfl rfl rfl rfl).symm.trans e_u5
  obtain ⟨S6, eS_u5⟩ : ∃ S, σ 2 = S := ⟨_, rfl⟩
  replace hAA := hI.low' hAA hA0 (hO.ge (⟨rfl, ⟨rfl, trivial⟩⟩))
  replace hF : Fr w0 w := hF.tr hI.ch (hO.ge (⟨rfl, ⟨rfl, trivial⟩⟩))
  replace hO : IniOK [ob (.pointer (some ⟨b1_0, 0, none⟩)) (.box w0.heap.size 29 E_impl_RuleSet p0), ob (.pointer (some ⟨b2_1, 0, none⟩)) (.box w0.heap.size 58 (eAr (eSl (eInt .i64)) 6) ([([] : List Int), ([] : List Int), ([] : List Int), ([] : List Int), ([] : List Int), ([] : List Int)] : List (List Int))), ⟨u5, S6, trR (geB w0.heap.size) (oPt 58 (oAr 6 (oSl 3 (oRd (eInt .i64))))) ([([] : List Int), ([] : List Int), ([] : List Int), ([] : List Int), ([] : List Int), ([] : List Int)] : List (List Int)) []⟩] A w := hI.left hdn [(0, ob (.pointer (some ⟨b1_0, 0, none⟩)) (.box w0.heap.size 29 E_impl_RuleSet p0)), (1, ob (.pointer (some ⟨b2_1, 0, none⟩)) (.box w0.heap.size 58 (eAr (eSl (eInt .i64)) 6) ([([] : List Int), ([] : List Int), ([] : List Int), ([] : List Int), ([] : List Int), ([] : List Int)] : List (List Int)))), (2, ⟨u5, S6, trR (geB w0.heap.size) (oPt 58 (oAr 6 (oSl 3 (oRd (eInt .i64))))) ([([] : List Int), ([] : List Int), ([] : List Int), ([] : List Int), ([] : List Int), ([] : List Int)] : List (List Int)) []⟩)] ⟨rfl, rfl, z3, rfl, rfl, ⟨rfl, rfl, z4, rfl, rfl, ⟨rfl, rfl, e_u5, eS_u5, rfl, trivial⟩⟩⟩
  replace hA := hI.avok
  clear hI
  refine HT.seq ?_
  refine HT.seq ?_
  refine HT.text (l := ⟨_, true, .raw (.int .i64 (0 : Int))⟩ :: []) (tl := []) (by kernel_rfl) (by kernel_rfl) (by kernel_rfl) ?_ ?_
  · exact
      Obls.cons (Obl.plain rfl rfl fun R' w' hw hs hd => by exact of_move rfl) <|
      Obls.nil
  intro R w hw hs hF'
  replace h1 : R 1 = (.pointer (some ⟨b1_0, 0, none⟩)) := (hs 1 rfl).trans h1
  replace h2 : R 2 = (.pointer (some ⟨b2_1, 0, none⟩)) := (hs 2 rfl).trans h2
  replace h3 : R 3 = u5 := (hs 3 rfl).trans h3
  have h7 : R 7 = .int .i64 (0 : Int) := hF' 0 _ _ rfl rfl rfl
  replace hO := hO.fr hw
  replace hA := hA.fr hw.size
  replace hF := hF.trans hw
  clear hs hF' hw
  refine seqR_nil ?_
  obtain ⟨rl7, q8, hr⟩ := cl_some hr
  replace q8 := q8 rfl
  refine HT.cut0 (fun R w => ∃ A : Av, ∃ (s9 : (List (List Int))) (So_u5 : Nat → Prop), rl7 = s9 ∧ AvOK A w ∧ Fr w0 w ∧ (∀ b o, A0 b o → A b o) ∧ IniOK [ob (.pointer (some ⟨b2_1, 0, none⟩)) (.box w0.heap.size 58 (eAr (eSl (eInt .i64)) 6) ([([] : List Int), ([] : List Int), ([] : List Int), ([] : List Int), ([] : List Int), ([] : List Int)] : List (List Int))), ⟨u5, So_u5, trR (geB w0.heap.size) (oPt 58 (oAr 6 (oSl 3 (oRd (eInt .i64))))) s9 []⟩] A w ∧ R 2 = (.pointer (some ⟨b2_1, 0, none⟩)) ∧ R 3 = u5) ?_ ?_
  · refine HT.block ?_
    refine HT.loop (fun k R w => ∃ A : Av, ∃ (y10 : Int) (y11 : List (List Int)) (Sl_u5 : Nat → Prop), M_impl_levelsOf_L0 fu p0 k y10 y11 = some rl7 ∧ AvOK A w ∧ Fr w0 w ∧ (∀ b o, A0 b o → A b o) ∧ IniOK [ob (.pointer (some ⟨b1_0, 0, none⟩)) (.box w0.heap.size 29 E_impl_RuleSet p0), ob (.pointer (some ⟨b2_1, 0, none⟩)) (.box w0.heap.size 58 (eAr (eSl (eInt .i64)) 6) ([([] : List Int), ([] : List Int), ([] : List Int), ([] : List Int), ([] : List Int), ([] : List Int)] : List (List Int))), ⟨u5, Sl_u5, trR (geB w0.heap.size) (oPt 58 (oAr 6 (oSl 3 (oRd (eInt .i64))))) y11 []⟩] A w ∧ R 1 = (.pointer (some ⟨b1_0, 0, none⟩)) ∧ R 2 = (.pointer (some ⟨b2_1, 0, none⟩)) ∧ R 3 = u5 ∧ R 7 = .int .i64 y10) fu ⟨_, _, _, S6, q8, hA, hF, hAA, hO, h1, h2, h3, h7⟩ ?_
    have hr0 := hr; clear hr q8
    rintro k R w ⟨A, y10, y11, Sl_u5, hr, hA, hF, hAA, hO, h1, h2, h3, h7⟩
    rcases k with _ | k
    · cases (show none = some _ from hr)
    rw [M_impl_levelsOf_L0] at hr
    refine HT.seq ?_
    refine HT.text (l := ⟨_, true, .raw (.bool (decide (y10 < (6 : Int))))⟩ :: []) (tl := []) (by kernel_rfl) (by kernel_rfl) (by kernel_rfl) ?_ ?_
    · exact
        Obls.cons (Obl.plain rfl rfl fun R' w' hw hs hd => by have a0 : R' 7 = .int .i64 y10 := (hs 7 rfl).trans h7; exact of_lss a0 rfl) <|
        Obls.nil
    intro R w hw hs hF'
    replace h1 : R 1 = (.pointer (some ⟨b1_0, 0, none⟩)) := (hs 1 rfl).trans h1
    replace h2 : R 2 = (.pointer (some ⟨b2_1, 0, none⟩)) := (hs 2 rfl).trans h2
    replace h3 : R 3 = u5 := (hs 3 rfl).trans h3
    replace h7 : R 7 = .int .i64 y10 := (hs 7 rfl).trans h7
    have h8 : R 8 = .bool (decide (y10 < (6 : Int))) := hF' 0 _ _ rfl rfl rfl
    replace hO := hO.fr hw
    replace hA := hA.fr hw.size
    replace hF := hF.trans hw
    clear hs hF' hw
    refine seqR_nil ?_
    refine HT.seq ?_
    refine HT.cond (decide (y10 < (6 : Int))) h8 (fun c12 => ?_) (fun c12 => ?_)
    · have hr := cnd_t c12 hr
      refine HT.skip ?_
      refine HT.seq ?_
      refine HT.block ?_
      refine HT.seq ?_
      refine HT.text (l := ⟨_, true, .raw (.int .i64 y10)⟩ :: ⟨_, true, .raw (.int .i64 y10)⟩ :: []) (tl := []) (by kernel_rfl) (by kernel_rfl) (by kernel_rfl) ?_ ?_
      · exact
          Obls.cons (Obl.plain rfl rfl fun R' w' hw hs hd => by have a0 : R' 7 = .int .i64 y10 := (hs 7 rfl).trans h7; exact of_move a0) <|
          Obls.cons (Obl.plain rfl rfl fun R' w' hw hs hd => by have a0 : R' 9 = .int .i64 y10 := hd 0 _ _ _ rfl rfl rfl rfl rfl; exact of_assign a0) <|
          Obls.nil
      intro R w hw hs hF'
      replace h1 : R 1 = (.pointer (some ⟨b1_0, 0, none⟩)) := (hs 1 rfl).trans h1
      replace h2 : R 2 = (.pointer (some ⟨b2_1, 0, none⟩)) := (hs 2 rfl).trans h2
      replace h3 : R 3 = u5 := (hs 3 rfl).trans h3
      replace h7 : R 7 = .int .i64 y10 := (hs 7 rfl).trans h7
      have h4 : R 4 = .int .i64 y10 := hF' 1 _ _ rfl rfl rfl
      replace hO := hO.fr hw
      replace hA := hA.fr hw.size
      replace hF := hF.trans hw
      clear hs hF' hw
      refine seqR_nil ?_
      refine HT.seq ?_
      obtain ⟨e13, hr⟩ := ck_some hr
      refine HT.textR [ob (.pointer (some ⟨b1_0, 0, none⟩)) (.box w0.heap.size 29 E_impl_RuleSet p0), ob (.pointer (some ⟨b2_1, 0, none⟩)) (.box w0.heap.size 58 (eAr (eSl (eInt .i64)) 6) ([([] : List Int), ([] : List Int), ([] : List Int), ([] : List Int), ([] : List Int), ([] : List Int)] : List (List Int))), ⟨u5, Sl_u5, trR (geB w0.heap.size) (oPt 58 (oAr 6 (oSl 3 (oRd (eInt .i64))))) y11 []⟩] (⟨_, true, [], none, true, fun A => .raw (.int .i64 y10)⟩ :: ⟨_, true, [], some (.vec w0.heap.size 3 (eInt .i64) ([(0 : Int)] : List Int)), true, fun A => .any⟩ :: ⟨_, true, [], none, true, fun A => .raw (padd u5 (y10.toNat * 1))⟩ :: ⟨_, true, [2, 4], some (trR (geB w0.heap.size) (oPt 58 (oAr 6 (oSl 3 (oRd (eInt .i64))))) (y11.set y10.toNat ([(0 : Int)] : List Int)) []), false, fun A => .any⟩ :: []) (by kernel_rfl) (by kernel_rfl) (Wf.mk' (by kernel_rfl) (UAll.cons ust_raw (UAll.cons ust_any (UAll.cons ust_raw (UAll.cons ust_any (UAll.nil))))) (by kernel_rfl) (by kernel_rfl)) hO hA ?_ ?_
      · exact
          OblsR.cons (OblR.plain rfl rfl rfl rfl fun A' R' w' ho hd => by have a0 : R' 4 = .int .i64 y10 := (ho.old 4 rfl).trans h4; exact of_move a0) <|
          OblsR.cons (OblR.made _ rfl rfl rfl rfl fun A' R' w' ho hd => by exact made_build [_] (E := eInt .i64) ⟨(rep_int.eq rfl), trivial⟩ Try.underlying33 Try.sizeOf3 Try.zeroValue3 rfl rfl rfl (Nat.le_trans hF.size ho.ch.size)) <|
          OblsR.cons (OblR.plain rfl rfl rfl rfl fun A' R' w' ho hd => by have a0 : R' 3 = u5 := (ho.old 3 rfl).trans h3; have a1 : R' 10 = .int .i64 y10 := hd 0 _ _ _ rfl rfl rfl rfl rfl; exact of_indexAddr_ar ((tr_root (hO.own 2 _ rfl).2).ptr).ad a0 a1 Try.underlying58 Try.sizeOf33 e13 rfl) <|
          OblsR.cons (OblR.tookM 2 [4] _ rfl rfl rfl rfl fun A' R' w' ho hd ρ σ hok hav hin hop hds hdd => by have a0 : R' 12 = (padd u5 (y10.toNat * 1)) := hd 0 _ _ _ rfl rfl rfl rfl rfl; have k1 := hok 2 (.head _) _ rfl; have e0 := (hin 2 (.head _) _ rfl).1; rw [e0] at k1 ⊢; exact took_put2 rfl (HoleA.ar (tr_root k1.2.2).ptr e13 rfl) (own_of_vec' (hok 4 (.tail _ (.head _)) _ rfl).1 (hok 4 (.tail _ (.head _)) _ rfl).2) (hop 4 (.tail _ (.head _)) _ _ rfl rfl rfl rfl).symm a0 hav hdd k1.2.1 (vec_ge (hok 4 (.tail _ (.head _)) _ rfl).1 (hok 4 (.tail _ (.head _)) _ rfl).2) Try.sizeOf33 (fun _ _ _ h => h)) <|
          OblsR.nil
      intro done ρ σ A R w hdn hI
      replace h1 : R 1 = (.pointer (some ⟨b1_0, 0, none⟩)) := (hI.reg rfl).trans h1
      replace h2 : R 2 = (.pointer (some ⟨b2_1, 0, none⟩)) := (hI.reg rfl).trans h2
      replace h3 : R 3 = u5 := (hI.reg rfl).trans h3
      replace h4 : R 4 = .int .i64 y10 := (hI.reg rfl).trans h4
      replace h7 : R 7 = .int .i64 y10 := (hI.reg rfl).trans h7
      have z14 := hI.inivR 0 rfl
      have z15 := hI.inivR 1 rfl
      have z16 := hI.inivR 2 rfl
      have z17 := (hI.opnR hdn 6 3 rfl rfl rfl rfl rfl).trans z16
      obtain ⟨S18, eS_u5⟩ : ∃ S, σ 6 = S := ⟨_, rfl⟩
      replace hAA := hI.low' hAA hA0 (hO.ge (⟨rfl, ⟨rfl, ⟨fun _ h => h, trivial⟩⟩⟩))
      replace hF : Fr w0 w := hF.tr hI.ch (hO.ge (⟨rfl, ⟨rfl, ⟨fun _ h => h, trivial⟩⟩⟩))
      replace hO : IniOK [ob (.pointer (some ⟨b1_0, 0, none⟩)) (.box w0.heap.size 29 E_impl_RuleSet p0), ob (.pointer (some ⟨b2_1, 0, none⟩)) (.box w0.heap.size 58 (eAr (eSl (eInt .i64)) 6) ([([] : List Int), ([] : List Int), ([] : List Int), ([] : List Int), ([] : List Int), ([] : List Int)] : List (List Int))), ⟨u5, S18, trR (geB w0.heap.size) (oPt 58 (oAr 6 (oSl 3 (oRd (eInt .i64))))) (y11.set y10.toNat ([(0 : Int)] : List Int)) []⟩] A w := hI.left hdn [(0, ob (.pointer (some ⟨b1_0, 0, none⟩)) (.box w0.heap.size 29 E_impl_RuleSet p0)), (1, ob (.pointer (some ⟨b2_1, 0, none⟩)) (.box w0.heap.size 58 (eAr (eSl (eInt .i64)) 6) ([([] : List Int), ([] : List Int), ([] : List Int), ([] : List Int), ([] : List Int), ([] : List Int)] : List (List Int)))), (6, ⟨u5, S18, trR (geB w0.heap.size) (oPt 58 (oAr 6 (oSl 3 (oRd (eInt .i64))))) (y11.set y10.toNat ([(0 : Int)] : List Int)) []⟩)] ⟨rfl, rfl, z14, rfl, rfl, ⟨rfl, rfl, z15, rfl, rfl, ⟨rfl, rfl, z17, eS_u5, rfl, trivial⟩⟩⟩
      replace hA := hI.avok
      clear hI
      refine HT.seq ?_
      refine HT.seq ?_
      obtain ⟨x19, q20, hr⟩ := cl_some hr
      refine HT.text (l := ⟨_, true, .rep E_impl_RuleSet A p0⟩ :: ⟨_, true, .rep (eSl E_impl_Test) A x19⟩ :: ⟨_, true, .raw (.int .i64 (x19.length : Int))⟩ :: ⟨_, true, .raw (.int .i64 (0 : Int))⟩ :: []) (tl := []) (by kernel_rfl) (by kernel_rfl) (by kernel_rfl) ?_ ?_
      · exact
          Obls.cons (Obl.plain rfl rfl fun R' w' hw hs hd => by have a0 : R' 1 = (.pointer (some ⟨b1_0, 0, none⟩)) := (hs 1 rfl).trans h1; exact (of_load_box ((hO.fr hw).ok 0 _ rfl).1 a0 (Fld.id _) rfl Try.isAgg29 Try.sizeOf29)) <|
          Obls.cons (Obl.plain rfl rfl fun R' w' hw hs hd => by have a0 : Rep E_impl_RuleSet A w' (R' 13) p0 := hd 0 _ _ _ rfl rfl rfl rfl rfl; exact of_call Try.call65 (M_impl_allTests_okR (q20 rfl) (hA.fr hw.size) a0)) <|
          Obls.cons (Obl.plain rfl rfl fun R' w' hw hs hd => by have a0 : Rep (eSl E_impl_Test) A w' (R' 14) x19 := hd 0 _ _ _ rfl rfl rfl rfl rfl; exact of_len_sl (aT := #[]) a0 Try.underlying65) <|
          Obls.cons (Obl.plain rfl rfl fun R' w' hw hs hd => by exact of_move rfl) <|
          Obls.nil
      intro R w hw hs hF'
      replace h1 : R 1 = (.pointer (some ⟨b1_0, 0, none⟩)) := (hs 1 rfl).trans h1
      replace h2 : R 2 = (.pointer (some ⟨b2_1, 0, none⟩)) := (hs 2 rfl).trans h2
      replace h3 : R 3 = u5 := (hs 3 rfl).trans h3
      replace h4 : R 4 = .int .i64 y10 := (hs 4 rfl).trans h4
      replace h7 : R 7 = .int .i64 y10 := (hs 7 rfl).trans h7
      obtain ⟨u21, h14, f_u21⟩ : ∃ u, R 14 = u ∧ Rep (eSl E_impl_Test) A w u x19 := ⟨_, rfl, hF' 1 _ _ rfl rfl rfl⟩
      have h15 : R 15 = .int .i64 (x19.length : Int) := hF' 2 _ _ rfl rfl rfl
      have h16 : R 16 = .int .i64 (0 : Int) := hF' 3 _ _ rfl rfl rfl
      replace hO := hO.fr hw
      replace hA := hA.fr hw.size
      replace hF := hF.trans hw
      clear hs hF' hw
      refine seqR_nil ?_
      obtain ⟨rl22, q23, hr⟩ := cl_some hr
      replace q23 := q23 rfl
      refine HT.cut0 (fun R w => ∃ A : Av, ∃ (s24 : (List (List Int))) (So_u5 : Nat → Prop), rl22 = s24 ∧ AvOK A w ∧ Fr w0 w ∧ (∀ b o, A0 b o → A b o) ∧ IniOK [ob (.pointer (some ⟨b1_0, 0, none⟩)) (.box w0.heap.size 29 E_impl_RuleSet p0), ob (.pointer (some ⟨b2_1, 0, none⟩)) (.box w0.heap.size 58 (eAr (eSl (eInt .i64)) 6) ([([] : List Int), ([] : List Int), ([] : List Int), ([] : List Int), ([] : List Int), ([] : List Int)] : List (List Int))), ⟨u5, So_u5, trR (geB w0.heap.size) (oPt 58 (oAr 6 (oSl 3 (oRd (eInt .i64))))) s24 []⟩] A w ∧ R 1 = (.pointer (some ⟨b1_0, 0, none⟩)) ∧ R 2 = (.pointer (some ⟨b2_1, 0, none⟩)) ∧ R 3 = u5 ∧ R 4 = .int .i64 y10 ∧ R 7 = .int .i64 y10) ?_ ?_
      · refine HT.block ?_
        refine HT.loop (fun k R w => ∃ A : Av, ∃ (y25 : Int) (y26 : List (List Int)) (Sl_u5 : Nat → Prop), M_impl_levelsOf_L1 fu y10 x19 k y25 y26 = some rl22 ∧ AvOK A w ∧ Fr w0 w ∧ (∀ b o, A0 b o → A b o) ∧ IniOK [ob (.pointer (some ⟨b1_0, 0, none⟩)) (.box w0.heap.size 29 E_impl_RuleSet p0), ob (.pointer (some ⟨b2_1, 0, none⟩)) (.box w0.heap.size 58 (eAr (eSl (eInt .i64)) 6) ([([] : List Int), ([] : List Int), ([] : List Int), ([] : List Int), ([] : List Int), ([] : List Int)] : List (List Int))), ⟨u5, Sl_u5, trR (geB w0.heap.size) (oPt 58 (oAr 6 (oSl 3 (oRd (eInt .i64))))) y26 []⟩] A w ∧ R 1 = (.pointer (some ⟨b1_0, 0, none⟩)) ∧ R 2 = (.pointer (some ⟨b2_1, 0, none⟩)) ∧ R 3 = u5 ∧ R 4 = .int .i64 y10 ∧ R 7 = .int .i64 y10 ∧ R 14 = u21 ∧ R 15 = .int .i64 (x19.length : Int) ∧ R 16 = .int .i64 y25 ∧ Rep (eSl E_impl_Test) A w u21 x19) fu ⟨_, _, _, S18, q23, hA, hF, hAA, hO, h1, h2, h3, h4, h7, h14, h15, h16, f_u21⟩ ?_
        have hr0 := hr; clear hr q23
        rintro k R w ⟨A, y25, y26, Sl_u5, hr, hA, hF, hAA, hO, h1, h2, h3, h4, h7, h14, h15, h16, f_u21⟩
        rcases k with _ | k
        · cases (show none = some _ from hr)
        rw [M_impl_levelsOf_L1] at hr
        refine HT.seq ?_
        refine HT.text (l := ⟨_, true, .raw (.bool (decide (y25 < (x19.length : Int))))⟩ :: []) (tl := []) (by kernel_rfl) (by kernel_rfl) (by kernel_rfl) ?_ ?_
        · exact
            Obls.cons (Obl.plain rfl rfl fun R' w' hw hs hd => by have a0 : R' 16 = .int .i64 y25 := (hs 16 rfl).trans h16; have a1 : R' 15 = .int .i64 (x19.length : Int) := (hs 15 rfl).trans h15; exact of_lss a0 a1) <|
            Obls.nil
        intro R w hw hs hF'
        replace h1 : R 1 = (.pointer (some ⟨b1_0, 0, none⟩)) := (hs 1 rfl).trans h1
        replace h2 : R 2 = (.pointer (some ⟨b2_1, 0, none⟩)) := (hs 2 rfl).trans h2
        replace h3 : R 3 = u5 := (hs 3 rfl).trans h3
        replace h4 : R 4 = .int .i64 y10 := (hs 4 rfl).trans h4
        replace h7 : R 7 = .int .i64 y10 := (hs 7 rfl).trans h7
        replace h14 : R 14 = u21 := (hs 14 rfl).trans h14
        replace h15 : R 15 = .int .i64 (x19.length : Int) := (hs 15 rfl).trans h15
        replace h16 : R 16 = .int .i64 y25 := (hs 16 rfl).trans h16
        have h17 : R 17 = .bool (decide (y25 < (x19.length : Int))) := hF' 0 _ _ rfl rfl rfl
        replace f_u21 := f_u21.fr hw
        replace hO := hO.fr hw
        replace hA := hA.fr hw.size
        replace hF := hF.trans hw
        clear hs hF' hw
        refine seqR_nil ?_
        refine HT.seq ?_
        refine HT.cond (decide (y25 < (x19.length : Int))) h17 (fun c27 => ?_) (fun c27 => ?_)
        · have hr := cnd_t c27 hr
          refine HT.skip ?_
          refine HT.seq ?_
          refine HT.block ?_
          refine HT.seq ?_
          obtain ⟨e28, hr⟩ := ck_some hr
          refine HT.textR [ob (.pointer (some ⟨b1_0, 0, none⟩)) (.box w0.heap.size 29 E_impl_RuleSet p0), ob (.pointer (some ⟨b2_1, 0, none⟩)) (.box w0.heap.size 58 (eAr (eSl (eInt .i64)) 6) ([([] : List Int), ([] : List Int), ([] : List Int), ([] : List Int), ([] : List Int), ([] : List Int)] : List (List Int))), ⟨u5, Sl_u5, trR (geB w0.heap.size) (oPt 58 (oAr 6 (oSl 3 (oRd (eInt .i64))))) y26 []⟩] (⟨_, true, [], none, true, fun A => .qtr E_impl_Test A (gtD x19 y25)⟩ :: ⟨_, true, [], none, true, fun A => .rep E_impl_Test A (gtD x19 y25)⟩ :: ⟨_, true, [], some (.box w0.heap.size 82 E_impl_Test ((0 : Int), ((0 : Int), false))), true, fun A => .any⟩ :: ⟨_, true, [5], some (.box w0.heap.size 82 E_impl_Test (gtD x19 y25)), false, fun A => .any⟩ :: []) (by kernel_rfl) (by kernel_rfl) (Wf.mk' (by kernel_rfl) (UAll.cons ust_qtr (UAll.cons ust_rep (UAll.cons ust_any (UAll.cons ust_any (UAll.nil))))) (by kernel_rfl) (by kernel_rfl)) hO hA ?_ ?_
          · exact
              OblsR.cons (OblR.plain rfl rfl rfl rfl fun A' R' w' ho hd => by have a0 : R' 14 = u21 := (ho.old 14 rfl).trans h14; have a1 : R' 16 = .int .i64 y25 := (ho.old 16 rfl).trans h16; have ra0 := (f_u21.stp ho.stp).eq a0; exact of_indexAddr ra0 a1 Try.underlying65 Try.sizeOf82 e28) <|
              OblsR.cons (OblR.plain rfl rfl rfl rfl fun A' R' w' ho hd => by have a0 : QRep E_impl_Test A' w' (R' 18) (gtD x19 y25) := hd 0 _ _ _ rfl rfl rfl rfl rfl; exact (of_load a0.ptr Try.isAgg82 Try.sizeOf82)) <|
              OblsR.cons (OblR.made _ rfl rfl rfl rfl fun A' R' w' ho hd => by exact made_alloc Try.zeroValue82 (fun A w => rep_pr rep1_int (rep_pr rep1_int rep1_bool)) (Nat.le_trans hF.size ho.ch.size)) <|
              OblsR.cons (OblR.took 5 _ _ rfl rfl rfl rfl rfl fun A' R' w' ho hd u hok hav hin hop hds => by have a1 : Rep E_impl_Test A' w' (R' 19) (gtD x19 y25) := hd 1 _ _ _ rfl rfl rfl rfl rfl; obtain ⟨b, hb, hB', hbx⟩ := hok; have hop' := hop _ _ rfl rfl rfl rfl; exact took_store a1 (hop'.symm.trans hb) hb ⟨b, hb, hB', hbx⟩ hav (FldS.id _) Try.sizeOf82 rfl) <|
              OblsR.nil
          intro done ρ σ A R w hdn hI
          replace h1 : R 1 = (.pointer (some ⟨b1_0, 0, none⟩)) := (hI.reg rfl).trans h1
          replace h2 : R 2 = (.pointer (some ⟨b2_1, 0, none⟩)) := (hI.reg rfl).trans h2
          replace h3 : R 3 = u5 := (hI.reg rfl).trans h3
          replace h4 : R 4 = .int .i64 y10 := (hI.reg rfl).trans h4
          replace h7 : R 7 = .int .i64 y10 := (hI.reg rfl).trans h7
          replace h14 : R 14 = u21 := (hI.reg rfl).trans h14
          replace h15 : R 15 = .int .i64 (x19.length : Int) := (hI.reg rfl).trans h15
          replace h16 : R 16 = .int .i64 y25 := (hI.reg rfl).trans h16
          have z29 := hI.inivR 0 rfl
          have z30 := hI.inivR 1 rfl
          have z31 := hI.inivR 2 rfl
          obtain ⟨b6_31, e_b6_31⟩ := hI.boxv hdn 6 rfl rfl
          have z33 := (hI.opnR hdn 6 3 rfl rfl rfl rfl rfl).symm.trans e_b6_31
          have h6 : R 6 = (.pointer (some ⟨b6_31, 0, none⟩)) := (hI.opvR hdn 5 2 rfl rfl rfl rfl rfl).symm.trans z33
          have eS_u5 := hI.inisR 2 rfl
          replace f_u21 := f_u21.stp hI.stp
          replace hAA := hI.low' hAA hA0 (hO.ge (⟨rfl, ⟨rfl, ⟨fun _ h => h, trivial⟩⟩⟩))
          replace hF : Fr w0 w := hF.tr hI.ch (hO.ge (⟨rfl, ⟨rfl, ⟨fun _ h => h, trivial⟩⟩⟩))
          replace hO : IniOK [ob (.pointer (some ⟨b1_0, 0, none⟩)) (.box w0.heap.size 29 E_impl_RuleSet p0), ob (.pointer (some ⟨b2_1, 0, none⟩)) (.box w0.heap.size 58 (eAr (eSl (eInt .i64)) 6) ([([] : List Int), ([] : List Int), ([] : List Int), ([] : List Int), ([] : List Int), ([] : List Int)] : List (List Int))), ⟨u5, Sl_u5, trR (geB w0.heap.size) (oPt 58 (oAr 6 (oSl 3 (oRd (eInt .i64))))) y26 []⟩, ob (.pointer (some ⟨b6_31, 0, none⟩)) (.box w0.heap.size 82 E_impl_Test (gtD x19 y25))] A w := hI.left hdn [(0, ob (.pointer (some ⟨b1_0, 0, none⟩)) (.box w0.heap.size 29 E_impl_RuleSet p0)), (1, ob (.pointer (some ⟨b2_1, 0, none⟩)) (.box w0.heap.size 58 (eAr (eSl (eInt .i64)) 6) ([([] : List Int), ([] : List Int), ([] : List Int), ([] : List Int), ([] : List Int), ([] : List Int)] : List (List Int)))), (2, ⟨u5, Sl_u5, trR (geB w0.heap.size) (oPt 58 (oAr 6 (oSl 3 (oRd (eInt .i64))))) y26 []⟩), (6, ob (.pointer (some ⟨b6_31, 0, none⟩)) (.box w0.heap.size 82 E_impl_Test (gtD x19 y25)))] ⟨rfl, rfl, z29, rfl, rfl, ⟨rfl, rfl, z30, rfl, rfl, ⟨rfl, rfl, z31, eS_u5, rfl, ⟨rfl, rfl, e_b6_31, rfl, rfl, trivial⟩⟩⟩⟩
          replace hA := hI.avok
          clear hI
          refine HT.seq ?_
          refine HT.text (l := ⟨_, true, .raw (.pointer (some ⟨b6_31, 0, none⟩))⟩ :: ⟨_, true, .raw (.int .i64 ((gtD x19 y25).1))⟩ :: ⟨_, true, .raw (.int .i64 y10)⟩ :: ⟨_, true, .raw (.bool (((gtD x19 y25).1) == y10))⟩ :: []) (tl := []) (by kernel_rfl) (by kernel_rfl) (by kernel_rfl) ?_ ?_
          · exact
              Obls.cons (Obl.plain rfl rfl fun R' w' hw hs hd => by have a0 : R' 6 = (.pointer (some ⟨b6_31, 0, none⟩)) := (hs 6 rfl).trans h6; exact of_fieldAddr_raw a0 ff_82_0 Try.sizeOf3 (by decide) rfl) <|
              Obls.cons (Obl.plain rfl rfl fun R' w' hw hs hd => by have a0 : R' 20 = (.pointer (some ⟨b6_31, 0, none⟩)) := hd 0 _ _ _ rfl rfl rfl rfl rfl; exact OpF.int (of_load_box ((hO.fr hw).ok 3 _ rfl).1 a0 fl_impl_Test_0 rfl Try.isAgg3 Try.sizeOf3)) <|
              Obls.cons (Obl.plain rfl rfl fun R' w' hw hs hd => by have a0 : R' 4 = .int .i64 y10 := (hs 4 rfl).trans h4; exact of_move a0) <|
              Obls.cons (Obl.plain rfl rfl fun R' w' hw hs hd => by have a0 : R' 21 = .int .i64 ((gtD x19 y25).1) := hd 0 _ _ _ rfl rfl rfl rfl rfl; have a1 : R' 22 = .int .i64 y10 := hd 1 _ _ _ rfl rfl rfl rfl rfl; exact of_eql a0 a1) <|
              Obls.nil
          intro R w hw hs hF'
          replace h1 : R 1 = (.pointer (some ⟨b1_0, 0, none⟩)) := (hs 1 rfl).trans h1
          replace h2 : R 2 = (.pointer (some ⟨b2_1, 0, none⟩)) := (hs 2 rfl).trans h2
          replace h3 : R 3 = u5 := (hs 3 rfl).trans h3
          replace h4 : R 4 = .int .i64 y10 := (hs 4 rfl).trans h4
          replace h6 : R 6 = (.pointer (some ⟨b6_31, 0, none⟩)) := (hs 6 rfl).trans h6
          replace h7 : R 7 = .int .i64 y10 := (hs 7 rfl).trans h7
          replace h14 : R 14 = u21 := (hs 14 rfl).trans h14
          replace h15 : R 15 = .int .i64 (x19.length : Int) := (hs 15 rfl).trans h15
          replace h16 : R 16 = .int .i64 y25 := (hs 16 rfl).trans h16
          have h23 : R 23 = .bool (((gtD x19 y25).1) == y10) := hF' 3 _ _ rfl rfl rfl
          replace f_u21 := f_u21.fr hw
          replace hO := hO.fr hw
          replace hA := hA.fr hw.size
          replace hF := hF.trans hw
          clear hs hF' hw
          refine seqR_nil ?_
          refine HT.cond (((gtD x19 y25).1) == y10) h23 (fun c34 => ?_) (fun c34 => ?_)
          · have hr := cnd_t c34 hr
            obtain ⟨e35, hr⟩ := ck_some hr
            obtain ⟨h36, p_h36⟩ := ((HoleA.ar (tr_root (hO.own 2 _ rfl).2).ptr e35 rfl)).open1 rfl
            replace hO : IniOK [ob (.pointer (some ⟨b1_0, 0, none⟩)) (.box w0.heap.size 29 E_impl_RuleSet p0), ob (.pointer (some ⟨b2_1, 0, none⟩)) (.box w0.heap.size 58 (eAr (eSl (eInt .i64)) 6) ([([] : List Int), ([] : List Int), ([] : List Int), ([] : List Int), ([] : List Int), ([] : List Int)] : List (List Int))), ⟨u5, Sl_u5, trR (geB w0.heap.size) (oPt 58 (oAr 6 (oSl 3 (oRd (eInt .i64))))) y26 [((padd u5 (y10.toNat * 1)), [h36])]⟩, ob (.pointer (some ⟨b6_31, 0, none⟩)) (.box w0.heap.size 82 E_impl_Test (gtD x19 y25))] A w := hO.repin 2 rfl (trP.pin p_h36)
            obtain ⟨e38, hr⟩ := ck_some hr
            obtain ⟨e39, hr⟩ := ck_some hr
            refine HT.drawR [ob (.pointer (some ⟨b1_0, 0, none⟩)) (.box w0.heap.size 29 E_impl_RuleSet p0), ob (.pointer (some ⟨b2_1, 0, none⟩)) (.box w0.heap.size 58 (eAr (eSl (eInt .i64)) 6) ([([] : List Int), ([] : List Int), ([] : List Int), ([] : List Int), ([] : List Int), ([] : List Int)] : List (List Int))), ⟨u5, Sl_u5, trR (geB w0.heap.size) (oPt 58 (oAr 6 (oSl 3 (oRd (eInt .i64))))) y26 [((padd u5 (y10.toNat * 1)), [h36])]⟩, ob (.pointer (some ⟨b6_31, 0, none⟩)) (.box w0.heap.size 82 E_impl_Test (gtD x19 y25))] (⟨_, true, [], none, true, fun A => .raw (.int .i64 y10)⟩ :: ⟨_, true, [], none, true, fun A => .raw (.int .i64 y10)⟩ :: ⟨_, true, [], none, true, fun A => .raw (padd u5 (y10.toNat * 1))⟩ :: ⟨_, true, [], none, true, fun A => .raw h36⟩ :: ⟨_, true, [], none, true, fun A => .raw (.pointer (some ⟨b6_31, 1, none⟩))⟩ :: ⟨_, true, [], none, true, fun A => .raw (.int .i64 ((gtD x19 y25).2.1))⟩ :: ⟨_, true, [], none, true, fun A => .rep (eSl (eInt .i64)) A ([(gtD x19 y25).2.1] : List Int)⟩ :: ⟨_, true, [2], some (.gen (geB w0.heap.size) (pdP (oSl 3 (oRd (eInt .i64))) (padd u5 (y10.toNat * 1)) (fun z A w S => (trP (oPt 58 (oAr 6 (oSl 3 (oRd (eInt .i64))))) (y26.set y10.toNat z) []).P A w S u5) ((gtD y26 y10) ++ ([(gtD x19 y25).2.1] : List Int)))), true, fun A => .any⟩ :: ⟨_, true, [], none, true, fun A => .raw (padd u5 (y10.toNat * 1))⟩ :: ⟨_, true, [11], some (.gen (geB w0.heap.size) (fixP u5 (trP (oPt 58 (oAr 6 (oSl 3 (oRd (eInt .i64))))) (y26.set y10.toNat ((gtD y26 y10) ++ ([(gtD x19 y25).2.1] : List Int))) []))), false, fun A => .any⟩ :: []) (by kernel_rfl) (by kernel_rfl) (by kernel_rfl) (Wf.mk' (by kernel_rfl) (UAll.cons ust_raw (UAll.cons ust_raw (UAll.cons ust_raw (UAll.cons ust_raw (UAll.cons ust_raw (UAll.cons ust_raw (UAll.cons ust_rep (UAll.cons ust_any (UAll.cons ust_raw (UAll.cons ust_any (UAll.nil))))))))))) (by kernel_rfl) (by kernel_rfl)) hO hA ?_ ?_
            · exact
                OblsR.cons (OblR.plain rfl rfl rfl rfl fun A' R' w' ho hd => by have a0 : R' 4 = .int .i64 y10 := (ho.old 4 rfl).trans h4; exact of_move a0) <|
                OblsR.cons (OblR.plain rfl rfl rfl rfl fun A' R' w' ho hd => by have a0 : R' 4 = .int .i64 y10 := (ho.old 4 rfl).trans h4; exact of_move a0) <|
                OblsR.cons (OblR.plain rfl rfl rfl rfl fun A' R' w' ho hd => by have a0 : R' 3 = u5 := (ho.old 3 rfl).trans h3; have a1 : R' 25 = .int .i64 y10 := hd 0 _ _ _ rfl rfl rfl rfl rfl; exact of_indexAddr_ar ((tr_root (hO.own 2 _ rfl).2).ptr).ad a0 a1 Try.underlying58 Try.sizeOf33 e35 rfl) <|
                OblsR.cons (OblR.plain rfl rfl rfl rfl fun A' R' w' ho hd => by have a0 : R' 26 = (padd u5 (y10.toNat * 1)) := hd 0 _ _ _ rfl rfl rfl rfl rfl; exact of_load_pin ((ho.rdo 2 _ rfl rfl).2.2 _ (.head _)) a0 Try.isAgg33 Try.sizeOf33) <|
                OblsR.cons (OblR.plain rfl rfl rfl rfl fun A' R' w' ho hd => by have a0 : R' 6 = (.pointer (some ⟨b6_31, 0, none⟩)) := (ho.old 6 rfl).trans h6; exact of_fieldAddr_raw a0 ff_82_1 Try.sizeOf3 (by decide) rfl) <|
                OblsR.cons (OblR.plain rfl rfl rfl rfl fun A' R' w' ho hd => by have a0 : R' 28 = (.pointer (some ⟨b6_31, 1, none⟩)) := hd 0 _ _ _ rfl rfl rfl rfl rfl; exact OpF.int (of_load_box (ho.rd 3 _ rfl rfl) a0 fl_impl_Test_1 rfl Try.isAgg3 Try.sizeOf3)) <|
                OblsR.cons (OblR.plain rfl rfl rfl rfl fun A' R' w' ho hd => by have a0 : R' 29 = .int .i64 ((gtD x19 y25).2.1) := hd 0 _ _ _ rfl rfl rfl rfl rfl; exact of_build [_] (E := eInt .i64) ⟨(rep_int.eq a0), trivial⟩ Try.underlying33 Try.sizeOf3 Try.zeroValue3 rfl rfl rfl ho.av) <|
                OblsR.cons (OblR.tookS 2 _ _ rfl rfl rfl rfl rfl fun A' R' w' ho hd u S hok hown hav hin hop hds => by have a0 : R' 27 = h36 := hd 0 _ _ _ rfl rfl rfl rfl rfl; have a1 : Rep (eSl (eInt .i64)) A' w' (R' 30) ([(gtD x19 y25).2.1] : List Int) := hd 1 _ _ _ rfl rfl rfl rfl rfl; have e0 := (hin _ rfl).1; rw [e0] at hown ⊢; exact took_appendP (HoleA.ar (tr_root hown.2).ptr e35 rfl) (hown.2.2 _ (.head _)) a0 hav hown.1 (fun k hk => Nat.le_trans (Nat.le_trans hF.size ho.ch.size) hk) (fun k hk => SP.lt _ hown.2 hk) a1 Try.underlying33 el_3 e38) <|
                OblsR.cons (OblR.plain rfl rfl rfl rfl fun A' R' w' ho hd => by have a0 : R' 3 = u5 := (ho.old 3 rfl).trans h3; have a1 : R' 24 = .int .i64 y10 := hd 0 _ _ _ rfl rfl rfl rfl rfl; exact of_indexAddr_ar ((tr_root (hO.own 2 _ rfl).2).ptr).ad a0 a1 Try.underlying58 Try.sizeOf33 e39 rfl) <|
                OblsR.cons (OblR.tookS 11 _ _ rfl rfl rfl rfl rfl fun A' R' w' ho hd u S hok hown hav hin hop hds => by have a0 : R' 32 = (padd u5 (y10.toNat * 1)) := hd 0 _ _ _ rfl rfl rfl rfl rfl; exact took_putP hown.2 (hop _ _ rfl rfl rfl rfl).symm a0 hav hown.1 Try.sizeOf33 (fun _ _ _ h => h)) <|
                OblsR.nil
            intro done ρ σ A R w hdn hI
            replace h1 : R 1 = (.pointer (some ⟨b1_0, 0, none⟩)) := (hI.reg rfl).trans h1
            replace h2 : R 2 = (.pointer (some ⟨b2_1, 0, none⟩)) := (hI.reg rfl).trans h2
            replace h3 : R 3 = u5 := (hI.reg rfl).trans h3
            replace h4 : R 4 = .int .i64 y10 := (hI.reg rfl).trans h4
            replace h7 : R 7 = .int .i64 y10 := (hI.reg rfl).trans h7
            replace h14 : R 14 = u21 := (hI.reg rfl).trans h14
            replace h15 : R 15 = .int .i64 (x19.length : Int) := (hI.reg rfl).trans h15
            replace h16 : R 16 = .int .i64 y25 := (hI.reg rfl).trans h16
            have z40 := hI.inivR 0 rfl
            have z41 := hI.inivR 1 rfl
            obtain ⟨u42, e_u42⟩ : ∃ u, ρ 13 = u := ⟨_, rfl⟩
            have z43 := hI.inivR 3 rfl
            obtain ⟨S44, eS_u5⟩ : ∃ S, σ 13 = S := ⟨_, rfl⟩
            replace f_u21 := f_u21.stp hI.stp
            replace hAA := hI.low' hAA hA0 (hO.ge (⟨rfl, ⟨rfl, ⟨fun _ h => h, ⟨rfl, trivial⟩⟩⟩⟩))
            replace hF : Fr w0 w := hF.tr hI.ch (hO.ge (⟨rfl, ⟨rfl, ⟨fun _ h => h, ⟨rfl, trivial⟩⟩⟩⟩))
            replace hO : IniOK [ob (.pointer (some ⟨b1_0, 0, none⟩)) (.box w0.heap.size 29 E_impl_RuleSet p0), ob (.pointer (some ⟨b2_1, 0, none⟩)) (.box w0.heap.size 58 (eAr (eSl (eInt .i64)) 6) ([([] : List Int), ([] : List Int), ([] : List Int), ([] : List Int), ([] : List Int), ([] : List Int)] : List (List Int))), ⟨u42, S44, .gen (geB w0.heap.size) (fixP u5 (trP (oPt 58 (oAr 6 (oSl 3 (oRd (eInt .i64))))) (y26.set y10.toNat ((gtD y26 y10) ++ ([(gtD x19 y25).2.1] : List Int))) []))⟩] A w := hI.left hdn [(0, ob (.pointer (some ⟨b1_0, 0, none⟩)) (.box w0.heap.size 29 E_impl_RuleSet p0)), (1, ob (.pointer (some ⟨b2_1, 0, none⟩)) (.box w0.heap.size 58 (eAr (eSl (eInt .i64)) 6) ([([] : List Int), ([] : List Int), ([] : List Int), ([] : List Int), ([] : List Int), ([] : List Int)] : List (List Int)))), (13, ⟨u42, S44, .gen (geB w0.heap.size) (fixP u5 (trP (oPt 58 (oAr 6 (oSl 3 (oRd (eInt .i64))))) (y26.set y10.toNat ((gtD y26 y10) ++ ([(gtD x19 y25).2.1] : List Int))) []))⟩)] ⟨rfl, rfl, z40, rfl, rfl, ⟨rfl, rfl, z41, rfl, rfl, ⟨rfl, rfl, e_u42, eS_u5, rfl, trivial⟩⟩⟩
            replace hA := hI.avok
            clear hI
            replace hO : IniOK [ob (.pointer (some ⟨b1_0, 0, none⟩)) (.box w0.heap.size 29 E_impl_RuleSet p0), ob (.pointer (some ⟨b2_1, 0, none⟩)) (.box w0.heap.size 58 (eAr (eSl (eInt .i64)) 6) ([([] : List Int), ([] : List Int), ([] : List Int), ([] : List Int), ([] : List Int), ([] : List Int)] : List (List Int))), ⟨u5, S44, trR (geB w0.heap.size) (oPt 58 (oAr 6 (oSl 3 (oRd (eInt .i64))))) (y26.set y10.toNat ((gtD y26 y10) ++ ([(gtD x19 y25).2.1] : List Int))) []⟩] A w := hO.refix 2 rfl
            obtain ⟨e45, hr⟩ := ck_some hr
            refine HT.text (l := ⟨_, true, .raw (.int .i64 (y25 + (1 : Int)))⟩ :: ⟨_, true, .raw (.int .i64 (y25 + (1 : Int)))⟩ :: []) (tl := []) (by kernel_rfl) (by kernel_rfl) (by kernel_rfl) ?_ ?_
            · exact
                Obls.cons (Obl.plain rfl rfl fun R' w' hw hs hd => by have a0 : R' 16 = .int .i64 y25 := (hs 16 rfl).trans h16; exact of_add a0 rfl e45) <|
                Obls.cons (Obl.plain rfl rfl fun R' w' hw hs hd => by have a0 : R' 33 = .int .i64 (y25 + (1 : Int)) := hd 0 _ _ _ rfl rfl rfl rfl rfl; exact of_move a0) <|
                Obls.nil
            intro R w hw hs hF'
            replace h1 : R 1 = (.pointer (some ⟨b1_0, 0, none⟩)) := (hs 1 rfl).trans h1
            replace h2 : R 2 = (.pointer (some ⟨b2_1, 0, none⟩)) := (hs 2 rfl).trans h2
            replace h3 : R 3 = u5 := (hs 3 rfl).trans h3
            replace h4 : R 4 = .int .i64 y10 := (hs 4 rfl).trans h4
            replace h7 : R 7 = .int .i64 y10 := (hs 7 rfl).trans h7
            replace h14 : R 14 = u21 := (hs 14 rfl).trans h14
            replace h15 : R 15 = .int .i64 (x19.length : Int) := (hs 15 rfl).trans h15
            have h16 : R 16 = .int .i64 (y25 + (1 : Int)) := hF' 1 _ _ rfl rfl rfl
            replace f_u21 := f_u21.fr hw
            replace hO := hO.fr hw
            replace hA := hA.fr hw.size
            replace hF := hF.trans hw
            clear hs hF' hw
            refine seqR_nil ?_
            exact Exists.intro k (And.intro (Nat.lt_succ_self k) ⟨_, _, _, S44, hr, hA, hF, hAA, hO, h1, h2, h3, h4, h7, h14, h15, h16, f_u21⟩)
          · have hr := cnd_f c34 hr
            refine HT.skip ?_
            obtain ⟨e46, hr⟩ := ck_some hr
            refine HT.text (l := ⟨_, true, .raw (.int .i64 (y25 + (1 : Int)))⟩ :: ⟨_, true, .raw (.int .i64 (y25 + (1 : Int)))⟩ :: []) (tl := []) (by kernel_rfl) (by kernel_rfl) (by kernel_rfl) ?_ ?_
            · exact
                Obls.cons (Obl.plain rfl rfl fun R' w' hw hs hd => by have a0 : R' 16 = .int .i64 y25 := (hs 16 rfl).trans h16; exact of_add a0 rfl e46) <|
                Obls.cons (Obl.plain rfl rfl fun R' w' hw hs hd => by have a0 : R' 33 = .int .i64 (y25 + (1 : Int)) := hd 0 _ _ _ rfl rfl rfl rfl rfl; exact of_move a0) <|
                Obls.nil
            intro R w hw hs hF'
            replace h1 : R 1 = (.pointer (some ⟨b1_0, 0, none⟩)) := (hs 1 rfl).trans h1
            replace h2 : R 2 = (.pointer (some ⟨b2_1, 0, none⟩)) := (hs 2 rfl).trans h2
            replace h3 : R 3 = u5 := (hs 3 rfl).trans h3
            replace h4 : R 4 = .int .i64 y10 := (hs 4 rfl).trans h4
            replace h7 : R 7 = .int .i64 y10 := (hs 7 rfl).trans h7
            replace h14 : R 14 = u21 := (hs 14 rfl).trans h14
            replace h15 : R 15 = .int .i64 (x19.length : Int) := (hs 15 rfl).trans h15
            have h16 : R 16 = .int .i64 (y25 + (1 : Int)) := hF' 1 _ _ rfl rfl rfl
            replace f_u21 := f_u21.fr hw
            replace hO := hO.fr hw
            replace hO : IniOK [ob (.pointer (some ⟨b1_0, 0, none⟩)) (.box w0.heap.size 29 E_impl_RuleSet p0), ob (.pointer (some ⟨b2_1, 0, none⟩)) (.box w0.heap.size 58 (eAr (eSl (eInt .i64)) 6) ([([] : List Int), ([] : List Int), ([] : List Int), ([] : List Int), ([] : List Int), ([] : List Int)] : List (List Int))), ⟨u5, Sl_u5, trR (geB w0.heap.size) (oPt 58 (oAr 6 (oSl 3 (oRd (eInt .i64))))) y26 []⟩] A w := hO.sub [(0, ob (.pointer (some ⟨b1_0, 0, none⟩)) (.box w0.heap.size 29 E_impl_RuleSet p0)), (1, ob (.pointer (some ⟨b2_1, 0, none⟩)) (.box w0.heap.size 58 (eAr (eSl (eInt .i64)) 6) ([([] : List Int), ([] : List Int), ([] : List Int), ([] : List Int), ([] : List Int), ([] : List Int)] : List (List Int)))), (2, ⟨u5, Sl_u5, trR (geB w0.heap.size) (oPt 58 (oAr 6 (oSl 3 (oRd (eInt .i64))))) y26 []⟩)] ⟨rfl, rfl, ⟨rfl, rfl, ⟨rfl, rfl, trivial⟩⟩⟩
            replace hA := hA.fr hw.size
            replace hF := hF.trans hw
            clear hs hF' hw
            refine seqR_nil ?_
            exact Exists.intro k (And.intro (Nat.lt_succ_self k) ⟨_, _, _, Sl_u5, hr, hA, hF, hAA, hO, h1, h2, h3, h4, h7, h14, h15, h16, f_u21⟩)
        · have hr := cnd_f c27 hr
          refine HT.exit ?_
          obtain rfl := Option.some.inj hr
          exact Exists.intro _ ⟨_, Sl_u5, rfl, hA, hF, hAA, hO, h1, h2, h3, h4, h7⟩
      rintro R w ⟨A, s24, So_u5, es, hA, hF, hAA, hO, h1, h2, h3, h4, h7⟩
      obtain rfl := es.symm
      refine HT.seq ?_
      obtain ⟨e47, hr⟩ := ck_some hr
      obtain ⟨h48, p_h48⟩ := ((HoleA.ar (tr_root (hO.own 2 _ rfl).2).ptr e47 rfl)).open1 rfl
      replace hO : IniOK [ob (.pointer (some ⟨b1_0, 0, none⟩)) (.box w0.heap.size 29 E_impl_RuleSet p0), ob (.pointer (some ⟨b2_1, 0, none⟩)) (.box w0.heap.size 58 (eAr (eSl (eInt .i64)) 6) ([([] : List Int), ([] : List Int), ([] : List Int), ([] : List Int), ([] : List Int), ([] : List Int)] : List (List Int))), ⟨u5, So_u5, trR (geB w0.heap.size) (oPt 58 (oAr 6 (oSl 3 (oRd (eInt .i64))))) s24 [((padd u5 (y10.toNat * 1)), [h48])]⟩] A w := hO.repin 2 rfl (trP.pin p_h48)
      obtain ⟨x50, q51, hr⟩ := cl_some hr
      refine HT.textR [ob (.pointer (some ⟨b1_0, 0, none⟩)) (.box w0.heap.size 29 E_impl_RuleSet p0), ob (.pointer (some ⟨b2_1, 0, none⟩)) (.box w0.heap.size 58 (eAr (eSl (eInt .i64)) 6) ([([] : List Int), ([] : List Int), ([] : List Int), ([] : List Int), ([] : List Int), ([] : List Int)] : List (List Int))), ⟨u5, So_u5, trR (geB w0.heap.size) (oPt 58 (oAr 6 (oSl 3 (oRd (eInt .i64))))) s24 [((padd u5 (y10.toNat * 1)), [h48])]⟩] (⟨_, true, [], none, true, fun A => .raw (.int .i64 y10)⟩ :: ⟨_, true, [], none, true, fun A => .raw (padd u5 (y10.toNat * 1))⟩ :: ⟨_, true, [], none, true, fun A => .raw h48⟩ :: ⟨_, true, [2], some (trR (geB w0.heap.size) (oPt 58 (oAr 6 (oSl 3 (oRd (eInt .i64))))) (s24.set y10.toNat x50) []), false, fun A => .any⟩ :: []) (by kernel_rfl) (by kernel_rfl) (Wf.mk' (by kernel_rfl) (UAll.cons ust_raw (UAll.cons ust_raw (UAll.cons ust_raw (UAll.cons ust_any (UAll.nil))))) (by kernel_rfl) (by kernel_rfl)) hO hA ?_ ?_
      · exact
          OblsR.cons (OblR.plain rfl rfl rfl rfl fun A' R' w' ho hd => by have a0 : R' 4 = .int .i64 y10 := (ho.old 4 rfl).trans h4; exact of_move a0) <|
          OblsR.cons (OblR.plain rfl rfl rfl rfl fun A' R' w' ho hd => by have a0 : R' 3 = u5 := (ho.old 3 rfl).trans h3; have a1 : R' 34 = .int .i64 y10 := hd 0 _ _ _ rfl rfl rfl rfl rfl; exact of_indexAddr_ar ((tr_root (hO.own 2 _ rfl).2).ptr).ad a0 a1 Try.underlying58 Try.sizeOf33 e47 rfl) <|
          OblsR.cons (OblR.plain rfl rfl rfl rfl fun A' R' w' ho hd => by have a0 : R' 35 = (padd u5 (y10.toNat * 1)) := hd 0 _ _ _ rfl rfl rfl rfl rfl; exact of_load_pin ((ho.rdo 2 _ rfl rfl).2.2 _ (.head _)) a0 Try.isAgg33 Try.sizeOf33) <|
          OblsR.cons (OblR.tookS 2 _ _ rfl rfl rfl rfl rfl fun A' R' w' ho hd u S hok hown hav hin hop hds => by have a0 : R' 36 = h48 := hd 0 _ _ _ rfl rfl rfl rfl rfl; have e0 := (hin _ rfl).1; rw [e0] at hown ⊢; have hu0 : evalR R' (.tmp 36) = h48 := a0; exact took_callT Try.call66 (((HoleA.ar (tr_root hown.2).ptr e47 rfl)).pin (hown.2.2 _ (.head _)) rfl) hav hown.1 (fun k hk => Nat.le_trans (Nat.le_trans hF.size ho.ch.size) hk) (fun k hk => SP.lt _ hown.2 hk) (fun S1 hS1 hP => by simp only [List.map, hu0]; exact Calls.mono (M_sortI_ok (q51 rfl) (ho.av.subS _) (fun b o h hb => h.2 ((tr_ownsB (fun _ _ _ _ _ h => h) hP) ▸ hb)) (vec_of_tr (fun _ _ _ _ _ h => h) hP).1) (fun _ _ ⟨v, h1, h2⟩ => ⟨v, h1, gave_of_vec (fun _ _ _ _ _ h => h) hP ⟨trivial, h2.2⟩ (tr_ownsB (fun _ _ _ _ _ h => h) hP)⟩)) (fun _ _ _ h => h)) <|
          OblsR.nil
      intro done ρ σ A R w hdn hI
      replace h1 : R 1 = (.pointer (some ⟨b1_0, 0, none⟩)) := (hI.reg rfl).trans h1
      replace h2 : R 2 = (.pointer (some ⟨b2_1, 0, none⟩)) := (hI.reg rfl).trans h2
      replace h3 : R 3 = u5 := (hI.reg rfl).trans h3
      replace h4 : R 4 = .int .i64 y10 := (hI.reg rfl).trans h4
      replace h7 : R 7 = .int .i64 y10 := (hI.reg rfl).trans h7
      have z52 := hI.inivR 0 rfl
      have z53 := hI.inivR 1 rfl
      have z54 := hI.inivR 2 rfl
      have z55 := (hI.opnR hdn 6 3 rfl rfl rfl rfl rfl).trans z54
      obtain ⟨S56, eS_u5⟩ : ∃ S, σ 6 = S := ⟨_, rfl⟩
      replace hAA := hI.low' hAA hA0 (hO.ge (⟨rfl, ⟨rfl, ⟨fun _ h => h, trivial⟩⟩⟩))
      replace hF : Fr w0 w := hF.tr hI.ch (hO.ge (⟨rfl, ⟨rfl, ⟨fun _ h => h, trivial⟩⟩⟩))
      replace hO : IniOK [ob (.pointer (some ⟨b1_0, 0, none⟩)) (.box w0.heap.size 29 E_impl_RuleSet p0), ob (.pointer (some ⟨b2_1, 0, none⟩)) (.box w0.heap.size 58 (eAr (eSl (eInt .i64)) 6) ([([] : List Int), ([] : List Int), ([] : List Int), ([] : List Int), ([] : List Int), ([] : List Int)] : List (List Int))), ⟨u5, S56, trR (geB w0.heap.size) (oPt 58 (oAr 6 (oSl 3 (oRd (eInt .i64))))) (s24.set y10.toNat x50) []⟩] A w := hI.left hdn [(0, ob (.pointer (some ⟨b1_0, 0, none⟩)) (.box w0.heap.size 29 E_impl_RuleSet p0)), (1, ob (.pointer (some ⟨b2_1, 0, none⟩)) (.box w0.heap.size 58 (eAr (eSl (eInt .i64)) 6) ([([] : List Int), ([] : List Int), ([] : List Int), ([] : List Int), ([] : List Int), ([] : List Int)] : List (List Int)))), (6, ⟨u5, S56, trR (geB w0.heap.size) (oPt 58 (oAr 6 (oSl 3 (oRd (eInt .i64))))) (s24.set y10.toNat x50) []⟩)] ⟨rfl, rfl, z52, rfl, rfl, ⟨rfl, rfl, z53, rfl, rfl, ⟨rfl, rfl, z55, eS_u5, rfl, trivial⟩⟩⟩
      replace hA := hI.avok
      clear hI
      obtain ⟨e57, hr⟩ := ck_some hr
      obtain ⟨h58, p_h58⟩ := ((HoleA.ar (tr_root (hO.own 2 _ rfl).2).ptr e57 rfl)).open1 rfl
      replace hO : IniOK [ob (.pointer (some ⟨b1_0, 0, none⟩)) (.box w0.heap.size 29 E_impl_RuleSet p0), ob (.pointer (some ⟨b2_1, 0, none⟩)) (.box w0.heap.size 58 (eAr (eSl (eInt .i64)) 6) ([([] : List Int), ([] : List Int), ([] : List Int), ([] : List Int), ([] : List Int), ([] : List Int)] : List (List Int))), ⟨u5, S56, trR (geB w0.heap.size) (oPt 58 (oAr 6 (oSl 3 (oRd (eInt .i64))))) (s24.set y10.toNat x50) [((padd u5 (y10.toNat * 1)), [h58])]⟩] A w := hO.repin 2 rfl (trP.pin p_h58)
      obtain ⟨x60, q61, hr⟩ := cl_some hr
      obtain ⟨e62, hr⟩ := ck_some hr
      refine HT.textR [ob (.pointer (some ⟨b1_0, 0, none⟩)) (.box w0.heap.size 29 E_impl_RuleSet p0), ob (.pointer (some ⟨b2_1, 0, none⟩)) (.box w0.heap.size 58 (eAr (eSl (eInt .i64)) 6) ([([] : List Int), ([] : List Int), ([] : List Int), ([] : List Int), ([] : List Int), ([] : List Int)] : List (List Int))), ⟨u5, S56, trR (geB w0.heap.size) (oPt 58 (oAr 6 (oSl 3 (oRd (eInt .i64))))) (s24.set y10.toNat x50) [((padd u5 (y10.toNat * 1)), [h58])]⟩] (⟨_, true, [], none, true, fun A => .raw (.int .i64 y10)⟩ :: ⟨_, true, [], none, true, fun A => .raw (.int .i64 y10)⟩ :: ⟨_, true, [], none, true, fun A => .raw (padd u5 (y10.toNat * 1))⟩ :: ⟨_, true, [], none, true, fun A => .raw h58⟩ :: ⟨_, true, [2], some (.gen (geB w0.heap.size) (pdP (oSl 3 (oRd (eInt .i64))) (padd u5 (y10.toNat * 1)) (fun z A w S => (trP (oPt 58 (oAr 6 (oSl 3 (oRd (eInt .i64))))) ((s24.set y10.toNat x50).set y10.toNat z) []).P A w S u5) x60)), true, fun A => .any⟩ :: ⟨_, true, [], none, true, fun A => .raw (padd u5 (y10.toNat * 1))⟩ :: ⟨_, true, [7], some (.gen (geB w0.heap.size) (fixP u5 (trP (oPt 58 (oAr 6 (oSl 3 (oRd (eInt .i64))))) ((s24.set y10.toNat x50).set y10.toNat x60) []))), false, fun A => .any⟩ :: []) (by kernel_rfl) (by kernel_rfl) (Wf.mk' (by kernel_rfl) (UAll.cons ust_raw (UAll.cons ust_raw (UAll.cons ust_raw (UAll.cons ust_raw (UAll.cons ust_any (UAll.cons ust_raw (UAll.cons ust_any (UAll.nil)))))))) (by kernel_rfl) (by kernel_rfl)) hO hA ?_ ?_
      · exact
          OblsR.cons (OblR.plain rfl rfl rfl rfl fun A' R' w' ho hd => by have a0 : R' 4 = .int .i64 y10 := (ho.old 4 rfl).trans h4; exact of_move a0) <|
          OblsR.cons (OblR.plain rfl rfl rfl rfl fun A' R' w' ho hd => by have a0 : R' 4 = .int .i64 y10 := (ho.old 4 rfl).trans h4; exact of_move a0) <|
          OblsR.cons (OblR.plain rfl rfl rfl rfl fun A' R' w' ho hd => by have a0 : R' 3 = u5 := (ho.old 3 rfl).trans h3; have a1 : R' 39 = .int .i64 y10 := hd 0 _ _ _ rfl rfl rfl rfl rfl; exact of_indexAddr_ar ((tr_root (hO.own 2 _ rfl).2).ptr).ad a0 a1 Try.underlying58 Try.sizeOf33 e57 rfl) <|
          OblsR.cons (OblR.plain rfl rfl rfl rfl fun A' R' w' ho hd => by have a0 : R' 40 = (padd u5 (y10.toNat * 1)) := hd 0 _ _ _ rfl rfl rfl rfl rfl; exact of_load_pin ((ho.rdo 2 _ rfl rfl).2.2 _ (.head _)) a0 Try.isAgg33 Try.sizeOf33) <|
          OblsR.cons (OblR.tookS 2 _ _ rfl rfl rfl rfl rfl fun A' R' w' ho hd u S hok hown hav hin hop hds => by have a0 : R' 41 = h58 := hd 0 _ _ _ rfl rfl rfl rfl rfl; have e0 := (hin _ rfl).1; rw [e0] at hown ⊢; exact pend_of_took (HoleA.ar (tr_root hown.2).ptr e57 rfl) (hown.2.2 _ (.head _)) hav hown.1 (fun k hk => Nat.le_trans (Nat.le_trans hF.size ho.ch.size) hk) (fun k hk => SP.lt _ hown.2 hk) (fun hok1 hav1 => by have hu0 : evalR R' (.tmp 41) = h58 := a0; exact took_callm Try.call67 hav1 (by simp only [List.map, hu0]; exact M_slices_Compact_int_int_ok (q61 rfl) (ho.av.sub _) (fun b o h => h.2) (Vec.flat hok1 (fun _ _ _ _ _ h => h))))) <|
          OblsR.cons (OblR.plain rfl rfl rfl rfl fun A' R' w' ho hd => by have a0 : R' 3 = u5 := (ho.old 3 rfl).trans h3; have a1 : R' 38 = .int .i64 y10 := hd 0 _ _ _ rfl rfl rfl rfl rfl; exact of_indexAddr_ar ((tr_root (hO.own 2 _ rfl).2).ptr).ad a0 a1 Try.underlying58 Try.sizeOf33 e62 rfl) <|
          OblsR.cons (OblR.tookS 7 _ _ rfl rfl rfl rfl rfl fun A' R' w' ho hd u S hok hown hav hin hop hds => by have a0 : R' 43 = (padd u5 (y10.toNat * 1)) := hd 0 _ _ _ rfl rfl rfl rfl rfl; exact took_putP hown.2 (hop _ _ rfl rfl rfl rfl).symm a0 hav hown.1 Try.sizeOf33 (fun _ _ _ h => h)) <|
          OblsR.nil
      intro done ρ σ A R w hdn hI
      replace h1 : R 1 = (.pointer (some ⟨b1_0, 0, none⟩)) := (hI.reg rfl).trans h1
      replace h2 : R 2 = (.pointer (some ⟨b2_1, 0, none⟩)) := (hI.reg rfl).trans h2
      replace h3 : R 3 = u5 := (hI.reg rfl).trans h3
      replace h7 : R 7 = .int .i64 y10 := (hI.reg rfl).trans h7
      have z63 := hI.inivR 0 rfl
      have z64 := hI.inivR 1 rfl
      obtain ⟨u65, e_u65⟩ : ∃ u, ρ 9 = u := ⟨_, rfl⟩
      obtain ⟨S66, eS_u5⟩ : ∃ S, σ 9 = S := ⟨_, rfl⟩
      replace hAA := hI.low' hAA hA0 (hO.ge (⟨rfl, ⟨rfl, ⟨fun _ h => h, trivial⟩⟩⟩))
      replace hF : Fr w0 w := hF.tr hI.ch (hO.ge (⟨rfl, ⟨rfl, ⟨fun _ h => h, trivial⟩⟩⟩))
      replace hO : IniOK [ob (.pointer (some ⟨b1_0, 0, none⟩)) (.box w0.heap.size 29 E_impl_RuleSet p0), ob (.pointer (some ⟨b2_1, 0, none⟩)) (.box w0.heap.size 58 (eAr (eSl (eInt .i64)) 6) ([([] : List Int), ([] : List Int), ([] : List Int), ([] : List Int), ([] : List Int), ([] : List Int)] : List (List Int))), ⟨u65, S66, .gen (geB w0.heap.size) (fixP u5 (trP (oPt 58 (oAr 6 (oSl 3 (oRd (eInt .i64))))) ((s24.set y10.toNat x50).set y10.toNat x60) []))⟩] A w := hI.left hdn [(0, ob (.pointer (some ⟨b1_0, 0, none⟩)) (.box w0.heap.size 29 E_impl_RuleSet p0)), (1, ob (.pointer (some ⟨b2_1, 0, none⟩)) (.box w0.heap.size 58 (eAr (eSl (eInt .i64)) 6) ([([] : List Int), ([] : List Int), ([] : List Int), ([] : List Int), ([] : List Int), ([] : List Int)] : List (List Int)))), (9, ⟨u65, S66, .gen (geB w0.heap.size) (fixP u5 (trP (oPt 58 (oAr 6 (oSl 3 (oRd (eInt .i64))))) ((s24.set y10.toNat x50).set y10.toNat x60) []))⟩)] ⟨rfl, rfl, z63, rfl, rfl, ⟨rfl, rfl, z64, rfl, rfl, ⟨rfl, rfl, e_u65, eS_u5, rfl, trivial⟩⟩⟩
      replace hA := hI.avok
      clear hI
      replace hO : IniOK [ob (.pointer (some ⟨b1_0, 0, none⟩)) (.box w0.heap.size 29 E_impl_RuleSet p0), ob (.pointer (some ⟨b2_1, 0, none⟩)) (.box w0.heap.size 58 (eAr (eSl (eInt .i64)) 6) ([([] : List Int), ([] : List Int), ([] : List Int), ([] : List Int), ([] : List Int), ([] : List Int)] : List (List Int))), ⟨u5, S66, trR (geB w0.heap.size) (oPt 58 (oAr 6 (oSl 3 (oRd (eInt .i64))))) ((s24.set y10.toNat x50).set y10.toNat x60) []⟩] A w := hO.refix 2 rfl
      obtain ⟨e67, hr⟩ := ck_some hr
      refine HT.text (l := ⟨_, true, .raw (.int .i64 (y10 + (1 : Int)))⟩ :: ⟨_, true, .raw (.int .i64 (y10 + (1 : Int)))⟩ :: []) (tl := []) (by kernel_rfl) (by kernel_rfl) (by kernel_rfl) ?_ ?_
      · exact
          Obls.cons (Obl.plain rfl rfl fun R' w' hw hs hd => by have a0 : R' 7 = .int .i64 y10 := (hs 7 rfl).trans h7; exact of_add a0 rfl e67) <|
          Obls.cons (Obl.plain rfl rfl fun R' w' hw hs hd => by have a0 : R' 44 = .int .i64 (y10 + (1 : Int)) := hd 0 _ _ _ rfl rfl rfl rfl rfl; exact of_move a0) <|
          Obls.nil
      intro R w hw hs hF'
      replace h1 : R 1 = (.pointer (some ⟨b1_0, 0, none⟩)) := (hs 1 rfl).trans h1
      replace h2 : R 2 = (.pointer (some ⟨b2_1, 0, none⟩)) := (hs 2 rfl).trans h2
      replace h3 : R 3 = u5 := (hs 3 rfl).trans h3
      have h7 : R 7 = .int .i64 (y10 + (1 : Int)) := hF' 1 _ _ rfl rfl rfl
      replace hO := hO.fr hw
      replace hA := hA.fr hw.size
      replace hF := hF.trans hw
      clear hs hF' hw
      refine seqR_nil ?_
      exact Exists.intro k (And.intro (Nat.lt_succ_self k) ⟨_, _, _, S66, hr, hA, hF, hAA, hO, h1, h2, h3, h7⟩)
    · have hr := cnd_f c12 hr
      refine HT.exit ?_
      obtain rfl := Option.some.inj hr
      replace hO : IniOK [ob (.pointer (some ⟨b2_1, 0, none⟩)) (.box w0.heap.size 58 (eAr (eSl (eInt .i64)) 6) ([([] : List Int), ([] : List Int), ([] : List Int), ([] : List Int), ([] : List Int), ([] : List Int)] : List (List Int))), ⟨u5, Sl_u5, trR (geB w0.heap.size) (oPt 58 (oAr 6 (oSl 3 (oRd (eInt .i64))))) y11 []⟩] A w := hO.sub [(1, ob (.pointer (some ⟨b2_1, 0, none⟩)) (.box w0.heap.size 58 (eAr (eSl (eInt .i64)) 6) ([([] : List Int), ([] : List Int), ([] : List Int), ([] : List Int), ([] : List Int), ([] : List Int)] : List (List Int)))), (2, ⟨u5, Sl_u5, trR (geB w0.heap.size) (oPt 58 (oAr 6 (oSl 3 (oRd (eInt .i64))))) y11 []⟩)] ⟨rfl, rfl, ⟨rfl, rfl, trivial⟩⟩
      exact Exists.intro _ ⟨_, Sl_u5, rfl, hA, hF, hAA, hO, h2, h3⟩
  rintro R w ⟨A, s9, So_u5, es, hA, hF, hAA, hO, h2, h3⟩
  obtain rfl := es.symm
  refine HT.seq ?_
  refine HT.textR [ob (.pointer (some ⟨b2_1, 0, none⟩)) (.box w0.heap.size 58 (eAr (eSl (eInt .i64)) 6) ([([] : List Int), ([] : List Int), ([] : List Int), ([] : List Int), ([] : List Int), ([] : List Int)] : List (List Int))), ⟨u5, So_u5, trR (geB w0.heap.size) (oPt 58 (oAr 6 (oSl 3 (oRd (eInt .i64))))) s9 []⟩] (⟨_, true, [1], some (.nul), false, fun A => .rep (eAr (eSl (eInt .i64)) 6) A s9⟩ :: ⟨_, true, [0], some (.box w0.heap.size 58 (eAr (eSl (eInt .i64)) 6) s9), false, fun A => .any⟩ :: []) (by kernel_rfl) (by kernel_rfl) (Wf.mk' (by kernel_rfl) (UAll.cons ust_rep (UAll.cons ust_any (UAll.nil))) (by kernel_rfl) (by kernel_rfl)) hO hA ?_ ?_
  · exact
      OblsR.cons (OblR.tookS 1 .nul _ rfl rfl rfl rfl rfl fun A' R' w' ho hd u S hok hown hav hin hop hds => by have a0 : R' 3 = u5 := (ho.old 3 rfl).trans h3; exact frz_loadT hown.2 (a0.trans (hin _ rfl).1.symm) hav Try.isAgg58 Try.sizeOf58) <|
      OblsR.cons (OblR.took 0 _ _ rfl rfl rfl rfl rfl fun A' R' w' ho hd u hok hav hin hop hds => by have a0 : R' 2 = (.pointer (some ⟨b2_1, 0, none⟩)) := (ho.old 2 rfl).trans h2; have a1 : Rep (eAr (eSl (eInt .i64)) 6) A' w' (R' 45) s9 := hd 0 _ _ _ rfl rfl rfl rfl rfl; exact took_store a1 a0 (hin _ rfl) hok hav (FldS.id _) Try.sizeOf58 rfl) <|
      OblsR.nil
  intro done ρ σ A R w hdn hI
  replace h2 : R 2 = (.pointer (some ⟨b2_1, 0, none⟩)) := (hI.reg rfl).trans h2
  have z68 := hI.inivR 0 rfl
  have z69 := (hI.opnR hdn 3 1 rfl rfl rfl rfl rfl).trans z68
  replace hAA := hI.low' hAA hA0 (hO.ge (⟨rfl, ⟨fun _ h => h, trivial⟩⟩))
  replace hF : Fr w0 w := hF.tr hI.ch (hO.ge (⟨rfl, ⟨fun _ h => h, trivial⟩⟩))
  replace hO : IniOK [ob (.pointer (some ⟨b2_1, 0, none⟩)) (.box w0.heap.size 58 (eAr (eSl (eInt .i64)) 6) s9)] A w := hI.left hdn [(3, ob (.pointer (some ⟨b2_1, 0, none⟩)) (.box w0.heap.size 58 (eAr (eSl (eInt .i64)) 6) s9))] ⟨rfl, rfl, z69, rfl, rfl, trivial⟩
  replace hA := hI.avok
  clear hI
  refine HT.ret ?_
  obtain rfl := Option.some.inj hr
  obtain ⟨v_2, e_2, p_2⟩ := res_cell (hO.ok 0 _ rfl).1 h2 Try.isAgg58 Try.sizeOf58 hAA
  exact ⟨.inr rfl, [v_2], ⟨e_2, trivial⟩, p_2, hF⟩
def M_slices_IndexFunc_int_int_L0 (fu : Nat) (p0 : List Int) (p1 : Int → Option Bool) : Nat → Int → Option (Ex Int Unit)
  | 0, _ => none
  | k + 1, y4 =>
    bif (decide (y4 < (p0.length : Int))) then (
      ck (inR y4 p0.length) <|
      cl true (p1 (gtD p0 y4)) fun x7 =>
      bif x7 then (
        some (Ex.ret y4)
      ) else (
        ck (i64B (y4 + (1 : Int))) <|
        M_slices_IndexFunc_int_int_L0 fu p0 p1 k (y4 + (1 : Int))
      )
    ) else (
      some (Ex.go ())
    )
def M_slices_IndexFunc_int_int (fu : Nat) (p0 : List Int) (p1 : Int → Option Bool) : Option Int :=
  cl true (M_slices_IndexFunc_int_int_L0 fu p0 p1 fu (0 : Int)) fun rl1 =>
  exM rl1 (fun r => some r) fun s3 =>
  some (-1 : Int)
set_option maxRecDepth 100000 in
set_option maxHeartbeats 4000000 in
theorem M_slices_IndexFunc_int_int_ok {fu : Nat} {A : Av} {p0 : List Int} {p1 : Int → Option Bool} {r : Int} (hr : M_slices_IndexFunc_int_int fu p0 p1 = some r) {w : World} {v0 : Value} {v1 : Value} (hA : AvOK A w) (h0 : Rep (eSl (eInt .i64)) A w v0 p0) (h1 : FnB1 Try.prog (eInt .i64) (fun r => .raw (.bool r)) A w v1 p1) :
    Calls Try.prog 105 #[v0, v1] w fun e w' => ∃ v, e = .returned v ∧ (v = .int .i64 r ∧ Fr w w') := by
  unfold M_slices_IndexFunc_int_int at hr
  obtain ⟨w0, hw0⟩ : ∃ w0, w0 = w := ⟨_, rfl⟩
  have hF : Fr w0 w := hw0 ▸ Fr.refl _
  rw [show Fr w = Fr w0 from hw0 ▸ rfl]
  have f_v1 : FnB1 Try.prog (eInt .i64) (fun r => .raw (.bool r)) A w0 v1 p1 := hw0 ▸ h1
  clear hw0
  refine calls_of_HT2 [.tmp 4] Try.func105 Try.ntmps105 (by decide) rfl rfl (Nat.le_of_ble_eq_true rfl) ?_
  intro R hR
  have f_v0 := h0
  replace h0 : R 0 = v0 := hR 0 _ rfl
  replace h1 : R 1 = v1 := hR 1 _ rfl
  clear hR
  refine HT.seq ?_
  refine HT.text (l := ⟨_, true, .raw (.int .i64 (0 : Int))⟩ :: []) (tl := []) (by kernel_rfl) (by kernel_rfl) (by kernel_rfl) ?_ ?_
  · exact
      Obls.cons (Obl.plain rfl rfl fun R' w' hw hs hd => by exact of_assign rfl) <|
      Obls.nil
  intro R w hw hs hF'
  replace h0 : R 0 = v0 := (hs 0 rfl).trans h0
  replace h1 : R 1 = v1 := (hs 1 rfl).trans h1
  replace f_v0 := f_v0.fr hw
  replace hA := hA.fr hw.size
  replace hF := hF.trans hw
  clear hs hF' hw
  refine seqR_nil ?_
  refine HT.seq ?_
  refine HT.seq ?_
  refine HT.text (l := ⟨_, true, .raw v0⟩ :: ⟨_, true, .raw (.int .i64 (p0.length : Int))⟩ :: ⟨_, true, .raw (.int .i64 (0 : Int))⟩ :: []) (tl := []) (by kernel_rfl) (by kernel_rfl) (by kernel_rfl) ?_ ?_
  · exact
      Obls.cons (Obl.plain rfl rfl fun R' w' hw hs hd => by have a0 : R' 0 = v0 := (hs 0 rfl).trans h0; exact of_move a0) <|
      Obls.cons (Obl.plain rfl rfl fun R' w' hw hs hd => by have a0 : R' 6 = v0 := hd 0 _ _ _ rfl rfl rfl rfl rfl; have ra0 := (f_v0.fr hw).eq a0; exact of_len_sl (aT := #[]) ra0 Try.underlying33) <|
      Obls.cons (Obl.plain rfl rfl fun R' w' hw hs hd => by exact of_move rfl) <|
      Obls.nil
  intro R w hw hs hF'
  replace h0 : R 0 = v0 := (hs 0 rfl).trans h0
  replace h1 : R 1 = v1 := (hs 1 rfl).trans h1
  have h7 : R 7 = .int .i64 (p0.length : Int) := hF' 1 _ _ rfl rfl rfl
  have h8 : R 8 = .int .i64 (0 : Int) := hF' 2 _ _ rfl rfl rfl
  replace f_v0 := f_v0.fr hw
  replace hA := hA.fr hw.size
  replace hF := hF.trans hw
  clear hs hF' hw
  refine seqR_nil ?_
  obtain ⟨rl1, q2, hr⟩ := cl_some hr
  replace q2 := q2 rfl
  refine HT.cut0 (fun R w => ∃ (s3 : Unit), rl1 = Ex.go s3 ∧ AvOK A w ∧ Fr w0 w) ?_ ?_
  · refine HT.block ?_
    refine HT.loop (fun k R w => ∃ (y4 : Int), M_slices_IndexFunc_int_int_L0 fu p0 p1 k y4 = some rl1 ∧ AvOK A w ∧ Fr w0 w ∧ R 0 = v0 ∧ R 1 = v1 ∧ R 7 = .int .i64 (p0.length : Int) ∧ R 8 = .int .i64 y4 ∧ Rep (eSl (eInt .i64)) A w v0 p0) fu ⟨_, q2, hA, hF, h0, h1, h7, h8, f_v0⟩ ?_
    have hr0 := hr; clear hr q2
    rintro k R w ⟨y4, hr, hA, hF, h0, h1, h7, h8, f_v0⟩
    rcases k with _ | k
    · cases (show none = some _ from hr)
    rw [M_slices_IndexFunc_int_int_L0] at hr
    refine HT.seq ?_
    refine HT.text (l := ⟨_, true, .raw (.bool (decide (y4 < (p0.length : Int))))⟩ :: []) (tl := []) (by kernel_rfl) (by kernel_rfl) (by kernel_rfl) ?_ ?_
    · exact
        Obls.cons (Obl.plain rfl rfl fun R' w' hw hs hd => by have a0 : R' 8 = .int .i64 y4 := (hs 8 rfl).trans h8; have a1 : R' 7 = .int .i64 (p0.length : Int) := (hs 7 rfl).trans h7; exact of_lss a0 a1) <|
        Obls.nil
    intro R w hw hs hF'
    replace h0 : R 0 = v0 := (hs 0 rfl).trans h0
    replace h1 : R 1 = v1 := (hs 1 rfl).trans h1
    replace h7 : R 7 = .int .i64 (p0.length : Int) := (hs 7 rfl).trans h7
    replace h8 : R 8 = .int .i64 y4 := (hs 8 rfl).trans h8
    have h9 : R 9 = .bool (decide (y4 < (p0.length : Int))) := hF' 0 _ _ rfl rfl rfl
    replace f_v0 := f_v0.fr hw
    replace hA := hA.fr hw.size
    replace hF := hF.trans hw
    clear hs hF' hw
    refine seqR_nil ?_
    refine HT.seq ?_
    refine HT.cond (decide (y4 < (p0.length : Int))) h9 (fun c5 => ?_) (fun c5 => ?_)
    · have hr := cnd_t c5 hr
      refine HT.skip ?_
      refine HT.seq ?_
      refine HT.block ?_
      refine HT.seq ?_
      refine HT.text (l := ⟨_, true, .raw (.int .i64 y4)⟩ :: ⟨_, true, .raw (.int .i64 y4)⟩ :: []) (tl := []) (by kernel_rfl) (by kernel_rfl) (by kernel_rfl) ?_ ?_
      · exact
          Obls.cons (Obl.plain rfl rfl fun R' w' hw hs hd => by have a0 : R' 8 = .int .i64 y4 := (hs 8 rfl).trans h8; exact of_move a0) <|
          Obls.cons (Obl.plain rfl rfl fun R' w' hw hs hd => by have a0 : R' 10 = .int .i64 y4 := hd 0 _ _ _ rfl rfl rfl rfl rfl; exact of_assign a0) <|
          Obls.nil
      intro R w hw hs hF'
      replace h0 : R 0 = v0 := (hs 0 rfl).trans h0
      replace h1 : R 1 = v1 := (hs 1 rfl).trans h1
      replace h7 : R 7 = .int .i64 (p0.length : Int) := (hs 7 rfl).trans h7
      replace h8 : R 8 = .int .i64 y4 := (hs 8 rfl).trans h8
      have h5 : R 5 = .int .i64 y4 := hF' 1 _ _ rfl rfl rfl
      replace f_v0 := f_v0.fr hw
      replace hA := hA.fr hw.size
      replace hF := hF.trans hw
      clear hs hF' hw
      refine seqR_nil ?_
      refine HT.seq ?_
      obtain ⟨e6, hr⟩ := ck_some hr
      obtain ⟨x7, q8, hr⟩ := cl_some hr
      refine HT.text (l := ⟨_, true, .raw v1⟩ :: ⟨_, true, .raw v0⟩ :: ⟨_, true, .raw (.int .i64 y4)⟩ :: ⟨_, true, .qtr (eInt .i64) A (gtD p0 y4)⟩ :: ⟨_, true, .raw (.int .i64 (gtD p0 y4))⟩ :: ⟨_, true, .raw (.bool x7)⟩ :: []) (tl := []) (by kernel_rfl) (by kernel_rfl) (by kernel_rfl) ?_ ?_
      · exact
          Obls.cons (Obl.plain rfl rfl fun R' w' hw hs hd => by have a0 : R' 1 = v1 := (hs 1 rfl).trans h1; exact of_move a0) <|
          Obls.cons (Obl.plain rfl rfl fun R' w' hw hs hd => by have a0 : R' 0 = v0 := (hs 0 rfl).trans h0; exact of_move a0) <|
          Obls.cons (Obl.plain rfl rfl fun R' w' hw hs hd => by have a0 : R' 5 = .int .i64 y4 := (hs 5 rfl).trans h5; exact of_move a0) <|
          Obls.cons (Obl.plain rfl rfl fun R' w' hw hs hd => by have a0 : R' 12 = v0 := hd 0 _ _ _ rfl rfl rfl rfl rfl; have a1 : R' 13 = .int .i64 y4 := hd 1 _ _ _ rfl rfl rfl rfl rfl; have ra0 := (f_v0.fr hw).eq a0; exact of_indexAddr ra0 a1 Try.underlying33 Try.sizeOf3 e6) <|
          Obls.cons (Obl.plain rfl rfl fun R' w' hw hs hd => by have a0 : QRep (eInt .i64) A w' (R' 14) (gtD p0 y4) := hd 0 _ _ _ rfl rfl rfl rfl rfl; exact OpF.int (of_load a0.ptr Try.isAgg3 Try.sizeOf3)) <|
          Obls.cons (Obl.plain rfl rfl fun R' w' hw hs hd => by have a0 : R' 11 = v1 := hd 0 _ _ _ rfl rfl rfl rfl rfl; have a1 : R' 15 = .int .i64 (gtD p0 y4) := hd 1 _ _ _ rfl rfl rfl rfl rfl; exact of_callv a0 (f_v1 _ _ (q8 rfl) _ _ ((hF.trans hw).ch _) (hA.fr hw.size) (rep_int.eq a1))) <|
          Obls.nil
      intro R w hw hs hF'
      replace h0 : R 0 = v0 := (hs 0 rfl).trans h0
      replace h1 : R 1 = v1 := (hs 1 rfl).trans h1
      replace h5 : R 5 = .int .i64 y4 := (hs 5 rfl).trans h5
      replace h7 : R 7 = .int .i64 (p0.length : Int) := (hs 7 rfl).trans h7
      replace h8 : R 8 = .int .i64 y4 := (hs 8 rfl).trans h8
      have h16 : R 16 = .bool x7 := hF' 5 _ _ rfl rfl rfl
      replace f_v0 := f_v0.fr hw
      replace hA := hA.fr hw.size
      replace hF := hF.trans hw
      clear hs hF' hw
      refine seqR_nil ?_
      refine HT.cond x7 h16 (fun c9 => ?_) (fun c9 => ?_)
      · have hr := cnd_t c9 hr
        refine HT.seq ?_
        refine HT.text (l := ⟨_, true, .raw (.int .i64 y4)⟩ :: ⟨_, true, .raw (.int .i64 y4)⟩ :: []) (tl := []) (by kernel_rfl) (by kernel_rfl) (by kernel_rfl) ?_ ?_
        · exact
            Obls.cons (Obl.plain rfl rfl fun R' w' hw hs hd => by have a0 : R' 5 = .int .i64 y4 := (hs 5 rfl).trans h5; exact of_move a0) <|
            Obls.cons (Obl.plain rfl rfl fun R' w' hw hs hd => by have a0 : R' 17 = .int .i64 y4 := hd 0 _ _ _ rfl rfl rfl rfl rfl; exact of_assign a0) <|
            Obls.nil
        intro R w hw hs hF'
        have h4 : R 4 = .int .i64 y4 := hF' 1 _ _ rfl rfl rfl
        replace hA := hA.fr hw.size
        replace hF := hF.trans hw
        clear hs hF' hw
        refine seqR_nil ?_
        refine HT.ret ?_
        obtain rfl := Option.some.inj hr
        have hr := hr0
        replace hr : some _ = some _ := hr
        obtain rfl := Option.some.inj hr
        exact ⟨.inr rfl, [R 4], ⟨rfl, trivial⟩, h4, hF⟩
      · have hr := cnd_f c9 hr
        refine HT.skip ?_
        obtain ⟨e10, hr⟩ := ck_some hr
        refine HT.text (l := ⟨_, true, .raw (.int .i64 (y4 + (1 : Int)))⟩ :: ⟨_, true, .raw (.int .i64 (y4 + (1 : Int)))⟩ :: []) (tl := []) (by kernel_rfl) (by kernel_rfl) (by kernel_rfl) ?_ ?_
        · exact
            Obls.cons (Obl.plain rfl rfl fun R' w' hw hs hd => by have a0 : R' 8 = .int .i64 y4 := (hs 8 rfl).trans h8; exact of_add a0 rfl e10) <|
            Obls.cons (Obl.plain rfl rfl fun R' w' hw hs hd => by have a0 : R' 18 = .int .i64 (y4 + (1 : Int)) := hd 0 _ _ _ rfl rfl rfl rfl rfl; exact of_move a0) <|
            Obls.nil
        intro R w hw hs hF'
        replace h0 : R 0 = v0 := (hs 0 rfl).trans h0
        replace h1 : R 1 = v1 := (hs 1 rfl).trans h1
        replace h7 : R 7 = .int .i64 (p0.length : Int) := (hs 7 rfl).trans h7
        have h8 : R 8 = .int .i64 (y4 + (1 : Int)) := hF' 1 _ _ rfl rfl rfl
        replace f_v0 := f_v0.fr hw
        replace hA := hA.fr hw.size
        replace hF := hF.trans hw
        clear hs hF' hw
        refine seqR_nil ?_
        exact Exists.intro k (And.intro (Nat.lt_succ_self k) ⟨_, hr, hA, hF, h0, h1, h7, h8, f_v0⟩)
    · have hr := cnd_f c5 hr
      refine HT.exit ?_
      obtain rfl := Option.some.inj hr
      exact Exists.intro _ ⟨rfl, hA, hF⟩
  rintro R w ⟨s3, rfl, hA, hF⟩
  have hr := exM_go hr
  refine HT.seq ?_
  refine HT.text (l := ⟨_, true, .raw (.int .i64 (-1 : Int))⟩ :: []) (tl := []) (by kernel_rfl) (by kernel_rfl) (by kernel_rfl) ?_ ?_
  · exact
      Obls.cons (Obl.plain rfl rfl fun R' w' hw hs hd => by exact of_assign rfl) <|
      Obls.nil
  intro R w hw hs hF'
  have h4 : R 4 = .int .i64 (-1 : Int) := hF' 0 _ _ rfl rfl rfl
  replace hA := hA.fr hw.size
  replace hF := hF.trans hw
  clear hs hF' hw
  refine seqR_nil ?_
  refine HT.ret ?_
  obtain rfl := Option.some.inj hr
  exact ⟨.inr rfl, [R 4], ⟨rfl, trivial⟩, h4, hF⟩
def M_slices_ContainsFunc_int_int (fu : Nat) (p0 : List Int) (p1 : Int → Option Bool) : Option Bool :=
  cl true (M_slices_IndexFunc_int_int fu p0 p1) fun x1 =>
  some (decide ((0 : Int) ≤ x1))
set_option maxRecDepth 100000 in
set_option maxHeartbeats 4000000 in
theorem M_slices_ContainsFunc_int_int_ok {fu : Nat} {A : Av} {p0 : List Int} {p1 : Int → Option Bool} {r : Bool} (hr : M_slices_ContainsFunc_int_int fu p0 p1 = some r) {w : World} {v0 : Value} {v1 : Value} (hA : AvOK A w) (h0 : Rep (eSl (eInt .i64)) A w v0 p0) (h1 : FnB1 Try.prog (eInt .i64) (fun r => .raw (.bool r)) A w v1 p1) :
    Calls Try.prog 85 #[v0, v1] w fun e w' => ∃ v, e = .returned v ∧ (v = .bool r ∧ Fr w w') := by
  unfold M_slices_ContainsFunc_int_int at hr
  obtain ⟨w0, hw0⟩ : ∃ w0, w0 = w := ⟨_, rfl⟩
  have hF : Fr w0 w := hw0 ▸ Fr.refl _
  rw [show Fr w = Fr w0 from hw0 ▸ rfl]
  have f_v1 : FnB1 Try.prog (eInt .i64) (fun r => .raw (.bool r)) A w0 v1 p1 := hw0 ▸ h1
  clear hw0
  refine calls_of_HT2 [.tmp 4] Try.func85 Try.ntmps85 (by decide) rfl rfl (Nat.le_of_ble_eq_true rfl) ?_
  intro R hR
  have f_v0 := h0
  replace h0 : R 0 = v0 := hR 0 _ rfl
  replace h1 : R 1 = v1 := hR 1 _ rfl
  clear hR
  refine HT.seq ?_
  refine HT.text (l := ⟨_, true, .raw (.bool false)⟩ :: []) (tl := []) (by kernel_rfl) (by kernel_rfl) (by kernel_rfl) ?_ ?_
  · exact
      Obls.cons (Obl.plain rfl rfl fun R' w' hw hs hd => by exact of_assign rfl) <|
      Obls.nil
  intro R w hw hs hF'
  replace h0 : R 0 = v0 := (hs 0 rfl).trans h0
  replace h1 : R 1 = v1 := (hs 1 rfl).trans h1
  replace f_v0 := f_v0.fr hw
  replace hA := hA.fr hw.size
  replace hF := hF.trans hw
  clear hs hF' hw
  refine seqR_nil ?_
  refine HT.seq ?_
  obtain ⟨x1, q2, hr⟩ := cl_some hr
  refine HT.text (l := ⟨_, true, .raw v0⟩ :: ⟨_, true, .raw v1⟩ :: ⟨_, true, .raw (.int .i64 x1)⟩ :: ⟨_, true, .raw (.bool (decide ((0 : Int) ≤ x1)))⟩ :: ⟨_, true, .raw (.bool (decide ((0 : Int) ≤ x1)))⟩ :: []) (tl := []) (by kernel_rfl) (by kernel_rfl) (by kernel_rfl) ?_ ?_
  · exact
      Obls.cons (Obl.plain rfl rfl fun R' w' hw hs hd => by have a0 : R' 0 = v0 := (hs 0 rfl).trans h0; exact of_move a0) <|
      Obls.cons (Obl.plain rfl rfl fun R' w' hw hs hd => by have a0 : R' 1 = v1 := (hs 1 rfl).trans h1; exact of_move a0) <|
      Obls.cons (Obl.plain rfl rfl fun R' w' hw hs hd => by have a0 : R' 5 = v0 := hd 0 _ _ _ rfl rfl rfl rfl rfl; have ra0 := (f_v0.fr hw).eq a0; have a1 : R' 6 = v1 := hd 1 _ _ _ rfl rfl rfl rfl rfl; exact of_call Try.call105 (M_slices_IndexFunc_int_int_ok (q2 rfl) (hA.fr hw.size) ra0 ((f_v1.on (hF.trans hw) (fun _ _ h => h)).eq a1))) <|
      Obls.cons (Obl.plain rfl rfl fun R' w' hw hs hd => by have a0 : R' 7 = .int .i64 x1 := hd 0 _ _ _ rfl rfl rfl rfl rfl; exact of_geq a0 rfl) <|
      Obls.cons (Obl.plain rfl rfl fun R' w' hw hs hd => by have a0 : R' 8 = .bool (decide ((0 : Int) ≤ x1)) := hd 0 _ _ _ rfl rfl rfl rfl rfl; exact of_assign a0) <|
      Obls.nil
  intro R w hw hs hF'
  have h4 : R 4 = .bool (decide ((0 : Int) ≤ x1)) := hF' 4 _ _ rfl rfl rfl
  replace hA := hA.fr hw.size
  replace hF := hF.trans hw
  clear hs hF' hw
  refine seqR_nil ?_
  refine HT.ret ?_
  obtain rfl := Option.some.inj hr
  exact ⟨.inr rfl, [R 4], ⟨rfl, trivial⟩, h4, hF⟩
def M_impl_IsFeatureVector_1 (fu : Nat) (p0 : Int) : Option Bool :=
  cl true (M_impl_within fu p0 (0 : Int) (1000 : Int)) fun x1 =>
  some (!x1)
set_option maxRecDepth 100000 in
set_option maxHeartbeats 4000000 in
theorem M_impl_IsFeatureVector_1_ok {fu : Nat} {A : Av} {p0 : Int} {r : Bool} (hr : M_impl_IsFeatureVector_1 fu p0 = some r) {w : World} {v0 : Value} (hA : AvOK A w) (h0 : v0 = .int .i64 p0) :
    Calls Try.prog 86 #[v0] w fun e w' => ∃ v, e = .returned v ∧ (v = .bool r ∧ Fr w w') := by
  unfold M_impl_IsFeatureVector_1 at hr
  obtain ⟨w0, hw0⟩ : ∃ w0, w0 = w := ⟨_, rfl⟩
  have hF : Fr w0 w := hw0 ▸ Fr.refl _
  rw [show Fr w = Fr w0 from hw0 ▸ rfl]
  clear hw0
  refine calls_of_HT2 [.tmp 2] Try.func86 Try.ntmps86 (by decide) rfl rfl (Nat.le_of_ble_eq_true rfl) ?_
  intro R hR
  replace h0 : R 0 = .int .i64 p0 := (hR 0 _ rfl).trans h0
  clear hR
  refine HT.seq ?_
  refine HT.text (l := ⟨_, true, .raw (.bool false)⟩ :: []) (tl := []) (by kernel_rfl) (by kernel_rfl) (by kernel_rfl) ?_ ?_
  · exact
      Obls.cons (Obl.plain rfl rfl fun R' w' hw hs hd => by exact of_assign rfl) <|
      Obls.nil
  intro R w hw hs hF'
  replace h0 : R 0 = .int .i64 p0 := (hs 0 rfl).trans h0
  replace hA := hA.fr hw.size
  replace hF := hF.trans hw
  clear hs hF' hw
  refine seqR_nil ?_
  refine HT.seq ?_
  obtain ⟨x1, q2, hr⟩ := cl_some hr
  refine HT.text (l := ⟨_, true, .raw (.int .i64 p0)⟩ :: ⟨_, true, .raw (.bool x1)⟩ :: ⟨_, true, .raw (.bool (!x1))⟩ :: ⟨_, true, .raw (.bool (!x1))⟩ :: []) (tl := []) (by kernel_rfl) (by kernel_rfl) (by kernel_rfl) ?_ ?_
  · exact
      Obls.cons (Obl.plain rfl rfl fun R' w' hw hs hd => by have a0 : R' 0 = .int .i64 p0 := (hs 0 rfl).trans h0; exact of_move a0) <|
      Obls.cons (Obl.plain rfl rfl fun R' w' hw hs hd => by have a0 : R' 3 = .int .i64 p0 := hd 0 _ _ _ rfl rfl rfl rfl rfl; exact of_call Try.call60 (M_impl_within_ok (q2 rfl) (hA.fr hw.size) a0 rfl rfl)) <|
      Obls.cons (Obl.plain rfl rfl fun R' w' hw hs hd => by have a0 : R' 4 = .bool x1 := hd 0 _ _ _ rfl rfl rfl rfl rfl; exact of_not a0) <|
      Obls.cons (Obl.plain rfl rfl fun R' w' hw hs hd => by have a0 : R' 5 = .bool (!x1) := hd 0 _ _ _ rfl rfl rfl rfl rfl; exact of_assign a0) <|
      Obls.nil
  intro R w hw hs hF'
  have h2 : R 2 = .bool (!x1) := hF' 3 _ _ rfl rfl rfl
  replace hA := hA.fr hw.size
  replace hF := hF.trans hw
  clear hs hF' hw
  refine seqR_nil ?_
  refine HT.ret ?_
  obtain rfl := Option.some.inj hr
  exact ⟨.inr rfl, [R 2], ⟨rfl, trivial⟩, h2, hF⟩
def M_impl_IsFeatureVector (fu : Nat) (p0 : List Int) : Option Bool :=
  cl (true && (((p0.length : Int) == (6 : Int)) == true)) (M_slices_ContainsFunc_int_int fu p0 (fun x => M_impl_IsFeatureVector_1 fu x)) fun x1 =>
  bd (((p0.length : Int) == (6 : Int)) && (!x1)) fun x3 =>
  some x3
set_option maxRecDepth 100000 in
set_option maxHeartbeats 4000000 in
theorem M_impl_IsFeatureVector_ok {fu : Nat} {A : Av} {p0 : List Int} {r : Bool} (hr : M_impl_IsFeatureVector fu p0 = some r) {w : World} {v0 : Value} (hA : AvOK A w) (h0 : Rep (eSl (eInt .i64)) A w v0 p0) :
    Calls Try.prog 53 #[v0] w fun e w' => ∃ v, e = .returned v ∧ (v = .bool r ∧ Fr w w') := by
  unfold M_impl_IsFeatureVector at hr
  obtain ⟨w0, hw0⟩ : ∃ w0, w0 = w := ⟨_, rfl⟩
  have hF : Fr w0 w := hw0 ▸ Fr.refl _
  rw [show Fr w = Fr w0 from hw0 ▸ rfl]
  clear hw0
  refine calls_of_HT2 [.tmp 2] Try.func53 Try.ntmps53 (by decide) rfl rfl (Nat.le_of_ble_eq_true rfl) ?_
  intro R hR
  have f_v0 := h0
  replace h0 : R 0 = v0 := hR 0 _ rfl
  clear hR
  refine HT.seq ?_
  refine HT.text (l := ⟨_, true, .raw (.bool false)⟩ :: []) (tl := []) (by kernel_rfl) (by kernel_rfl) (by kernel_rfl) ?_ ?_
  · exact
      Obls.cons (Obl.plain rfl rfl fun R' w' hw hs hd => by exact of_assign rfl) <|
      Obls.nil
  intro R w hw hs hF'
  replace h0 : R 0 = v0 := (hs 0 rfl).trans h0
  replace f_v0 := f_v0.fr hw
  replace hA := hA.fr hw.size
  replace hF := hF.trans hw
  clear hs hF' hw
  refine seqR_nil ?_
  refine HT.seq ?_
  obtain ⟨x1, q2, hr⟩ := cl_some hr
  obtain ⟨x3, q4, hr⟩ := bd_some hr
  refine HT.text (l := ⟨_, true, .raw v0⟩ :: ⟨_, true, .raw (.int .i64 (p0.length : Int))⟩ :: ⟨_, true, .raw (.bool ((p0.length : Int) == (6 : Int)))⟩ :: ⟨_, true, .raw (.bool ((p0.length : Int) == (6 : Int)))⟩ :: ⟨_, (true && (((p0.length : Int) == (6 : Int)) == true)), .raw v0⟩ :: ⟨_, (true && (((p0.length : Int) == (6 : Int)) == true)), .raw (.bool x1)⟩ :: ⟨_, (true && (((p0.length : Int) == (6 : Int)) == true)), .raw (.bool (!x1))⟩ :: ⟨_, true, .raw (.bool x3)⟩ :: ⟨_, true, .raw (.bool x3)⟩ :: []) (tl := []) (by kernel_rfl) (by kernel_rfl) (by kernel_rfl) ?_ ?_
  · exact
      Obls.cons (Obl.plain rfl rfl fun R' w' hw hs hd => by have a0 : R' 0 = v0 := (hs 0 rfl).trans h0; exact of_move a0) <|
      Obls.cons (Obl.plain rfl rfl fun R' w' hw hs hd => by have a0 : R' 3 = v0 := hd 0 _ _ _ rfl rfl rfl rfl rfl; have ra0 := (f_v0.fr hw).eq a0; exact of_len_sl (aT := #[]) ra0 Try.underlying33) <|
      Obls.cons (Obl.plain rfl rfl fun R' w' hw hs hd => by have a0 : R' 4 = .int .i64 (p0.length : Int) := hd 0 _ _ _ rfl rfl rfl rfl rfl; exact of_eql a0 rfl) <|
      Obls.cons (Obl.plain rfl rfl fun R' w' hw hs hd => by have a0 : R' 5 = .bool ((p0.length : Int) == (6 : Int)) := hd 0 _ _ _ rfl rfl rfl rfl rfl; exact of_move a0) <|
      Obls.cons (Obl.grd 3 true _ _ _ rfl rfl rfl rfl rfl (by kernel_rfl) fun hg R' w' hw hs hd => by have a0 : R' 0 = v0 := (hs 0 rfl).trans h0; exact of_move a0) <|
      Obls.cons (Obl.grd 3 true _ _ _ rfl rfl rfl rfl rfl (by kernel_rfl) fun hg R' w' hw hs hd => by have a0 : R' 7 = v0 := hd 0 _ _ _ rfl rfl rfl rfl hg; have ra0 := (f_v0.fr hw).eq a0; exact of_call Try.call85 (M_slices_ContainsFunc_int_int_ok (q2 hg) (hA.fr hw.size) ra0 (fnb1_of [] rfl Try.call86 (fun x r hr' w'' a hF' hA' ha => M_impl_IsFeatureVector_1_ok hr' hA' (rep_int_eq ha))))) <|
      Obls.cons (Obl.grd 3 true _ _ _ rfl rfl rfl rfl rfl (by kernel_rfl) fun hg R' w' hw hs hd => by have a0 : R' 8 = .bool x1 := hd 0 _ _ _ rfl rfl rfl rfl hg; exact of_not a0) <|
      Obls.cons (Obl.plain rfl rfl fun R' w' hw hs hd => by have a0 : R' 6 = .bool ((p0.length : Int) == (6 : Int)) := hd 0 _ _ _ rfl rfl rfl rfl rfl; exact of_pick ((p0.length : Int) == (6 : Int)) a0 (fun hc => by have a1 : R' 9 = .bool (!x1) := hd 1 _ _ _ rfl rfl rfl rfl (g_and rfl (beq_of hc)); show _ = Value.bool x3; rw [q4, hc]; exact a1) (fun hc => by show _ = Value.bool x3; rw [q4, hc]; exact rfl)) <|
      Obls.cons (Obl.plain rfl rfl fun R' w' hw hs hd => by have a0 : R' 10 = .bool x3 := hd 0 _ _ _ rfl rfl rfl rfl rfl; exact of_assign a0) <|
      Obls.nil
  intro R w hw hs hF'
  have h2 : R 2 = .bool x3 := hF' 8 _ _ rfl rfl rfl
  replace hA := hA.fr hw.size
  replace hF := hF.trans hw
  clear hs hF' hw
  refine seqR_nil ?_
  refine HT.ret ?_
  obtain rfl := Option.some.inj hr
  exact ⟨.inr rfl, [R 2], ⟨rfl, trivial⟩, h2, hF⟩
def M_impl_TestHolds (fu : Nat) (p0 : T_impl_Test) (p1 : List Int) : Option Bool :=
  cl true (M_impl_IsFeatureVector fu p1) fun x2 =>
  cl (true && (x2 == true)) (M_impl_isFeature fu p0.1) fun x4 =>
  bd (x2 && x4) fun x6 =>
  ck (!(true && (x6 == true)) || inR p0.1 p1.length) <|
  bd (x6 && ((decide ((gtD p1 p0.1) < p0.2.1)) == p0.2.2)) fun x9 =>
  some x9
set_option maxRecDepth 100000 in
set_option maxHeartbeats 4000000 in
theorem M_impl_TestHolds_ok {fu : Nat} {A0 : Av} {p0 : T_impl_Test} {p1 : List Int} {r : Bool} (hr : M_impl_TestHolds fu p0 p1 = some r) {w : World} {v0 : Value} {v1 : Value} (hA : AvOK A0 w) (h0 : Rep E_impl_Test A0 w v0 p0) (h1 : Rep (eSl (eInt .i64)) A0 w v1 p1) :
    Calls Try.prog 104 #[v0, v1] w fun e w' => ∃ v, e = .returned v ∧ (v = .bool r ∧ Fr w w') := by
  unfold M_impl_TestHolds at hr
  obtain ⟨w0, hw0⟩ : ∃ w0, w0 = w := ⟨_, rfl⟩
  have hF : Fr w0 w := hw0 ▸ Fr.refl _
  have hA0 : ∀ b o, A0 b o → b < w0.heap.size := fun b o h => hw0 ▸ hA b o h
  have hA00 : AvOK A0 w0 := hA0
  rw [show Fr w = Fr w0 from hw0 ▸ rfl]
  clear hw0
  obtain ⟨A, hAe⟩ : ∃ A, A = A0 := ⟨_, rfl⟩
  have hAA : ∀ b o, A0 b o → A b o := fun b o h => hAe ▸ h
  replace hA : AvOK A w := hAe ▸ hA
  have hO : IniOK [] A w := IniOK.nil
  refine calls_of_HT2 [.tmp 4] Try.func104 Try.ntmps104 (by decide) rfl rfl (Nat.le_of_ble_eq_true rfl) ?_
  intro R hR
  have f_v0 : Rep E_impl_Test A w v0 p0 := hAe ▸ h0
  replace h0 : R 0 = v0 := hR 0 _ rfl
  have f_v1 : Rep (eSl (eInt .i64)) A w v1 p1 := hAe ▸ h1
  replace h1 : R 1 = v1 := hR 1 _ rfl
  clear hR hAe
  refine HT.seq ?_
  refine HT.textR [] (⟨_, true, [], some (.box w0.heap.size 82 E_impl_Test p0), true, fun A => .any⟩ :: ⟨_, true, [], none, true, fun A => .raw (.bool false)⟩ :: []) (by kernel_rfl) (by kernel_rfl) (Wf.mk' (by kernel_rfl) (UAll.cons ust_any (UAll.cons ust_raw (UAll.nil))) (by kernel_rfl) (by kernel_rfl)) hO hA ?_ ?_
  · exact
      OblsR.cons (OblR.made _ rfl rfl rfl rfl fun A' R' w' ho hd => by have a0 : R' 0 = v0 := (ho.old 0 rfl).trans h0; have ra0 := (f_v0.stp ho.stp).eq a0; exact made_box ra0 (Nat.le_trans hF.size ho.ch.size)) <|
      OblsR.cons (OblR.plain rfl rfl rfl rfl fun A' R' w' ho hd => by exact of_assign rfl) <|
      OblsR.nil
  intro done ρ σ A R w hdn hI
  replace h1 : R 1 = v1 := (hI.reg rfl).trans h1
  obtain ⟨b2_0, e_b2_0⟩ := hI.boxv hdn 0 rfl rfl
  have h2 : R 2 = (.pointer (some ⟨b2_0, 0, none⟩)) := (hI.opvR hdn 0 0 rfl rfl rfl rfl rfl).symm.trans e_b2_0
  replace f_v1 := f_v1.stp hI.stp
  replace hAA := hI.low' hAA hA0 (hO.ge (trivial))
  replace hF : Fr w0 w := hF.tr hI.ch (hO.ge (trivial))
  replace hO : IniOK [ob (.pointer (some ⟨b2_0, 0, none⟩)) (.box w0.heap.size 82 E_impl_Test p0)] A w := hI.left hdn [(0, ob (.pointer (some ⟨b2_0, 0, none⟩)) (.box w0.heap.size 82 E_impl_Test p0))] ⟨rfl, rfl, e_b2_0, rfl, rfl, trivial⟩
  replace hA := hI.avok
  clear hI
  refine HT.seq ?_
  obtain ⟨x2, q3, hr⟩ := cl_some hr
  obtain ⟨x4, q5, hr⟩ := cl_some hr
  obtain ⟨x6, q7, hr⟩ := bd_some hr
  obtain ⟨e8, hr⟩ := ck_some hr
  obtain ⟨x9, q10, hr⟩ := bd_some hr
  refine HT.draw (by kernel_rfl) (l := ⟨_, true, .raw v1⟩ :: ⟨_, true, .raw (.bool x2)⟩ :: ⟨_, true, .raw (.bool x2)⟩ :: ⟨_, (true && (x2 == true)), .raw (.pointer (some ⟨b2_0, 0, none⟩))⟩ :: ⟨_, (true && (x2 == true)), .raw (.int .i64 p0.1)⟩ :: ⟨_, (true && (x2 == true)), .raw (.bool x4)⟩ :: ⟨_, true, .raw (.bool x6)⟩ :: ⟨_, true, .raw (.bool x6)⟩ :: ⟨_, (true && (x6 == true)), .raw v1⟩ :: ⟨_, (true && (x6 == true)), .raw (.pointer (some ⟨b2_0, 0, none⟩))⟩ :: ⟨_, (true && (x6 == true)), .raw (.int .i64 p0.1)⟩ :: ⟨_, (true && (x6 == true)), .qtr (eInt .i64) A (gtD p1 p0.1)⟩ :: ⟨_, (true && (x6 == true)), .raw (.int .i64 (gtD p1 p0.1))⟩ :: ⟨_, (true && (x6 == true)), .raw (.pointer (some ⟨b2_0, 1, none⟩))⟩ :: ⟨_, (true && (x6 == true)), .raw (.int .i64 p0.2.1)⟩ :: ⟨_, (true && (x6 == true)), .raw (.bool (decide ((gtD p1 p0.1) < p0.2.1)))⟩ :: ⟨_, (true && (x6 == true)), .raw (.pointer (some ⟨b2_0, 2, none⟩))⟩ :: ⟨_, (true && (x6 == true)), .raw (.bool p0.2.2)⟩ :: ⟨_, (true && (x6 == true)), .raw (.bool ((decide ((gtD p1 p0.1) < p0.2.1)) == p0.2.2))⟩ :: ⟨_, true, .raw (.bool x9)⟩ :: ⟨_, true, .raw (.bool x9)⟩ :: []) (tl := []) (by kernel_rfl) (by kernel_rfl) (by kernel_rfl) (by kernel_rfl) ?_ ?_
  · exact
      Obls.cons (Obl.plain rfl rfl fun R' w' hw hs hd => by have a0 : R' 1 = v1 := (hs 1 rfl).trans h1; exact of_move a0) <|
      Obls.cons (Obl.plain rfl rfl fun R' w' hw hs hd => by have a0 : R' 5 = v1 := hd 0 _ _ _ rfl rfl rfl rfl rfl; have ra0 := (f_v1.fr hw).eq a0; exact of_call Try.call53 (M_impl_IsFeatureVector_ok (q3 rfl) (hA.fr hw.size) ra0)) <|
      Obls.cons (Obl.plain rfl rfl fun R' w' hw hs hd => by have a0 : R' 6 = .bool x2 := hd 0 _ _ _ rfl rfl rfl rfl rfl; exact of_move a0) <|
      Obls.cons (Obl.grd 2 true _ _ _ rfl rfl rfl rfl rfl (by kernel_rfl) fun hg R' w' hw hs hd => by have a0 : R' 2 = (.pointer (some ⟨b2_0, 0, none⟩)) := (hs 2 rfl).trans h2; exact of_fieldAddr_raw a0 ff_82_0 Try.sizeOf3 (by decide) rfl) <|
      Obls.cons (Obl.grd 2 true _ _ _ rfl rfl rfl rfl rfl (by kernel_rfl) fun hg R' w' hw hs hd => by have a0 : R' 8 = (.pointer (some ⟨b2_0, 0, none⟩)) := hd 0 _ _ _ rfl rfl rfl rfl hg; exact OpF.int (of_load_box ((hO.fr hw).ok 0 _ rfl).1 a0 fl_impl_Test_0 rfl Try.isAgg3 Try.sizeOf3)) <|
      Obls.cons (Obl.grd 2 true _ _ _ rfl rfl rfl rfl rfl (by kernel_rfl) fun hg R' w' hw hs hd => by have a0 : R' 9 = .int .i64 p0.1 := hd 0 _ _ _ rfl rfl rfl rfl hg; exact of_call Try.call61 (M_impl_isFeature_ok (q5 hg) (hA.fr hw.size) a0)) <|
      Obls.cons (Obl.plain rfl rfl fun R' w' hw hs hd => by have a0 : R' 7 = .bool x2 := hd 0 _ _ _ rfl rfl rfl rfl rfl; exact of_pick x2 a0 (fun hc => by have a1 : R' 10 = .bool x4 := hd 1 _ _ _ rfl rfl rfl rfl (g_and rfl (beq_of hc)); show _ = Value.bool x6; rw [q7, hc]; exact a1) (fun hc => by show _ = Value.bool x6; rw [q7, hc]; exact rfl)) <|
      Obls.cons (Obl.plain rfl rfl fun R' w' hw hs hd => by have a0 : R' 11 = .bool x6 := hd 0 _ _ _ rfl rfl rfl rfl rfl; exact of_move a0) <|
      Obls.cons (Obl.grd 7 true _ _ _ rfl rfl rfl rfl rfl (by kernel_rfl) fun hg R' w' hw hs hd => by have a0 : R' 1 = v1 := (hs 1 rfl).trans h1; exact of_move a0) <|
      Obls.cons (Obl.grd 7 true _ _ _ rfl rfl rfl rfl rfl (by kernel_rfl) fun hg R' w' hw hs hd => by have a0 : R' 2 = (.pointer (some ⟨b2_0, 0, none⟩)) := (hs 2 rfl).trans h2; exact of_fieldAddr_raw a0 ff_82_0 Try.sizeOf3 (by decide) rfl) <|
      Obls.cons (Obl.grd 7 true _ _ _ rfl rfl rfl rfl rfl (by kernel_rfl) fun hg R' w' hw hs hd => by have a0 : R' 14 = (.pointer (some ⟨b2_0, 0, none⟩)) := hd 0 _ _ _ rfl rfl rfl rfl hg; exact OpF.int (of_load_box ((hO.fr hw).ok 0 _ rfl).1 a0 fl_impl_Test_0 rfl Try.isAgg3 Try.sizeOf3)) <|
      Obls.cons (Obl.grd 7 true _ _ _ rfl rfl rfl rfl rfl (by kernel_rfl) fun hg R' w' hw hs hd => by have a0 : R' 13 = v1 := hd 0 _ _ _ rfl rfl rfl rfl hg; have a1 : R' 15 = .int .i64 p0.1 := hd 1 _ _ _ rfl rfl rfl rfl hg; have ra0 := (f_v1.fr hw).eq a0; exact of_indexAddr ra0 a1 Try.underlying33 Try.sizeOf3 (gd e8 hg)) <|
      Obls.cons (Obl.grd 7 true _ _ _ rfl rfl rfl rfl rfl (by kernel_rfl) fun hg R' w' hw hs hd => by have a0 : QRep (eInt .i64) A w' (R' 16) (gtD p1 p0.1) := hd 0 _ _ _ rfl rfl rfl rfl hg; exact OpF.int (of_load a0.ptr Try.isAgg3 Try.sizeOf3)) <|
      Obls.cons (Obl.grd 7 true _ _ _ rfl rfl rfl rfl rfl (by kernel_rfl) fun hg R' w' hw hs hd => by have a0 : R' 2 = (.pointer (some ⟨b2_0, 0, none⟩)) := (hs 2 rfl).trans h2; exact of_fieldAddr_raw a0 ff_82_1 Try.sizeOf3 (by decide) rfl) <|
      Obls.cons (Obl.grd 7 true _ _ _ rfl rfl rfl rfl rfl (by kernel_rfl) fun hg R' w' hw hs hd => by have a0 : R' 18 = (.pointer (some ⟨b2_0, 1, none⟩)) := hd 0 _ _ _ rfl rfl rfl rfl hg; exact OpF.int (of_load_box ((hO.fr hw).ok 0 _ rfl).1 a0 fl_impl_Test_1 rfl Try.isAgg3 Try.sizeOf3)) <|
      Obls.cons (Obl.grd 7 true _ _ _ rfl rfl rfl rfl rfl (by kernel_rfl) fun hg R' w' hw hs hd => by have a0 : R' 17 = .int .i64 (gtD p1 p0.1) := hd 0 _ _ _ rfl rfl rfl rfl hg; have a1 : R' 19 = .int .i64 p0.2.1 := hd 1 _ _ _ rfl rfl rfl rfl hg; exact of_lss a0 a1) <|
      Obls.cons (Obl.grd 7 true _ _ _ rfl rfl rfl rfl rfl (by kernel_rfl) fun hg R' w' hw hs hd => by have a0 : R' 2 = (.pointer (some ⟨b2_0, 0, none⟩)) := (hs 2 rfl).trans h2; exact of_fieldAddr_raw a0 ff_82_2 Try.sizeOf4 (by decide) rfl) <|
      Obls.cons (Obl.grd 7 true _ _ _ rfl rfl rfl rfl rfl (by kernel_rfl) fun hg R' w' hw hs hd => by have a0 : R' 21 = (.pointer (some ⟨b2_0, 2, none⟩)) := hd 0 _ _ _ rfl rfl rfl rfl hg; exact OpF.bool (of_load_box ((hO.fr hw).ok 0 _ rfl).1 a0 fl_impl_Test_2 rfl Try.isAgg4 Try.sizeOf4)) <|
      Obls.cons (Obl.grd 7 true _ _ _ rfl rfl rfl rfl rfl (by kernel_rfl) fun hg R' w' hw hs hd => by have a0 : R' 20 = .bool (decide ((gtD p1 p0.1) < p0.2.1)) := hd 0 _ _ _ rfl rfl rfl rfl hg; have a1 : R' 22 = .bool p0.2.2 := hd 1 _ _ _ rfl rfl rfl rfl hg; exact of_beql Try.underlying4 a0 a1) <|
      Obls.cons (Obl.plain rfl rfl fun R' w' hw hs hd => by have a0 : R' 12 = .bool x6 := hd 0 _ _ _ rfl rfl rfl rfl rfl; exact of_pick x6 a0 (fun hc => by have a1 : R' 23 = .bool ((decide ((gtD p1 p0.1) < p0.2.1)) == p0.2.2) := hd 1 _ _ _ rfl rfl rfl rfl (g_and rfl (beq_of hc)); show _ = Value.bool x9; rw [q10, hc]; exact a1) (fun hc => by show _ = Value.bool x9; rw [q10, hc]; exact rfl)) <|
      Obls.cons (Obl.plain rfl rfl fun R' w' hw hs hd => by have a0 : R' 24 = .bool x9 := hd 0 _ _ _ rfl rfl rfl rfl rfl; exact of_assign a0) <|
      Obls.nil
  intro R w hw hs hF'
  have h4 : R 4 = .bool x9 := hF' 20 _ _ rfl rfl rfl
  replace hO := hO.fr hw
  replace hO : IniOK [] A w := hO.sub [] trivial
  replace hA := hA.fr hw.size
  replace hF := hF.trans hw
  clear hs hF' hw
  refine seqR_nil ?_
  refine HT.ret ?_
  obtain rfl := Option.some.inj hr
  exact ⟨.inr rfl, [R 4], ⟨rfl, trivial⟩, h4, hF⟩
def M_impl_RuleHolds_1 (fu : Nat) (p0 : T_impl_Test) (p1 : List Int) : Option Bool :=
  cl true (M_impl_TestHolds fu p0 p1) fun x2 =>
  some (!x2)
set_option maxRecDepth 100000 in
set_option maxHeartbeats 4000000 in
theorem M_impl_RuleHolds_1_ok {fu : Nat} {A0 : Av} {p0 : T_impl_Test} {p1 : List Int} {r : Bool} (hr : M_impl_RuleHolds_1 fu p0 p1 = some r) {w : World} {v0 : Value} {v1 : Value} (hA : AvOK A0 w) (h0 : Rep E_impl_Test A0 w v0 p0) (h1 : PRep (eSl (eInt .i64)) A0 w v1 p1) :
    Calls Try.prog 103 #[v0, v1] w fun e w' => ∃ v, e = .returned v ∧ (v = .bool r ∧ Fr w w') := by
  unfold M_impl_RuleHolds_1 at hr
  obtain ⟨w0, hw0⟩ : ∃ w0, w0 = w := ⟨_, rfl⟩
  have hF : Fr w0 w := hw0 ▸ Fr.refl _
  have hA0 : ∀ b o, A0 b o → b < w0.heap.size := fun b o h => hw0 ▸ hA b o h
  have hA00 : AvOK A0 w0 := hA0
  rw [show Fr w = Fr w0 from hw0 ▸ rfl]
  have f_v1 : CRep (eSl (eInt .i64)) A0 w w0.heap.size v1 p1 := by subst hw0; exact CRep.mk' h1
  clear hw0
  obtain ⟨A, hAe⟩ : ∃ A, A = A0 := ⟨_, rfl⟩
  have hAA : ∀ b o, A0 b o → A b o := fun b o h => hAe ▸ h
  replace hA : AvOK A w := hAe ▸ hA
  have hO : IniOK [] A w := IniOK.nil
  refine calls_of_HT2 [.tmp 3] Try.func103 Try.ntmps103 (by decide) rfl rfl (Nat.le_of_ble_eq_true rfl) ?_
  intro R hR
  have f_v0 : Rep E_impl_Test A w v0 p0 := hAe ▸ h0
  replace h0 : R 0 = v0 := hR 0 _ rfl
  replace f_v1 : CRep (eSl (eInt .i64)) A w w0.heap.size v1 p1 := hAe ▸ f_v1
  replace h1 : R 1 = v1 := hR 1 _ rfl
  clear hR hAe
  refine HT.seq ?_
  refine HT.textR [] (⟨_, true, [], some (.box w0.heap.size 82 E_impl_Test p0), true, fun A => .any⟩ :: ⟨_, true, [], none, true, fun A => .raw (.bool false)⟩ :: []) (by kernel_rfl) (by kernel_rfl) (Wf.mk' (by kernel_rfl) (UAll.cons ust_any (UAll.cons ust_raw (UAll.nil))) (by kernel_rfl) (by kernel_rfl)) hO hA ?_ ?_
  · exact
      OblsR.cons (OblR.made _ rfl rfl rfl rfl fun A' R' w' ho hd => by have a0 : R' 0 = v0 := (ho.old 0 rfl).trans h0; have ra0 := (f_v0.stp ho.stp).eq a0; exact made_box ra0 (Nat.le_trans hF.size ho.ch.size)) <|
      OblsR.cons (OblR.plain rfl rfl rfl rfl fun A' R' w' ho hd => by exact of_assign rfl) <|
      OblsR.nil
  intro done ρ σ A R w hdn hI
  replace h1 : R 1 = v1 := (hI.reg rfl).trans h1
  obtain ⟨b2_0, e_b2_0⟩ := hI.boxv hdn 0 rfl rfl
  have h2 : R 2 = (.pointer (some ⟨b2_0, 0, none⟩)) := (hI.opvR hdn 0 0 rfl rfl rfl rfl rfl).symm.trans e_b2_0
  replace f_v1 := f_v1.stp hI.stp (hI.ch.below hF.size (hO.ge (trivial)))
  replace hAA := hI.low' hAA hA0 (hO.ge (trivial))
  replace hF : Fr w0 w := hF.tr hI.ch (hO.ge (trivial))
  replace hO : IniOK [ob (.pointer (some ⟨b2_0, 0, none⟩)) (.box w0.heap.size 82 E_impl_Test p0)] A w := hI.left hdn [(0, ob (.pointer (some ⟨b2_0, 0, none⟩)) (.box w0.heap.size 82 E_impl_Test p0))] ⟨rfl, rfl, e_b2_0, rfl, rfl, trivial⟩
  replace hA := hI.avok
  clear hI
  refine HT.seq ?_
  obtain ⟨x2, q3, hr⟩ := cl_some hr
  refine HT.text (l := ⟨_, true, .rep E_impl_Test A p0⟩ :: ⟨_, true, .rep (eSl (eInt .i64)) A p1⟩ :: ⟨_, true, .raw (.bool x2)⟩ :: ⟨_, true, .raw (.bool (!x2))⟩ :: ⟨_, true, .raw (.bool (!x2))⟩ :: []) (tl := []) (by kernel_rfl) (by kernel_rfl) (by kernel_rfl) ?_ ?_
  · exact
      Obls.cons (Obl.plain rfl rfl fun R' w' hw hs hd => by have a0 : R' 2 = (.pointer (some ⟨b2_0, 0, none⟩)) := (hs 2 rfl).trans h2; exact (of_load_box ((hO.fr hw).ok 0 _ rfl).1 a0 (Fld.id _) rfl Try.isAgg82 Try.sizeOf82)) <|
      Obls.cons (Obl.plain rfl rfl fun R' w' hw hs hd => by have a0 : R' 1 = v1 := (hs 1 rfl).trans h1; exact (of_load ((f_v1.fr hw).ptr a0) Try.isAgg33 Try.sizeOf33)) <|
      Obls.cons (Obl.plain rfl rfl fun R' w' hw hs hd => by have a0 : Rep E_impl_Test A w' (R' 4) p0 := hd 0 _ _ _ rfl rfl rfl rfl rfl; have a1 : Rep (eSl (eInt .i64)) A w' (R' 5) p1 := hd 1 _ _ _ rfl rfl rfl rfl rfl; exact of_call Try.call104 (M_impl_TestHolds_ok (q3 rfl) (hA.fr hw.size) a0 a1)) <|
      Obls.cons (Obl.plain rfl rfl fun R' w' hw hs hd => by have a0 : R' 6 = .bool x2 := hd 0 _ _ _ rfl rfl rfl rfl rfl; exact of_not a0) <|
      Obls.cons (Obl.plain rfl rfl fun R' w' hw hs hd => by have a0 : R' 7 = .bool (!x2) := hd 0 _ _ _ rfl rfl rfl rfl rfl; exact of_assign a0) <|
      Obls.nil
  intro R w hw hs hF'
  have h3 : R 3 = .bool (!x2) := hF' 4 _ _ rfl rfl rfl
  replace hO := hO.fr hw
  replace hO : IniOK [] A w := hO.sub [] trivial
  replace hA := hA.fr hw.size
  replace hF := hF.trans hw
  clear hs hF' hw
  refine seqR_nil ?_
  refine HT.ret ?_
  obtain rfl := Option.some.inj hr
  exact ⟨.inr rfl, [R 3], ⟨rfl, trivial⟩, h3, hF⟩
def M_slices_IndexFunc_impl_Test_impl_Test_L0 (fu : Nat) (p0 : List T_impl_Test) (p1 : T_impl_Test → Option Bool) : Nat → Int → Option (Ex Int Unit)
  | 0, _ => none
  | k + 1, y4 =>
    bif (decide (y4 < (p0.length : Int))) then (
      ck (inR y4 p0.length) <|
      cl true (p1 (gtD p0 y4)) fun x7 =>
      bif x7 then (
        some (Ex.ret y4)
      ) else (
        ck (i64B (y4 + (1 : Int))) <|
        M_slices_IndexFunc_impl_Test_impl_Test_L0 fu p0 p1 k (y4 + (1 : Int))
      )
    ) else (
      some (Ex.go ())
    )
def M_slices_IndexFunc_impl_Test_impl_Test (fu : Nat) (p0 : List T_impl_Test) (p1 : T_impl_Test → Option Bool) : Option Int :=
  cl true (M_slices_IndexFunc_impl_Test_impl_Test_L0 fu p0 p1 fu (0 : Int)) fun rl1 =>
  exM rl1 (fun r => some r) fun s3 =>
  some (-1 : Int)
set_option maxRecDepth 100000 in
set_option maxHeartbeats 4000000 in
theorem M_slices_IndexFunc_impl_Test_impl_Test_ok {fu : Nat} {A : Av} {p0 : List T_impl_Test} {p1 : T_impl_Test → Option Bool} {r : Int} (hr : M_slices_IndexFunc_impl_Test_impl_Test fu p0 p1 = some r) {w : World} {v0 : Value} {v1 : Value} (hA : AvOK A w) (h0 : Rep (eSl E_impl_Test) A w v0 p0) (h1 : FnB1 Try.prog E_impl_Test (fun r => .raw (.bool r)) A w v1 p1) :
    Calls Try.prog 128 #[v0, v1] w fun e w' => ∃ v, e = .returned v ∧ (v = .int .i64 r ∧ Fr w w') := by
  unfold M_slices_IndexFunc_impl_Test_impl_Test at hr
  obtain ⟨w0, hw0⟩ : ∃ w0, w0 = w := ⟨_, rfl⟩
  have hF : Fr w0 w := hw0 ▸ Fr.refl _
  rw [show Fr w = Fr w0 from hw0 ▸ rfl]
  have f_v1 : FnB1 Try.prog E_impl_Test (fun r => .raw (.bool r)) A w0 v1 p1 := hw0 ▸ h1
  clear hw0
  refine calls_of_HT2 [.tmp 4] Try.func128 Try.ntmps128 (by decide) rfl rfl (Nat.le_of_ble_eq_true rfl) ?_
  intro R hR
  have f_v0 := h0
  replace h0 : R 0 = v0 := hR 0 _ rfl
  replace h1 : R 1 = v1 := hR 1 _ rfl
  clear hR
  refine HT.seq ?_
  refine HT.text (l := ⟨_, true, .raw (.int .i64 (0 : Int))⟩ :: []) (tl := []) (by kernel_rfl) (by kernel_rfl) (by kernel_rfl) ?_ ?_
  · exact
      Obls.cons (Obl.plain rfl rfl fun R' w' hw hs hd => by exact of_assign rfl) <|
      Obls.nil
  intro R w hw hs hF'
  replace h0 : R 0 = v0 := (hs 0 rfl).trans h0
  replace h1 : R 1 = v1 := (hs 1 rfl).trans h1
  replace f_v0 := f_v0.fr hw
  replace hA := hA.fr hw.size
  replace hF := hF.trans hw
  clear hs hF' hw
  refine seqR_nil ?_
  refine HT.seq ?_
  refine HT.seq ?_
  refine HT.text (l := ⟨_, true, .raw v0⟩ :: ⟨_, true, .raw (.int .i64 (p0.length : Int))⟩ :: ⟨_, true, .raw (.int .i64 (0 : Int))⟩ :: []) (tl := []) (by kernel_rfl) (by kernel_rfl) (by kernel_rfl) ?_ ?_
  · exact
      Obls.cons (Obl.plain rfl rfl fun R' w' hw hs hd => by have a0 : R' 0 = v0 := (hs 0 rfl).trans h0; exact of_move a0) <|
      Obls.cons (Obl.plain rfl rfl fun R' w' hw hs hd => by have a0 : R' 6 = v0 := hd 0 _ _ _ rfl rfl rfl rfl rfl; have ra0 := (f_v0.fr hw).eq a0; exact of_len_sl (aT := #[]) ra0 Try.underlying65) <|
      Obls.cons (Obl.plain rfl rfl fun R' w' hw hs hd => by exact of_move rfl) <|
      Obls.nil
  intro R w hw hs hF'
  replace h0 : R 0 = v0 := (hs 0 rfl).trans h0
  replace h1 : R 1 = v1 := (hs 1 rfl).trans h1
  have h7 : R 7 = .int .i64 (p0.length : Int) := hF' 1 _ _ rfl rfl rfl
  have h8 : R 8 = .int .i64 (0 : Int) := hF' 2 _ _ rfl rfl rfl
  replace f_v0 := f_v0.fr hw
  replace hA := hA.fr hw.size
  replace hF := hF.trans hw
  clear hs hF' hw
  refine seqR_nil ?_
  obtain ⟨rl1, q2, hr⟩ := cl_some hr
  replace q2 := q2 rfl
  refine HT.cut0 (fun R w => ∃ (s3 : Unit), rl1 = Ex.go s3 ∧ AvOK A w ∧ Fr w0 w) ?_ ?_
  · refine HT.block ?_
    refine HT.loop (fun k R w => ∃ (y4 : Int), M_slices_IndexFunc_impl_Test_impl_Test_L0 fu p0 p1 k y4 = some rl1 ∧ AvOK A w ∧ Fr w0 w ∧ R 0 = v0 ∧ R 1 = v1 ∧ R 7 = .int .i64 (p0.length : Int) ∧ R 8 = .int .i64 y4 ∧ Rep (eSl E_impl_Test) A w v0 p0) fu ⟨_, q2, hA, hF, h0, h1, h7, h8, f_v0⟩ ?_
    have hr0 := hr; clear hr q2
    rintro k R w ⟨y4, hr, hA, hF, h0, h1, h7, h8, f_v0⟩
    rcases k with _ | k
    · cases (show none = some _ from hr)
    rw [M_slices_IndexFunc_impl_Test_impl_Test_L0] at hr
    refine HT.seq ?_
    refine HT.text (l := ⟨_, true, .raw (.bool (decide (y4 < (p0.length : Int))))⟩ :: []) (tl := []) (by kernel_rfl) (by kernel_rfl) (by kernel_rfl) ?_ ?_
    · exact
        Obls.cons (Obl.plain rfl rfl fun R' w' hw hs hd => by have a0 : R' 8 = .int .i64 y4 := (hs 8 rfl).trans h8; have a1 : R' 7 = .int .i64 (p0.length : Int) := (hs 7 rfl).trans h7; exact of_lss a0 a1) <|
        Obls.nil
    intro R w hw hs hF'
    replace h0 : R 0 = v0 := (hs 0 rfl).trans h0
    replace h1 : R 1 = v1 := (hs 1 rfl).trans h1
    replace h7 : R 7 = .int .i64 (p0.length : Int) := (hs 7 rfl).trans h7
    replace h8 : R 8 = .int .i64 y4 := (hs 8 rfl).trans h8
    have h9 : R 9 = .bool (decide (y4 < (p0.length : Int))) := hF' 0 _ _ rfl rfl rfl
    replace f_v0 := f_v0.fr hw
    replace hA := hA.fr hw.size
    replace hF := hF.trans hw
    clear hs hF' hw
    refine seqR_nil ?_
    refine HT.seq ?_
    refine HT.cond (decide (y4 < (p0.length : Int))) h9 (fun c5 => ?_) (fun c5 => ?_)
    · have hr := cnd_t c5 hr
      refine HT.skip ?_
      refine HT.seq ?_
      refine HT.block ?_
      refine HT.seq ?_
      refine HT.text (l := ⟨_, true, .raw (.int .i64 y4)⟩ :: ⟨_, true, .raw (.int .i64 y4)⟩ :: []) (tl := []) (by kernel_rfl) (by kernel_rfl) (by kernel_rfl) ?_ ?_
      · exact
          Obls.cons (Obl.plain rfl rfl fun R' w' hw hs hd => by have a0 : R' 8 = .int .i64 y4 := (hs 8 rfl).trans h8; exact of_move a0) <|
          Obls.cons (Obl.plain rfl rfl fun R' w' hw hs hd => by have a0 : R' 10 = .int .i64 y4 := hd 0 _ _ _ rfl rfl rfl rfl rfl; exact of_assign a0) <|
          Obls.nil
      intro R w hw hs hF'
      replace h0 : R 0 = v0 := (hs 0 rfl).trans h0
      replace h1 : R 1 = v1 := (hs 1 rfl).trans h1
      replace h7 : R 7 = .int .i64 (p0.length : Int) := (hs 7 rfl).trans h7
      replace h8 : R 8 = .int .i64 y4 := (hs 8 rfl).trans h8
      have h5 : R 5 = .int .i64 y4 := hF' 1 _ _ rfl rfl rfl
      replace f_v0 := f_v0.fr hw
      replace hA := hA.fr hw.size
      replace hF := hF.trans hw
      clear hs hF' hw
      refine seqR_nil ?_
      refine HT.seq ?_
      obtain ⟨e6, hr⟩ := ck_some hr
      obtain ⟨x7, q8, hr⟩ := cl_some hr
      refine HT.text (l := ⟨_, true, .raw v1⟩ :: ⟨_, true, .raw v0⟩ :: ⟨_, true, .raw (.int .i64 y4)⟩ :: ⟨_, true, .qtr E_impl_Test A (gtD p0 y4)⟩ :: ⟨_, true, .rep E_impl_Test A (gtD p0 y4)⟩ :: ⟨_, true, .raw (.bool x7)⟩ :: []) (tl := []) (by kernel_rfl) (by kernel_rfl) (by kernel_rfl) ?_ ?_
      · exact
          Obls.cons (Obl.plain rfl rfl fun R' w' hw hs hd => by have a0 : R' 1 = v1 := (hs 1 rfl).trans h1; exact of_move a0) <|
          Obls.cons (Obl.plain rfl rfl fun R' w' hw hs hd => by have a0 : R' 0 = v0 := (hs 0 rfl).trans h0; exact of_move a0) <|
          Obls.cons (Obl.plain rfl rfl fun R' w' hw hs hd => by have a0 : R' 5 = .int .i64 y4 := (hs 5 rfl).trans h5; exact of_move a0) <|
          Obls.cons (Obl.plain rfl rfl fun R' w' hw hs hd => by have a0 : R' 12 = v0 := hd 0 _ _ _ rfl rfl rfl rfl rfl; have a1 : R' 13 = .int .i64 y4 := hd 1 _ _ _ rfl rfl rfl rfl rfl; have ra0 := (f_v0.fr hw).eq a0; exact of_indexAddr ra0 a1 Try.underlying65 Try.sizeOf82 e6) <|
          Obls.cons (Obl.plain rfl rfl fun R' w' hw hs hd => by have a0 : QRep E_impl_Test A w' (R' 14) (gtD p0 y4) := hd 0 _ _ _ rfl rfl rfl rfl rfl; exact (of_load a0.ptr Try.isAgg82 Try.sizeOf82)) <|
          Obls.cons (Obl.plain rfl rfl fun R' w' hw hs hd => by have a0 : R' 11 = v1 := hd 0 _ _ _ rfl rfl rfl rfl rfl; have a1 : Rep E_impl_Test A w' (R' 15) (gtD p0 y4) := hd 1 _ _ _ rfl rfl rfl rfl rfl; exact of_callv a0 (f_v1 _ _ (q8 rfl) _ _ ((hF.trans hw).ch _) (hA.fr hw.size) a1)) <|
          Obls.nil
      intro R w hw hs hF'
      replace h0 : R 0 = v0 := (hs 0 rfl).trans h0
      replace h1 : R 1 = v1 := (hs 1 rfl).trans h1
      replace h5 : R 5 = .int .i64 y4 := (hs 5 rfl).trans h5
      replace h7 : R 7 = .int .i64 (p0.length : Int) := (hs 7 rfl).trans h7
      replace h8 : R 8 = .int .i64 y4 := (hs 8 rfl).trans h8
      have h16 : R 16 = .bool x7 := hF' 5 _ _ rfl rfl rfl
      replace f_v0 := f_v0.fr hw
      replace hA := hA.fr hw.size
      replace hF := hF.trans hw
      clear hs hF' hw
      refine seqR_nil ?_
      refine HT.cond x7 h16 (fun c9 => ?_) (fun c9 => ?_)
      · have hr := cnd_t c9 hr
        refine HT.seq ?_
        refine HT.text (l := ⟨_, true, .raw (.int .i64 y4)⟩ :: ⟨_, true, .raw (.int .i64 y4)⟩ :: []) (tl := []) (by kernel_rfl) (by kernel_rfl) (by kernel_rfl) ?_ ?_
        · exact
            Obls.cons (Obl.plain rfl rfl fun R' w' hw hs hd => by have a0 : R' 5 = .int .i64 y4 := (hs 5 rfl).trans h5; exact of_move a0) <|
            Obls.cons (Obl.plain rfl rfl fun R' w' hw hs hd => by have a0 : R' 17 = .int .i64 y4 := hd 0 _ _ _ rfl rfl rfl rfl rfl; exact of_assign a0) <|
            Obls.nil
        intro R w hw hs hF'
        have h4 : R 4 = .int .i64 y4 := hF' 1 _ _ rfl rfl rfl
        replace hA := hA.fr hw.size
        replace hF := hF.trans hw
        clear hs hF' hw
        refine seqR_nil ?_
        refine HT.ret ?_
        obtain rfl := Option.some.inj hr
        have hr := hr0
        replace hr : some _ = some _ := hr
        obtain rfl := Option.some.inj hr
        exact ⟨.inr rfl, [R 4], ⟨rfl, trivial⟩, h4, hF⟩
      · have hr := cnd_f c9 hr
        refine HT.skip ?_
        obtain ⟨e10, hr⟩ := ck_some hr
        refine HT.text (l := ⟨_, true, .raw (.int .i64 (y4 + (1 : Int)))⟩ :: ⟨_, true, .raw (.int .i64 (y4 + (1 : Int)))⟩ :: []) (tl := []) (by kernel_rfl) (by kernel_rfl) (by kernel_rfl) ?_ ?_
        · exact
            Obls.cons (Obl.plain rfl rfl fun R' w' hw hs hd => by have a0 : R' 8 = .int .i64 y4 := (hs 8 rfl).trans h8; exact of_add a0 rfl e10) <|
            Obls.cons (Obl.plain rfl rfl fun R' w' hw hs hd => by have a0 : R' 18 = .int .i64 (y4 + (1 : Int)) := hd 0 _ _ _ rfl rfl rfl rfl rfl; exact of_move a0) <|
            Obls.nil
        intro R w hw hs hF'
        replace h0 : R 0 = v0 := (hs 0 rfl).trans h0
        replace h1 : R 1 = v1 := (hs 1 rfl).trans h1
        replace h7 : R 7 = .int .i64 (p0.length : Int) := (hs 7 rfl).trans h7
        have h8 : R 8 = .int .i64 (y4 + (1 : Int)) := hF' 1 _ _ rfl rfl rfl
        replace f_v0 := f_v0.fr hw
        replace hA := hA.fr hw.size
        replace hF := hF.trans hw
        clear hs hF' hw
        refine seqR_nil ?_
        exact Exists.intro k (And.intro (Nat.lt_succ_self k) ⟨_, hr, hA, hF, h0, h1, h7, h8, f_v0⟩)
    · have hr := cnd_f c5 hr
      refine HT.exit ?_
      obtain rfl := Option.some.inj hr
      exact Exists.intro _ ⟨rfl, hA, hF⟩
  rintro R w ⟨s3, rfl, hA, hF⟩
  have hr := exM_go hr
  refine HT.seq ?_
  refine HT.text (l := ⟨_, true, .raw (.int .i64 (-1 : Int))⟩ :: []) (tl := []) (by kernel_rfl) (by kernel_rfl) (by kernel_rfl) ?_ ?_
  · exact
      Obls.cons (Obl.plain rfl rfl fun R' w' hw hs hd => by exact of_assign rfl) <|
      Obls.nil
  intro R w hw hs hF'
  have h4 : R 4 = .int .i64 (-1 : Int) := hF' 0 _ _ rfl rfl rfl
  replace hA := hA.fr hw.size
  replace hF := hF.trans hw
  clear hs hF' hw
  refine seqR_nil ?_
  refine HT.ret ?_
  obtain rfl := Option.some.inj hr
  exact ⟨.inr rfl, [R 4], ⟨rfl, trivial⟩, h4, hF⟩
def M_slices_ContainsFunc_impl_Test_impl_Test (fu : Nat) (p0 : List T_impl_Test) (p1 : T_impl_Test → Option Bool) : Option Bool :=
  cl true (M_slices_IndexFunc_impl_Test_impl_Test fu p0 p1) fun x1 =>
  some (decide ((0 : Int) ≤ x1))
set_option maxRecDepth 100000 in
set_option maxHeartbeats 4000000 in
theorem M_slices_ContainsFunc_impl_Test_impl_Test_ok {fu : Nat} {A : Av} {p0 : List T_impl_Test} {p1 : T_impl_Test → Option Bool} {r : Bool} (hr : M_slices_ContainsFunc_impl_Test_impl_Test fu p0 p1 = some r) {w : World} {v0 : Value} {v1 : Value} (hA : AvOK A w) (h0 : Rep (eSl E_impl_Test) A w v0 p0) (h1 : FnB1 Try.prog E_impl_Test (fun r => .raw (.bool r)) A w v1 p1) :
    Calls Try.prog 99 #[v0, v1] w fun e w' => ∃ v, e = .returned v ∧ (v = .bool r ∧ Fr w w') := by
  unfold M_slices_ContainsFunc_impl_Test_impl_Test at hr
  obtain ⟨w0, hw0⟩ : ∃ w0, w0 = w := ⟨_, rfl⟩
  have hF : Fr w0 w := hw0 ▸ Fr.refl _
  rw [show Fr w = Fr w0 from hw0 ▸ rfl]
  have f_v1 : FnB1 Try.prog E_impl_Test (fun r => .raw (.bool r)) A w0 v1 p1 := hw0 ▸ h1
  clear hw0
  refine calls_of_HT2 [.tmp 4] Try.func99 Try.ntmps99 (by decide) rfl rfl (Nat.le_of_ble_eq_true rfl) ?_
  intro R hR
  have f_v0 := h0
  replace h0 : R 0 = v0 := hR 0 _ rfl
  replace h1 : R 1 = v1 := hR 1 _ rfl
  clear hR
  refine HT.seq ?_
  refine HT.text (l := ⟨_, true, .raw (.bool false)⟩ :: []) (tl := []) (by kernel_rfl) (by kernel_rfl) (by kernel_rfl) ?_ ?_
  · exact
      Obls.cons (Obl.plain rfl rfl fun R' w' hw hs hd => by exact of_assign rfl) <|
      Obls.nil
  intro R w hw hs hF'
  replace h0 : R 0 = v0 := (hs 0 rfl).trans h0
  replace h1 : R 1 = v1 := (hs 1 rfl).trans h1
  replace f_v0 := f_v0.fr hw
  replace hA := hA.fr hw.size
  replace hF := hF.trans hw
  clear hs hF' hw
  refine seqR_nil ?_
  refine HT.seq ?_
  obtain ⟨x1, q2, hr⟩ := cl_some hr
  refine HT.text (l := ⟨_, true, .raw v0⟩ :: ⟨_, true, .raw v1⟩ :: ⟨_, true, .raw (.int .i64 x1)⟩ :: ⟨_, true, .raw (.bool (decide ((0 : Int) ≤ x1)))⟩ :: ⟨_, true, .raw (.bool (decide ((0 : Int) ≤ x1)))⟩ :: []) (tl := []) (by kernel_rfl) (by kernel_rfl) (by kernel_rfl) ?_ ?_
  · exact
      Obls.cons (Obl.plain rfl rfl fun R' w' hw hs hd => by have a0 : R' 0 = v0 := (hs 0 rfl).trans h0; exact of_move a0) <|
      Obls.cons (Obl.plain rfl rfl fun R' w' hw hs hd => by have a0 : R' 1 = v1 := (hs 1 rfl).trans h1; exact of_move a0) <|
      Obls.cons (Obl.plain rfl rfl fun R' w' hw hs hd => by have a0 : R' 5 = v0 := hd 0 _ _ _ rfl rfl rfl rfl rfl; have ra0 := (f_v0.fr hw).eq a0; have a1 : R' 6 = v1 := hd 1 _ _ _ rfl rfl rfl rfl rfl; exact of_call Try.call128 (M_slices_IndexFunc_impl_Test_impl_Test_ok (q2 rfl) (hA.fr hw.size) ra0 ((f_v1.on (hF.trans hw) (fun _ _ h => h)).eq a1))) <|
      Obls.cons (Obl.plain rfl rfl fun R' w' hw hs hd => by have a0 : R' 7 = .int .i64 x1 := hd 0 _ _ _ rfl rfl rfl rfl rfl; exact of_geq a0 rfl) <|
      Obls.cons (Obl.plain rfl rfl fun R' w' hw hs hd => by have a0 : R' 8 = .bool (decide ((0 : Int) ≤ x1)) := hd 0 _ _ _ rfl rfl rfl rfl rfl; exact of_assign a0) <|
      Obls.nil
  intro R w hw hs hF'
  have h4 : R 4 = .bool (decide ((0 : Int) ≤ x1)) := hF' 4 _ _ rfl rfl rfl
  replace hA := hA.fr hw.size
  replace hF := hF.trans hw
  clear hs hF' hw
  refine seqR_nil ?_
  refine HT.ret ?_
  obtain rfl := Option.some.inj hr
  exact ⟨.inr rfl, [R 4], ⟨rfl, trivial⟩, h4, hF⟩
def M_impl_RuleHolds (fu : Nat) (p0 : T_impl_Rule) (p1 : List Int) : Option Bool :=
  cl true (M_impl_IsFeatureVector fu p1) fun x3 =>
  cl (true && (x3 == true)) (M_slices_ContainsFunc_impl_Test_impl_Test fu p0 (fun x => M_impl_RuleHolds_1 fu x p1)) fun x5 =>
  bd (x3 && (!x5)) fun x7 =>
  some x7
set_option maxRecDepth 100000 in
set_option maxHeartbeats 4000000 in
theorem M_impl_RuleHolds_ok {fu : Nat} {A0 : Av} {p0 : T_impl_Rule} {p1 : List Int} {r : Bool} (hr : M_impl_RuleHolds fu p0 p1 = some r) {w : World} {v0 : Value} {v1 : Value} (hA : AvOK A0 w) (h0 : Rep E_impl_Rule A0 w v0 p0) (h1 : Rep (eSl (eInt .i64)) A0 w v1 p1) :
    Calls Try.prog 84 #[v0, v1] w fun e w' => ∃ v, e = .returned v ∧ (v = .bool r ∧ Fr w w') := by
  unfold M_impl_RuleHolds at hr
  obtain ⟨w0, hw0⟩ : ∃ w0, w0 = w := ⟨_, rfl⟩
  have hF : Fr w0 w := hw0 ▸ Fr.refl _
  have hA0 : ∀ b o, A0 b o → b < w0.heap.size := fun b o h => hw0 ▸ hA b o h
  have hA00 : AvOK A0 w0 := hA0
  rw [show Fr w = Fr w0 from hw0 ▸ rfl]
  clear hw0
  obtain ⟨A, hAe⟩ : ∃ A, A = A0 := ⟨_, rfl⟩
  have hAA : ∀ b o, A0 b o → A b o := fun b o h => hAe ▸ h
  replace hA : AvOK A w := hAe ▸ hA
  have hO : IniOK [] A w := IniOK.nil
  refine calls_of_HT2 [.tmp 4] Try.func84 Try.ntmps84 (by decide) rfl rfl (Nat.le_of_ble_eq_true rfl) ?_
  intro R hR
  have f_v0 : Rep E_impl_Rule A w v0 p0 := hAe ▸ h0
  replace h0 : R 0 = v0 := hR 0 _ rfl
  have f_v1 : Rep (eSl (eInt .i64)) A w v1 p1 := hAe ▸ h1
  replace h1 : R 1 = v1 := hR 1 _ rfl
  clear hR hAe
  refine HT.seq ?_
  refine HT.textR [] (⟨_, true, [], some (.box w0.heap.size 79 E_impl_Rule p0), true, fun A => .any⟩ :: ⟨_, true, [], some (.box w0.heap.size 33 (eSl (eInt .i64)) p1), true, fun A => .any⟩ :: ⟨_, true, [], none, true, fun A => .raw (.bool false)⟩ :: []) (by kernel_rfl) (by kernel_rfl) (Wf.mk' (by kernel_rfl) (UAll.cons ust_any (UAll.cons ust_any (UAll.cons ust_raw (UAll.nil)))) (by kernel_rfl) (by kernel_rfl)) hO hA ?_ ?_
  · exact
      OblsR.cons (OblR.made _ rfl rfl rfl rfl fun A' R' w' ho hd => by have a0 : R' 0 = v0 := (ho.old 0 rfl).trans h0; have ra0 := (f_v0.stp ho.stp).eq a0; exact made_box ra0 (Nat.le_trans hF.size ho.ch.size)) <|
      OblsR.cons (OblR.made _ rfl rfl rfl rfl fun A' R' w' ho hd => by have a0 : R' 1 = v1 := (ho.old 1 rfl).trans h1; have ra0 := (f_v1.stp ho.stp).eq a0; exact made_box ra0 (Nat.le_trans hF.size ho.ch.size)) <|
      OblsR.cons (OblR.plain rfl rfl rfl rfl fun A' R' w' ho hd => by exact of_assign rfl) <|
      OblsR.nil
  intro done ρ σ A R w hdn hI
  obtain ⟨b2_0, e_b2_0⟩ := hI.boxv hdn 0 rfl rfl
  have h2 : R 2 = (.pointer (some ⟨b2_0, 0, none⟩)) := (hI.opvR hdn 0 0 rfl rfl rfl rfl rfl).symm.trans e_b2_0
  obtain ⟨b3_1, e_b3_1⟩ := hI.boxv hdn 1 rfl rfl
  have h3 : R 3 = (.pointer (some ⟨b3_1, 0, none⟩)) := (hI.opvR hdn 1 1 rfl rfl rfl rfl rfl).symm.trans e_b3_1
  replace hAA := hI.low' hAA hA0 (hO.ge (trivial))
  replace hF : Fr w0 w := hF.tr hI.ch (hO.ge (trivial))
  replace hO : IniOK [ob (.pointer (some ⟨b2_0, 0, none⟩)) (.box w0.heap.size 79 E_impl_Rule p0), ob (.pointer (some ⟨b3_1, 0, none⟩)) (.box w0.heap.size 33 (eSl (eInt .i64)) p1)] A w := hI.left hdn [(0, ob (.pointer (some ⟨b2_0, 0, none⟩)) (.box w0.heap.size 79 E_impl_Rule p0)), (1, ob (.pointer (some ⟨b3_1, 0, none⟩)) (.box w0.heap.size 33 (eSl (eInt .i64)) p1))] ⟨rfl, rfl, e_b2_0, rfl, rfl, ⟨rfl, rfl, e_b3_1, rfl, rfl, trivial⟩⟩
  replace hA := hI.avok
  clear hI
  refine HT.seq ?_
  obtain ⟨x3, q4, hr⟩ := cl_some hr
  obtain ⟨x5, q6, hr⟩ := cl_some hr
  obtain ⟨x7, q8, hr⟩ := bd_some hr
  refine HT.text (l := ⟨_, true, .rep (eSl (eInt .i64)) A p1⟩ :: ⟨_, true, .raw (.bool x3)⟩ :: ⟨_, true, .raw (.bool x3)⟩ :: ⟨_, (true && (x3 == true)), .raw (.pointer (some ⟨b2_0, 0, none⟩))⟩ :: ⟨_, (true && (x3 == true)), .rep (eSl E_impl_Test) A p0⟩ :: ⟨_, (true && (x3 == true)), .raw (.func (.func 103) #[] #[(.pointer (some ⟨b3_1, 0, none⟩))])⟩ :: ⟨_, (true && (x3 == true)), .raw (.bool x5)⟩ :: ⟨_, (true && (x3 == true)), .raw (.bool (!x5))⟩ :: ⟨_, true, .raw (.bool x7)⟩ :: ⟨_, true, .raw (.bool x7)⟩ :: []) (tl := []) (by kernel_rfl) (by kernel_rfl) (by kernel_rfl) ?_ ?_
  · exact
      Obls.cons (Obl.plain rfl rfl fun R' w' hw hs hd => by have a0 : R' 3 = (.pointer (some ⟨b3_1, 0, none⟩)) := (hs 3 rfl).trans h3; exact (of_load_box ((hO.fr hw).ok 1 _ rfl).1 a0 (Fld.id _) rfl Try.isAgg33 Try.sizeOf33)) <|
      Obls.cons (Obl.plain rfl rfl fun R' w' hw hs hd => by have a0 : Rep (eSl (eInt .i64)) A w' (R' 5) p1 := hd 0 _ _ _ rfl rfl rfl rfl rfl; exact of_call Try.call53 (M_impl_IsFeatureVector_ok (q4 rfl) (hA.fr hw.size) a0)) <|
      Obls.cons (Obl.plain rfl rfl fun R' w' hw hs hd => by have a0 : R' 6 = .bool x3 := hd 0 _ _ _ rfl rfl rfl rfl rfl; exact of_move a0) <|
      Obls.cons (Obl.grd 2 true _ _ _ rfl rfl rfl rfl rfl (by kernel_rfl) fun hg R' w' hw hs hd => by have a0 : R' 2 = (.pointer (some ⟨b2_0, 0, none⟩)) := (hs 2 rfl).trans h2; exact of_fieldAddr_raw a0 ff_79_0 Try.sizeOf65 (by decide) rfl) <|
      Obls.cons (Obl.grd 2 true _ _ _ rfl rfl rfl rfl rfl (by kernel_rfl) fun hg R' w' hw hs hd => by have a0 : R' 8 = (.pointer (some ⟨b2_0, 0, none⟩)) := hd 0 _ _ _ rfl rfl rfl rfl hg; exact (of_load_box ((hO.fr hw).ok 0 _ rfl).1 a0 fl_impl_Rule_0 rfl Try.isAgg65 Try.sizeOf65)) <|
      Obls.cons (Obl.grd 2 true _ _ _ rfl rfl rfl rfl rfl (by kernel_rfl) fun hg R' w' hw hs hd => by have a0 : R' 3 = (.pointer (some ⟨b3_1, 0, none⟩)) := (hs 3 rfl).trans h3; exact of_makeFunc (c := [(.pointer (some ⟨b3_1, 0, none⟩))]) (by simp only [List.map, evalR]; rw [a0])) <|
      Obls.cons (Obl.grd 2 true _ _ _ rfl rfl rfl rfl rfl (by kernel_rfl) fun hg R' w' hw hs hd => by have a0 : Rep (eSl E_impl_Test) A w' (R' 9) p0 := hd 0 _ _ _ rfl rfl rfl rfl hg; have a1 : R' 10 = (.func (.func 103) #[] #[(.pointer (some ⟨b3_1, 0, none⟩))]) := hd 1 _ _ _ rfl rfl rfl rfl hg; exact of_call Try.call99 (M_slices_ContainsFunc_impl_Test_impl_Test_ok (q6 hg) (hA.fr hw.size) a0 (fnb1_of [(.pointer (some ⟨b3_1, 0, none⟩))] a1 Try.call103 (fun x r hr' w'' a hF' hA' ha => M_impl_RuleHolds_1_ok hr' hA' ha ((box_prep ((hO.fr hw).ok 1 _ rfl).1).fr hF'))))) <|
      Obls.cons (Obl.grd 2 true _ _ _ rfl rfl rfl rfl rfl (by kernel_rfl) fun hg R' w' hw hs hd => by have a0 : R' 11 = .bool x5 := hd 0 _ _ _ rfl rfl rfl rfl hg; exact of_not a0) <|
      Obls.cons (Obl.plain rfl rfl fun R' w' hw hs hd => by have a0 : R' 7 = .bool x3 := hd 0 _ _ _ rfl rfl rfl rfl rfl; exact of_pick x3 a0 (fun hc => by have a1 : R' 12 = .bool (!x5) := hd 1 _ _ _ rfl rfl rfl rfl (g_and rfl (beq_of hc)); show _ = Value.bool x7; rw [q8, hc]; exact a1) (fun hc => by show _ = Value.bool x7; rw [q8, hc]; exact rfl)) <|
      Obls.cons (Obl.plain rfl rfl fun R' w' hw hs hd => by have a0 : R' 13 = .bool x7 := hd 0 _ _ _ rfl rfl rfl rfl rfl; exact of_assign a0) <|
      Obls.nil
  intro R w hw hs hF'
  have h4 : R 4 = .bool x7 := hF' 9 _ _ rfl rfl rfl
  replace hO := hO.fr hw
  replace hO : IniOK [] A w := hO.sub [] trivial
  replace hA := hA.fr hw.size
  replace hF := hF.trans hw
  clear hs hF' hw
  refine seqR_nil ?_
  refine HT.ret ?_
  obtain rfl := Option.some.inj hr
  exact ⟨.inr rfl, [R 4], ⟨rfl, trivial⟩, h4, hF⟩
def M_impl_FirstRule_1 (fu : Nat) (p0 : T_impl_Rule) (p1 : List Int) : Option Bool :=
  cl true (M_impl_RuleHolds fu p0 p1) fun x2 =>
  some x2
set_option maxRecDepth 100000 in
set_option maxHeartbeats 4000000 in
theorem M_impl_FirstRule_1_ok {fu : Nat} {A0 : Av} {p0 : T_impl_Rule} {p1 : List Int} {r : Bool} (hr : M_impl_FirstRule_1 fu p0 p1 = some r) {w : World} {v0 : Value} {v1 : Value} (hA : AvOK A0 w) (h0 : Rep E_impl_Rule A0 w v0 p0) (h1 : PRep (eSl (eInt .i64)) A0 w v1 p1) :
    Calls Try.prog 83 #[v0, v1] w fun e w' => ∃ v, e = .returned v ∧ (v = .bool r ∧ Fr w w') := by
  unfold M_impl_FirstRule_1 at hr
  obtain ⟨w0, hw0⟩ : ∃ w0, w0 = w := ⟨_, rfl⟩
  have hF : Fr w0 w := hw0 ▸ Fr.refl _
  have hA0 : ∀ b o, A0 b o → b < w0.heap.size := fun b o h => hw0 ▸ hA b o h
  have hA00 : AvOK A0 w0 := hA0
  rw [show Fr w = Fr w0 from hw0 ▸ rfl]
  have f_v1 : CRep (eSl (eInt .i64)) A0 w w0.heap.size v1 p1 := by subst hw0; exact CRep.mk' h1
  clear hw0
  obtain ⟨A, hAe⟩ : ∃ A, A = A0 := ⟨_, rfl⟩
  have hAA : ∀ b o, A0 b o → A b o := fun b o h => hAe ▸ h
  replace hA : AvOK A w := hAe ▸ hA
  have hO : IniOK [] A w := IniOK.nil
  refine calls_of_HT2 [.tmp 3] Try.func83 Try.ntmps83 (by decide) rfl rfl (Nat.le_of_ble_eq_true rfl) ?_
  intro R hR
  have f_v0 : Rep E_impl_Rule A w v0 p0 := hAe ▸ h0
  replace h0 : R 0 = v0 := hR 0 _ rfl
  replace f_v1 : CRep (eSl (eInt .i64)) A w w0.heap.size v1 p1 := hAe ▸ f_v1
  replace h1 : R 1 = v1 := hR 1 _ rfl
  clear hR hAe
  refine HT.seq ?_
  refine HT.textR [] (⟨_, true, [], some (.box w0.heap.size 79 E_impl_Rule p0), true, fun A => .any⟩ :: ⟨_, true, [], none, true, fun A => .raw (.bool false)⟩ :: []) (by kernel_rfl) (by kernel_rfl) (Wf.mk' (by kernel_rfl) (UAll.cons ust_any (UAll.cons ust_raw (UAll.nil))) (by kernel_rfl) (by kernel_rfl)) hO hA ?_ ?_
  · exact
      OblsR.cons (OblR.made _ rfl rfl rfl rfl fun A' R' w' ho hd => by have a0 : R' 0 = v0 := (ho.old 0 rfl).trans h0; have ra0 := (f_v0.stp ho.stp).eq a0; exact made_box ra0 (Nat.le_trans hF.size ho.ch.size)) <|
      OblsR.cons (OblR.plain rfl rfl rfl rfl fun A' R' w' ho hd => by exact of_assign rfl) <|
      OblsR.nil
  intro done ρ σ A R w hdn hI
  replace h1 : R 1 = v1 := (hI.reg rfl).trans h1
  obtain ⟨b2_0, e_b2_0⟩ := hI.boxv hdn 0 rfl rfl
  have h2 : R 2 = (.pointer (some ⟨b2_0, 0, none⟩)) := (hI.opvR hdn 0 0 rfl rfl rfl rfl rfl).symm.trans e_b2_0
  replace f_v1 := f_v1.stp hI.stp (hI.ch.below hF.size (hO.ge (trivial)))
  replace hAA := hI.low' hAA hA0 (hO.ge (trivial))
  replace hF : Fr w0 w := hF.tr hI.ch (hO.ge (trivial))
  replace hO : IniOK [ob (.pointer (some ⟨b2_0, 0, none⟩)) (.box w0.heap.size 79 E_impl_Rule p0)] A w := hI.left hdn [(0, ob (.pointer (some ⟨b2_0, 0, none⟩)) (.box w0.heap.size 79 E_impl_Rule p0))] ⟨rfl, rfl, e_b2_0, rfl, rfl, trivial⟩
  replace hA := hI.avok
  clear hI
  refine HT.seq ?_
  obtain ⟨x2, q3, hr⟩ := cl_some hr
  refine HT.text (l := ⟨_, true, .rep E_impl_Rule A p0⟩ :: ⟨_, true, .rep (eSl (eInt .i64)) A p1⟩ :: ⟨_, true, .raw (.bool x2)⟩ :: ⟨_, true, .raw (.bool x2)⟩ :: []) (tl := []) (by kernel_rfl) (by kernel_rfl) (by kernel_rfl) ?_ ?_
  · exact
      Obls.cons (Obl.plain rfl rfl fun R' w' hw hs hd => by have a0 : R' 2 = (.pointer (some ⟨b2_0, 0, none⟩)) := (hs 2 rfl).trans h2; exact (of_load_box ((hO.fr hw).ok 0 _ rfl).1 a0 (Fld.id _) rfl Try.isAgg79 Try.sizeOf79)) <|
      Obls.cons (Obl.plain rfl rfl fun R' w' hw hs hd => by have a0 : R' 1 = v1 := (hs 1 rfl).trans h1; exact (of_load ((f_v1.fr hw).ptr a0) Try.isAgg33 Try.sizeOf33)) <|
      Obls.cons (Obl.plain rfl rfl fun R' w' hw hs hd => by have a0 : Rep E_impl_Rule A w' (R' 4) p0 := hd 0 _ _ _ rfl rfl rfl rfl rfl; have a1 : Rep (eSl (eInt .i64)) A w' (R' 5) p1 := hd 1 _ _ _ rfl rfl rfl rfl rfl; exact of_call Try.call84 (M_impl_RuleHolds_ok (q3 rfl) (hA.fr hw.size) a0 a1)) <|
      Obls.cons (Obl.plain rfl rfl fun R' w' hw hs hd => by have a0 : R' 6 = .bool x2 := hd 0 _ _ _ rfl rfl rfl rfl rfl; exact of_assign a0) <|
      Obls.nil
  intro R w hw hs hF'
  have h3 : R 3 = .bool x2 := hF' 3 _ _ rfl rfl rfl
  replace hO := hO.fr hw
  replace hO : IniOK [] A w := hO.sub [] trivial
  replace hA := hA.fr hw.size
  replace hF := hF.trans hw
  clear hs hF' hw
  refine seqR_nil ?_
  refine HT.ret ?_
  obtain rfl := Option.some.inj hr
  exact ⟨.inr rfl, [R 3], ⟨rfl, trivial⟩, h3, hF⟩
def M_slices_IndexFunc_impl_Rule_impl_Rule_L0 (fu : Nat) (p0 : List T_impl_Rule) (p1 : T_impl_Rule → Option Bool) : Nat → Int → Option (Ex Int Unit)
  | 0, _ => none
  | k + 1, y4 =>
    bif (decide (y4 < (p0.length : Int))) then (
      ck (inR y4 p0.length) <|
      cl true (p1 (gtD p0 y4)) fun x7 =>
      bif x7 then (
        some (Ex.ret y4)
      ) else (
        ck (i64B (y4 + (1 : Int))) <|
        M_slices_IndexFunc_impl_Rule_impl_Rule_L0 fu p0 p1 k (y4 + (1 : Int))
      )
    ) else (
      some (Ex.go ())
    )
def M_slices_IndexFunc_impl_Rule_impl_Rule (fu : Nat) (p0 : List T_impl_Rule) (p1 : T_impl_Rule → Option Bool) : Option Int :=
  cl true (M_slices_IndexFunc_impl_Rule_impl_Rule_L0 fu p0 p1 fu (0 : Int)) fun rl1 =>
  exM rl1 (fun r => some r) fun s3 =>
  some (-1 : Int)
set_option maxRecDepth 100000 in
set_option maxHeartbeats 4000000 in
theorem M_slices_IndexFunc_impl_Rule_impl_Rule_ok {fu : Nat} {A : Av} {p0 : List T_impl_Rule} {p1 : T_impl_Rule → Option Bool} {r : Int} (hr : M_slices_IndexFunc_impl_Rule_impl_Rule fu p0 p1 = some r) {w : World} {v0 : Value} {v1 : Value} (hA : AvOK A w) (h0 : Rep (eSl E_impl_Rule) A w v0 p0) (h1 : FnB1 Try.prog E_impl_Rule (fun r => .raw (.bool r)) A w v1 p1) :
    Calls Try.prog 82 #[v0, v1] w fun e w' => ∃ v, e = .returned v ∧ (v = .int .i64 r ∧ Fr w w') := by
  unfold M_slices_IndexFunc_impl_Rule_impl_Rule at hr
  obtain ⟨w0, hw0⟩ : ∃ w0, w0 = w := ⟨_, rfl⟩
  have hF : Fr w0 w := hw0 ▸ Fr.refl _
  rw [show Fr w = Fr w0 from hw0 ▸ rfl]
  have f_v1 : FnB1 Try.prog E_impl_Rule (fun r => .raw (.bool r)) A w0 v1 p1 := hw0 ▸ h1
  clear hw0
  refine calls_of_HT2 [.tmp 4] Try.func82 Try.ntmps82 (by decide) rfl rfl (Nat.le_of_ble_eq_true rfl) ?_
  intro R hR
  have f_v0 := h0
  replace h0 : R 0 = v0 := hR 0 _ rfl
  replace h1 : R 1 = v1 := hR 1 _ rfl
  clear hR
  refine HT.seq ?_
  refine HT.text (l := ⟨_, true, .raw (.int .i64 (0 : Int))⟩ :: []) (tl := []) (by kernel_rfl) (by kernel_rfl) (by kernel_rfl) ?_ ?_
  · exact
      Obls.cons (Obl.plain rfl rfl fun R' w' hw hs hd => by exact of_assign rfl) <|
      Obls.nil
  intro R w hw hs hF'
  replace h0 : R 0 = v0 := (hs 0 rfl).trans h0
  replace h1 : R 1 = v1 := (hs 1 rfl).trans h1
  replace f_v0 := f_v0.fr hw
  replace hA := hA.fr hw.size
  replace hF := hF.trans hw
  clear hs hF' hw
  refine seqR_nil ?_
  refine HT.seq ?_
  refine HT.seq ?_
  refine HT.text (l := ⟨_, true, .raw v0⟩ :: ⟨_, true, .raw (.int .i64 (p0.length : Int))⟩ :: ⟨_, true, .raw (.int .i64 (0 : Int))⟩ :: []) (tl := []) (by kernel_rfl) (by kernel_rfl) (by kernel_rfl) ?_ ?_
  · exact
      Obls.cons (Obl.plain rfl rfl fun R' w' hw hs hd => by have a0 : R' 0 = v0 := (hs 0 rfl).trans h0; exact of_move a0) <|
      Obls.cons (Obl.plain rfl rfl fun R' w' hw hs hd => by have a0 : R' 6 = v0 := hd 0 _ _ _ rfl rfl rfl rfl rfl; have ra0 := (f_v0.fr hw).eq a0; exact of_len_sl (aT := #[]) ra0 Try.underlying27) <|
      Obls.cons (Obl.plain rfl rfl fun R' w' hw hs hd => by exact of_move rfl) <|
      Obls.nil
  intro R w hw hs hF'
  replace h0 : R 0 = v0 := (hs 0 rfl).trans h0
  replace h1 : R 1 = v1 := (hs 1 rfl).trans h1
  have h7 : R 7 = .int .i64 (p0.length : Int) := hF' 1 _ _ rfl rfl rfl
  have h8 : R 8 = .int .i64 (0 : Int) := hF' 2 _ _ rfl rfl rfl
  replace f_v0 := f_v0.fr hw
  replace hA := hA.fr hw.size
  replace hF := hF.trans hw
  clear hs hF' hw
  refine seqR_nil ?_
  obtain ⟨rl1, q2, hr⟩ := cl_some hr
  replace q2 := q2 rfl
  refine HT.cut0 (fun R w => ∃ (s3 : Unit), rl1 = Ex.go s3 ∧ AvOK A w ∧ Fr w0 w) ?_ ?_
  · refine HT.block ?_
    refine HT.loop (fun k R w => ∃ (y4 : Int), M_slices_IndexFunc_impl_Rule_impl_Rule_L0 fu p0 p1 k y4 = some rl1 ∧ AvOK A w ∧ Fr w0 w ∧ R 0 = v0 ∧ R 1 = v1 ∧ R 7 = .int .i64 (p0.length : Int) ∧ R 8 = .int .i64 y4 ∧ Rep (eSl E_impl_Rule) A w v0 p0) fu ⟨_, q2, hA, hF, h0, h1, h7, h8, f_v0⟩ ?_
    have hr0 := hr; clear hr q2
    rintro k R w ⟨y4, hr, hA, hF, h0, h1, h7, h8, f_v0⟩
    rcases k with _ | k
    · cases (show none = some _ from hr)
    rw [M_slices_IndexFunc_impl_Rule_impl_Rule_L0] at hr
    refine HT.seq ?_
    refine HT.text (l := ⟨_, true, .raw (.bool (decide (y4 < (p0.length : Int))))⟩ :: []) (tl := []) (by kernel_rfl) (by kernel_rfl) (by kernel_rfl) ?_ ?_
    · exact
        Obls.cons (Obl.plain rfl rfl fun R' w' hw hs hd => by have a0 : R' 8 = .int .i64 y4 := (hs 8 rfl).trans h8; have a1 : R' 7 = .int .i64 (p0.length : Int) := (hs 7 rfl).trans h7; exact of_lss a0 a1) <|
        Obls.nil
    intro R w hw hs hF'
    replace h0 : R 0 = v0 := (hs 0 rfl).trans h0
    replace h1 : R 1 = v1 := (hs 1 rfl).trans h1
    replace h7 : R 7 = .int .i64 (p0.length : Int) := (hs 7 rfl).trans h7
    replace h8 : R 8 = .int .i64 y4 := (hs 8 rfl).trans h8
    have h9 : R 9 = .bool (decide (y4 < (p0.length : Int))) := hF' 0 _ _ rfl rfl rfl
    replace f_v0 := f_v0.fr hw
    replace hA := hA.fr hw.size
    replace hF := hF.trans hw
    clear hs hF' hw
    refine seqR_nil ?_
    refine HT.seq ?_
    refine HT.cond (decide (y4 < (p0.length : Int))) h9 (fun c5 => ?_) (fun c5 => ?_)
    · have hr := cnd_t c5 hr
      refine HT.skip ?_
      refine HT.seq ?_
      refine HT.block ?_
      refine HT.seq ?_
      refine HT.text (l := ⟨_, true, .raw (.int .i64 y4)⟩ :: ⟨_, true, .raw (.int .i64 y4)⟩ :: []) (tl := []) (by kernel_rfl) (by kernel_rfl) (by kernel_rfl) ?_ ?_
      · exact
          Obls.cons (Obl.plain rfl rfl fun R' w' hw hs hd => by have a0 : R' 8 = .int .i64 y4 := (hs 8 rfl).trans h8; exact of_move a0) <|
          Obls.cons (Obl.plain rfl rfl fun R' w' hw hs hd => by have a0 : R' 10 = .int .i64 y4 := hd 0 _ _ _ rfl rfl rfl rfl rfl; exact of_assign a0) <|
          Obls.nil
      intro R w hw hs hF'
      replace h0 : R 0 = v0 := (hs 0 rfl).trans h0
      replace h1 : R 1 = v1 := (hs 1 rfl).trans h1
      replace h7 : R 7 = .int .i64 (p0.length : Int) := (hs 7 rfl).trans h7
      replace h8 : R 8 = .int .i64 y4 := (hs 8 rfl).trans h8
      have h5 : R 5 = .int .i64 y4 := hF' 1 _ _ rfl rfl rfl
      replace f_v0 := f_v0.fr hw
      replace hA := hA.fr hw.size
      replace hF := hF.trans hw
      clear hs hF' hw
      refine seqR_nil ?_
      refine HT.seq ?_
      obtain ⟨e6, hr⟩ := ck_some hr
      obtain ⟨x7, q8, hr⟩ := cl_some hr
      refine HT.text (l := ⟨_, true, .raw v1⟩ :: ⟨_, true, .raw v0⟩ :: ⟨_, true, .raw (.int .i64 y4)⟩ :: ⟨_, true, .qtr E_impl_Rule A (gtD p0 y4)⟩ :: ⟨_, true, .rep E_impl_Rule A (gtD p0 y4)⟩ :: ⟨_, true, .raw (.bool x7)⟩ :: []) (tl := []) (by kernel_rfl) (by kernel_rfl) (by kernel_rfl) ?_ ?_
      · exact
          Obls.cons (Obl.plain rfl rfl fun R' w' hw hs hd => by have a0 : R' 1 = v1 := (hs 1 rfl).trans h1; exact of_move a0) <|
          Obls.cons (Obl.plain rfl rfl fun R' w' hw hs hd => by have a0 : R' 0 = v0 := (hs 0 rfl).trans h0; exact of_move a0) <|
          Obls.cons (Obl.plain rfl rfl fun R' w' hw hs hd => by have a0 : R' 5 = .int .i64 y4 := (hs 5 rfl).trans h5; exact of_move a0) <|
          Obls.cons (Obl.plain rfl rfl fun R' w' hw hs hd => by have a0 : R' 12 = v0 := hd 0 _ _ _ rfl rfl rfl rfl rfl; have a1 : R' 13 = .int .i64 y4 := hd 1 _ _ _ rfl rfl rfl rfl rfl; have ra0 := (f_v0.fr hw).eq a0; exact of_indexAddr ra0 a1 Try.underlying27 Try.sizeOf79 e6) <|
          Obls.cons (Obl.plain rfl rfl fun R' w' hw hs hd => by have a0 : QRep E_impl_Rule A w' (R' 14) (gtD p0 y4) := hd 0 _ _ _ rfl rfl rfl rfl rfl; exact (of_load a0.ptr Try.isAgg79 Try.sizeOf79)) <|
          Obls.cons (Obl.plain rfl rfl fun R' w' hw hs hd => by have a0 : R' 11 = v1 := hd 0 _ _ _ rfl rfl rfl rfl rfl; have a1 : Rep E_impl_Rule A w' (R' 15) (gtD p0 y4) := hd 1 _ _ _ rfl rfl rfl rfl rfl; exact of_callv a0 (f_v1 _ _ (q8 rfl) _ _ ((hF.trans hw).ch _) (hA.fr hw.size) a1)) <|
          Obls.nil
      intro R w hw hs hF'
      replace h0 : R 0 = v0 := (hs 0 rfl).trans h0
      replace h1 : R 1 = v1 := (hs 1 rfl).trans h1
      replace h5 : R 5 = .int .i64 y4 := (hs 5 rfl).trans h5
      replace h7 : R 7 = .int .i64 (p0.length : Int) := (hs 7 rfl).trans h7
      replace h8 : R 8 = .int .i64 y4 := (hs 8 rfl).trans h8
      have h16 : R 16 = .bool x7 := hF' 5 _ _ rfl rfl rfl
      replace f_v0 := f_v0.fr hw
      replace hA := hA.fr hw.size
      replace hF := hF.trans hw
      clear hs hF' hw
      refine seqR_nil ?_
      refine HT.cond x7 h16 (fun c9 => ?_) (fun c9 => ?_)
      · have hr := cnd_t c9 hr
        refine HT.seq ?_
        refine HT.text (l := ⟨_, true, .raw (.int .i64 y4)⟩ :: ⟨_, true, .raw (.int .i64 y4)⟩ :: []) (tl := []) (by kernel_rfl) (by kernel_rfl) (by kernel_rfl) ?_ ?_
        · exact
            Obls.cons (Obl.plain rfl rfl fun R' w' hw hs hd => by have a0 : R' 5 = .int .i64 y4 := (hs 5 rfl).trans h5; exact of_move a0) <|
            Obls.cons (Obl.plain rfl rfl fun R' w' hw hs hd => by have a0 : R' 17 = .int .i64 y4 := hd 0 _ _ _ rfl rfl rfl rfl rfl; exact of_assign a0) <|
            Obls.nil
        intro R w hw hs hF'
        have h4 : R 4 = .int .i64 y4 := hF' 1 _ _ rfl rfl rfl
        replace hA := hA.fr hw.size
        replace hF := hF.trans hw
        clear hs hF' hw
        refine seqR_nil ?_
        refine HT.ret ?_
        obtain rfl := Option.some.inj hr
        have hr := hr0
        replace hr : some _ = some _ := hr
        obtain rfl := Option.some.inj hr
        exact ⟨.inr rfl, [R 4], ⟨rfl, trivial⟩, h4, hF⟩
      · have hr := cnd_f c9 hr
        refine HT.skip ?_
        obtain ⟨e10, hr⟩ := ck_some hr
        refine HT.text (l := ⟨_, true, .raw (.int .i64 (y4 + (1 : Int)))⟩ :: ⟨_, true, .raw (.int .i64 (y4 + (1 : Int)))⟩ :: []) (tl := []) (by kernel_rfl) (by kernel_rfl) (by kernel_rfl) ?_ ?_
        · exact
            Obls.cons (Obl.plain rfl rfl fun R' w' hw hs hd => by have a0 : R' 8 = .int .i64 y4 := (hs 8 rfl).trans h8; exact of_add a0 rfl e10) <|
            Obls.cons (Obl.plain rfl rfl fun R' w' hw hs hd => by have a0 : R' 18 = .int .i64 (y4 + (1 : Int)) := hd 0 _ _ _ rfl rfl rfl rfl rfl; exact of_move a0) <|
            Obls.nil
        intro R w hw hs hF'
        replace h0 : R 0 = v0 := (hs 0 rfl).trans h0
        replace h1 : R 1 = v1 := (hs 1 rfl).trans h1
        replace h7 : R 7 = .int .i64 (p0.length : Int) := (hs 7 rfl).trans h7
        have h8 : R 8 = .int .i64 (y4 + (1 : Int)) := hF' 1 _ _ rfl rfl rfl
        replace f_v0 := f_v0.fr hw
        replace hA := hA.fr hw.size
        replace hF := hF.trans hw
        clear hs hF' hw
        refine seqR_nil ?_
        exact Exists.intro k (And.intro (Nat.lt_succ_self k) ⟨_, hr, hA, hF, h0, h1, h7, h8, f_v0⟩)
    · have hr := cnd_f c5 hr
      refine HT.exit ?_
      obtain rfl := Option.some.inj hr
      exact Exists.intro _ ⟨rfl, hA, hF⟩
  rintro R w ⟨s3, rfl, hA, hF⟩
  have hr := exM_go hr
  refine HT.seq ?_
  refine HT.text (l := ⟨_, true, .raw (.int .i64 (-1 : Int))⟩ :: []) (tl := []) (by kernel_rfl) (by kernel_rfl) (by kernel_rfl) ?_ ?_
  · exact
      Obls.cons (Obl.plain rfl rfl fun R' w' hw hs hd => by exact of_assign rfl) <|
      Obls.nil
  intro R w hw hs hF'
  have h4 : R 4 = .int .i64 (-1 : Int) := hF' 0 _ _ rfl rfl rfl
  replace hA := hA.fr hw.size
  replace hF := hF.trans hw
  clear hs hF' hw
  refine seqR_nil ?_
  refine HT.ret ?_
  obtain rfl := Option.some.inj hr
  exact ⟨.inr rfl, [R 4], ⟨rfl, trivial⟩, h4, hF⟩
def M_impl_FirstRule (fu : Nat) (p0 : T_impl_RuleSet) (p1 : List Int) : Option Int :=
  cl true (M_impl_IsValidRules fu p0) fun x3 =>
  bif (!x3) then (
    some (-1 : Int)
  ) else (
    cl true (M_slices_IndexFunc_impl_Rule_impl_Rule fu p0 (fun x => M_impl_FirstRule_1 fu x p1)) fun x6 =>
    some x6
  )
set_option maxRecDepth 100000 in
set_option maxHeartbeats 4000000 in
theorem M_impl_FirstRule_ok {fu : Nat} {A0 : Av} {p0 : T_impl_RuleSet} {p1 : List Int} {r : Int} (hr : M_impl_FirstRule fu p0 p1 = some r) {w : World} {v0 : Value} {v1 : Value} (hA : AvOK A0 w) (h0 : Rep E_impl_RuleSet A0 w v0 p0) (h1 : Rep (eSl (eInt .i64)) A0 w v1 p1) :
    Calls Try.prog 52 #[v0, v1] w fun e w' => ∃ v, e = .returned v ∧ (v = .int .i64 r ∧ Fr w w') := by
  unfold M_impl_FirstRule at hr
  obtain ⟨w0, hw0⟩ : ∃ w0, w0 = w := ⟨_, rfl⟩
  have hF : Fr w0 w := hw0 ▸ Fr.refl _
  have hA0 : ∀ b o, A0 b o → b < w0.heap.size := fun b o h => hw0 ▸ hA b o h
  have hA00 : AvOK A0 w0 := hA0
  rw [show Fr w = Fr w0 from hw0 ▸ rfl]
  clear hw0
  obtain ⟨A, hAe⟩ : ∃ A, A = A0 := ⟨_, rfl⟩
  have hAA : ∀ b o, A0 b o → A b o := fun b o h => hAe ▸ h
  replace hA : AvOK A w := hAe ▸ hA
  have hO : IniOK [] A w := IniOK.nil
  refine calls_of_HT2 [.tmp 4] Try.func52 Try.ntmps52 (by decide) rfl rfl (Nat.le_of_ble_eq_true rfl) ?_
  intro R hR
  have f_v0 : Rep E_impl_RuleSet A w v0 p0 := hAe ▸ h0
  replace h0 : R 0 = v0 := hR 0 _ rfl
  have f_v1 : Rep (eSl (eInt .i64)) A w v1 p1 := hAe ▸ h1
  replace h1 : R 1 = v1 := hR 1 _ rfl
  clear hR hAe
  refine HT.seq ?_
  refine HT.textR [] (⟨_, true, [], some (.box w0.heap.size 29 E_impl_RuleSet p0), true, fun A => .any⟩ :: ⟨_, true, [], some (.box w0.heap.size 33 (eSl (eInt .i64)) p1), true, fun A => .any⟩ :: ⟨_, true, [], none, true, fun A => .raw (.int .i64 (0 : Int))⟩ :: []) (by kernel_rfl) (by kernel_rfl) (Wf.mk' (by kernel_rfl) (UAll.cons ust_any (UAll.cons ust_any (UAll.cons ust_raw (UAll.nil)))) (by kernel_rfl) (by kernel_rfl)) hO hA ?_ ?_
  · exact
      OblsR.cons (OblR.made _ rfl rfl rfl rfl fun A' R' w' ho hd => by have a0 : R' 0 = v0 := (ho.old 0 rfl).trans h0; have ra0 := (f_v0.stp ho.stp).eq a0; exact made_box ra0 (Nat.le_trans hF.size ho.ch.size)) <|
      OblsR.cons (OblR.made _ rfl rfl rfl rfl fun A' R' w' ho hd => by have a0 : R' 1 = v1 := (ho.old 1 rfl).trans h1; have ra0 := (f_v1.stp ho.stp).eq a0; exact made_box ra0 (Nat.le_trans hF.size ho.ch.size)) <|
      OblsR.cons (OblR.plain rfl rfl rfl rfl fun A' R' w' ho hd => by exact of_assign rfl) <|
      OblsR.nil
  intro done ρ σ A R w hdn hI
  obtain ⟨b2_0, e_b2_0⟩ := hI.boxv hdn 0 rfl rfl
  have h2 : R 2 = (.pointer (some ⟨b2_0, 0, none⟩)) := (hI.opvR hdn 0 0 rfl rfl rfl rfl rfl).symm.trans e_b2_0
  obtain ⟨b3_1, e_b3_1⟩ := hI.boxv hdn 1 rfl rfl
  have h3 : R 3 = (.pointer (some ⟨b3_1, 0, none⟩)) := (hI.opvR hdn 1 1 rfl rfl rfl rfl rfl).symm.trans e_b3_1
  replace hAA := hI.low' hAA hA0 (hO.ge (trivial))
  replace hF : Fr w0 w := hF.tr hI.ch (hO.ge (trivial))
  replace hO : IniOK [ob (.pointer (some ⟨b2_0, 0, none⟩)) (.box w0.heap.size 29 E_impl_RuleSet p0), ob (.pointer (some ⟨b3_1, 0, none⟩)) (.box w0.heap.size 33 (eSl (eInt .i64)) p1)] A w := hI.left hdn [(0, ob (.pointer (some ⟨b2_0, 0, none⟩)) (.box w0.heap.size 29 E_impl_RuleSet p0)), (1, ob (.pointer (some ⟨b3_1, 0, none⟩)) (.box w0.heap.size 33 (eSl (eInt .i64)) p1))] ⟨rfl, rfl, e_b2_0, rfl, rfl, ⟨rfl, rfl, e_b3_1, rfl, rfl, trivial⟩⟩
  replace hA := hI.avok
  clear hI
  refine HT.seq ?_
  refine HT.seq ?_
  obtain ⟨x3, q4, hr⟩ := cl_some hr
  refine HT.text (l := ⟨_, true, .rep E_impl_RuleSet A p0⟩ :: ⟨_, true, .raw (.bool x3)⟩ :: ⟨_, true, .raw (.bool (!x3))⟩ :: []) (tl := []) (by kernel_rfl) (by kernel_rfl) (by kernel_rfl) ?_ ?_
  · exact
      Obls.cons (Obl.plain rfl rfl fun R' w' hw hs hd => by have a0 : R' 2 = (.pointer (some ⟨b2_0, 0, none⟩)) := (hs 2 rfl).trans h2; exact (of_load_box ((hO.fr hw).ok 0 _ rfl).1 a0 (Fld.id _) rfl Try.isAgg29 Try.sizeOf29)) <|
      Obls.cons (Obl.plain rfl rfl fun R' w' hw hs hd => by have a0 : Rep E_impl_RuleSet A w' (R' 5) p0 := hd 0 _ _ _ rfl rfl rfl rfl rfl; exact of_call Try.call34 (M_impl_IsValidRules_ok (q4 rfl) (hA.fr hw.size) a0)) <|
      Obls.cons (Obl.plain rfl rfl fun R' w' hw hs hd => by have a0 : R' 6 = .bool x3 := hd 0 _ _ _ rfl rfl rfl rfl rfl; exact of_not a0) <|
      Obls.nil
  intro R w hw hs hF'
  replace h2 : R 2 = (.pointer (some ⟨b2_0, 0, none⟩)) := (hs 2 rfl).trans h2
  replace h3 : R 3 = (.pointer (some ⟨b3_1, 0, none⟩)) := (hs 3 rfl).trans h3
  have h7 : R 7 = .bool (!x3) := hF' 2 _ _ rfl rfl rfl
  replace hO := hO.fr hw
  replace hA := hA.fr hw.size
  replace hF := hF.trans hw
  clear hs hF' hw
  refine seqR_nil ?_
  refine HT.cond (!x3) h7 (fun c5 => ?_) (fun c5 => ?_)
  · have hr := cnd_t c5 hr
    refine HT.seq ?_
    refine HT.text (l := ⟨_, true, .raw (.int .i64 (-1 : Int))⟩ :: []) (tl := []) (by kernel_rfl) (by kernel_rfl) (by kernel_rfl) ?_ ?_
    · exact
        Obls.cons (Obl.plain rfl rfl fun R' w' hw hs hd => by exact of_assign rfl) <|
        Obls.nil
    intro R w hw hs hF'
    have h4 : R 4 = .int .i64 (-1 : Int) := hF' 0 _ _ rfl rfl rfl
    replace hO := hO.fr hw
    replace hO : IniOK [] A w := hO.sub [] trivial
    replace hA := hA.fr hw.size
    replace hF := hF.trans hw
    clear hs hF' hw
    refine seqR_nil ?_
    refine HT.ret ?_
    obtain rfl := Option.some.inj hr
    exact ⟨.inr rfl, [R 4], ⟨rfl, trivial⟩, h4, hF⟩
  · have hr := cnd_f c5 hr
    refine HT.skip ?_
    refine HT.seq ?_
    obtain ⟨x6, q7, hr⟩ := cl_some hr
    refine HT.text (l := ⟨_, true, .raw (.pointer (some ⟨b2_0, 0, none⟩))⟩ :: ⟨_, true, .rep (eSl E_impl_Rule) A p0⟩ :: ⟨_, true, .raw (.func (.func 83) #[] #[(.pointer (some ⟨b3_1, 0, none⟩))])⟩ :: ⟨_, true, .raw (.int .i64 x6)⟩ :: ⟨_, true, .raw (.int .i64 x6)⟩ :: []) (tl := []) (by kernel_rfl) (by kernel_rfl) (by kernel_rfl) ?_ ?_
    · exact
        Obls.cons (Obl.plain rfl rfl fun R' w' hw hs hd => by have a0 : R' 2 = (.pointer (some ⟨b2_0, 0, none⟩)) := (hs 2 rfl).trans h2; exact of_fieldAddr_raw a0 ff_29_0 Try.sizeOf27 (by decide) rfl) <|
        Obls.cons (Obl.plain rfl rfl fun R' w' hw hs hd => by have a0 : R' 8 = (.pointer (some ⟨b2_0, 0, none⟩)) := hd 0 _ _ _ rfl rfl rfl rfl rfl; exact (of_load_box ((hO.fr hw).ok 0 _ rfl).1 a0 fl_impl_RuleSet_0 rfl Try.isAgg27 Try.sizeOf27)) <|
        Obls.cons (Obl.plain rfl rfl fun R' w' hw hs hd => by have a0 : R' 3 = (.pointer (some ⟨b3_1, 0, none⟩)) := (hs 3 rfl).trans h3; exact of_makeFunc (c := [(.pointer (some ⟨b3_1, 0, none⟩))]) (by simp only [List.map, evalR]; rw [a0])) <|
        Obls.cons (Obl.plain rfl rfl fun R' w' hw hs hd => by have a0 : Rep (eSl E_impl_Rule) A w' (R' 9) p0 := hd 0 _ _ _ rfl rfl rfl rfl rfl; have a1 : R' 10 = (.func (.func 83) #[] #[(.pointer (some ⟨b3_1, 0, none⟩))]) := hd 1 _ _ _ rfl rfl rfl rfl rfl; exact of_call Try.call82 (M_slices_IndexFunc_impl_Rule_impl_Rule_ok (q7 rfl) (hA.fr hw.size) a0 (fnb1_of [(.pointer (some ⟨b3_1, 0, none⟩))] a1 Try.call83 (fun x r hr' w'' a hF' hA' ha => M_impl_FirstRule_1_ok hr' hA' ha ((box_prep ((hO.fr hw).ok 1 _ rfl).1).fr hF'))))) <|
        Obls.cons (Obl.plain rfl rfl fun R' w' hw hs hd => by have a0 : R' 11 = .int .i64 x6 := hd 0 _ _ _ rfl rfl rfl rfl rfl; exact of_assign a0) <|
        Obls.nil
    intro R w hw hs hF'
    have h4 : R 4 = .int .i64 x6 := hF' 4 _ _ rfl rfl rfl
    replace hO := hO.fr hw
    replace hO : IniOK [] A w := hO.sub [] trivial
    replace hA := hA.fr hw.size
    replace hF := hF.trans hw
    clear hs hF' hw
    refine seqR_nil ?_
    refine HT.ret ?_
    obtain rfl := Option.some.inj hr
    exact ⟨.inr rfl, [R 4], ⟨rfl, trivial⟩, h4, hF⟩
def M_impl_RulesHold (fu : Nat) (p0 : T_impl_RuleSet) (p1 : List Int) : Option Bool :=
  cl true (M_impl_FirstRule fu p0 p1) fun x2 =>
  some (decide ((0 : Int) ≤ x2))
set_option maxRecDepth 100000 in
set_option maxHeartbeats 4000000 in
theorem M_impl_RulesHold_ok {fu : Nat} {A0 : Av} {p0 : T_impl_RuleSet} {p1 : List Int} {r : Bool} (hr : M_impl_RulesHold fu p0 p1 = some r) {w : World} {v0 : Value} {v1 : Value} (hA : AvOK A0 w) (h0 : Rep E_impl_RuleSet A0 w v0 p0) (h1 : Rep (eSl (eInt .i64)) A0 w v1 p1) :
    Calls Try.prog 27 #[v0, v1] w fun e w' => ∃ v, e = .returned v ∧ (v = .bool r ∧ Fr w w') := by
  unfold M_impl_RulesHold at hr
  obtain ⟨w0, hw0⟩ : ∃ w0, w0 = w := ⟨_, rfl⟩
  have hF : Fr w0 w := hw0 ▸ Fr.refl _
  have hA0 : ∀ b o, A0 b o → b < w0.heap.size := fun b o h => hw0 ▸ hA b o h
  have hA00 : AvOK A0 w0 := hA0
  rw [show Fr w = Fr w0 from hw0 ▸ rfl]
  clear hw0
  obtain ⟨A, hAe⟩ : ∃ A, A = A0 := ⟨_, rfl⟩
  have hAA : ∀ b o, A0 b o → A b o := fun b o h => hAe ▸ h
  replace hA : AvOK A w := hAe ▸ hA
  have hO : IniOK [] A w := IniOK.nil
  refine calls_of_HT2 [.tmp 4] Try.func27 Try.ntmps27 (by decide) rfl rfl (Nat.le_of_ble_eq_true rfl) ?_
  intro R hR
  have f_v0 : Rep E_impl_RuleSet A w v0 p0 := hAe ▸ h0
  replace h0 : R 0 = v0 := hR 0 _ rfl
  have f_v1 : Rep (eSl (eInt .i64)) A w v1 p1 := hAe ▸ h1
  replace h1 : R 1 = v1 := hR 1 _ rfl
  clear hR hAe
  refine HT.seq ?_
  refine HT.textR [] (⟨_, true, [], some (.box w0.heap.size 29 E_impl_RuleSet p0), true, fun A => .any⟩ :: ⟨_, true, [], none, true, fun A => .raw (.bool false)⟩ :: []) (by kernel_rfl) (by kernel_rfl) (Wf.mk' (by kernel_rfl) (UAll.cons ust_any (UAll.cons ust_raw (UAll.nil))) (by kernel_rfl) (by kernel_rfl)) hO hA ?_ ?_
  · exact
      OblsR.cons (OblR.made _ rfl rfl rfl rfl fun A' R' w' ho hd => by have a0 : R' 0 = v0 := (ho.old 0 rfl).trans h0; have ra0 := (f_v0.stp ho.stp).eq a0; exact made_box ra0 (Nat.le_trans hF.size ho.ch.size)) <|
      OblsR.cons (OblR.plain rfl rfl rfl rfl fun A' R' w' ho hd => by exact of_assign rfl) <|
      OblsR.nil
  intro done ρ σ A R w hdn hI
  replace h1 : R 1 = v1 := (hI.reg rfl).trans h1
  obtain ⟨b2_0, e_b2_0⟩ := hI.boxv hdn 0 rfl rfl
  have h2 : R 2 = (.pointer (some ⟨b2_0, 0, none⟩)) := (hI.opvR hdn 0 0 rfl rfl rfl rfl rfl).symm.trans e_b2_0
  replace f_v1 := f_v1.stp hI.stp
  replace hAA := hI.low' hAA hA0 (hO.ge (trivial))
  replace hF : Fr w0 w := hF.tr hI.ch (hO.ge (trivial))
  replace hO : IniOK [ob (.pointer (some ⟨b2_0, 0, none⟩)) (.box w0.heap.size 29 E_impl_RuleSet p0)] A w := hI.left hdn [(0, ob (.pointer (some ⟨b2_0, 0, none⟩)) (.box w0.heap.size 29 E_impl_RuleSet p0))] ⟨rfl, rfl, e_b2_0, rfl, rfl, trivial⟩
  replace hA := hI.avok
  clear hI
  refine HT.seq ?_
  obtain ⟨x2, q3, hr⟩ := cl_some hr
  refine HT.text (l := ⟨_, true, .rep E_impl_RuleSet A p0⟩ :: ⟨_, true, .raw v1⟩ :: ⟨_, true, .raw (.int .i64 x2)⟩ :: ⟨_, true, .raw (.bool (decide ((0 : Int) ≤ x2)))⟩ :: ⟨_, true, .raw (.bool (decide ((0 : Int) ≤ x2)))⟩ :: []) (tl := []) (by kernel_rfl) (by kernel_rfl) (by kernel_rfl) ?_ ?_
  · exact
      Obls.cons (Obl.plain rfl rfl fun R' w' hw hs hd => by have a0 : R' 2 = (.pointer (some ⟨b2_0, 0, none⟩)) := (hs 2 rfl).trans h2; exact (of_load_box ((hO.fr hw).ok 0 _ rfl).1 a0 (Fld.id _) rfl Try.isAgg29 Try.sizeOf29)) <|
      Obls.cons (Obl.plain rfl rfl fun R' w' hw hs hd => by have a0 : R' 1 = v1 := (hs 1 rfl).trans h1; exact of_move a0) <|
      Obls.cons (Obl.plain rfl rfl fun R' w' hw hs hd => by have a0 : Rep E_impl_RuleSet A w' (R' 5) p0 := hd 0 _ _ _ rfl rfl rfl rfl rfl; have a1 : R' 6 = v1 := hd 1 _ _ _ rfl rfl rfl rfl rfl; have ra1 := (f_v1.fr hw).eq a1; exact of_call Try.call52 (M_impl_FirstRule_ok (q3 rfl) (hA.fr hw.size) a0 ra1)) <|
      Obls.cons (Obl.plain rfl rfl fun R' w' hw hs hd => by have a0 : R' 7 = .int .i64 x2 := hd 0 _ _ _ rfl rfl rfl rfl rfl; exact of_geq a0 rfl) <|
      Obls.cons (Obl.plain rfl rfl fun R' w' hw hs hd => by have a0 : R' 8 = .bool (decide ((0 : Int) ≤ x2)) := hd 0 _ _ _ rfl rfl rfl rfl rfl; exact of_assign a0) <|
      Obls.nil
  intro R w hw hs hF'
  have h4 : R 4 = .bool (decide ((0 : Int) ≤ x2)) := hF' 4 _ _ rfl rfl rfl
  replace hO := hO.fr hw
  replace hO : IniOK [] A w := hO.sub [] trivial
  replace hA := hA.fr hw.size
  replace hF := hF.trans hw
  clear hs hF' hw
  refine seqR_nil ?_
  refine HT.ret ?_
  obtain rfl := Option.some.inj hr
  exact ⟨.inr rfl, [R 4], ⟨rfl, trivial⟩, h4, hF⟩
end Go.Proofs.Ytmkgocdgkdglnaa
