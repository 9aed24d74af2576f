/- Own texts laid together. No statement of the seat is proved here. -/
import Derived.Test.YtpneepiboheldaaDoorZx5
import Derived.Sort.Walk0
import Derived.Lib.Bytealg
/- Printed by dec.py: plain functions and the proofs that the code computes them. No statement of the seat is proved here. -/
namespace Go.Proofs.YtpneepiboheldaaDoor
open Go.RowKit
set_option linter.unusedVariables false
def M_laws_eqTest (fu : Nat) (p0 : T_impl_Test) (p1 : T_impl_Test) : Option Bool :=
  bif (p0.1 != p1.1) then (
    some false
  ) else (
    bif (p0.2.1 != p1.2.1) then (
      some false
    ) else (
      bif (p0.2.2 != p1.2.2) then (
        some false
      ) else (
        some true
      )
    )
  )
set_option maxRecDepth 100000 in
set_option maxHeartbeats 4000000 in
theorem M_laws_eqTest_ok {fu : Nat} {A0 : Av} {p0 : T_impl_Test} {p1 : T_impl_Test} {r : Bool} (hr : M_laws_eqTest fu p0 p1 = some r) {w : World} {v0 : Value} {v1 : Value} (hA : AvOK A0 w) (h0 : Rep E_impl_Test A0 w v0 p0) (h1 : Rep E_impl_Test A0 w v1 p1) :
    Calls Tryd.prog 55 #[v0, v1] w fun e w' => ∃ v, e = .returned v ∧ (v = .bool r ∧ Fr w w') := by
  unfold M_laws_eqTest at hr
  obtain ⟨w0, hw0⟩ : ∃ w0, w0 = w := ⟨_, rfl⟩
  have hF : Fr w0 w := hw0 ▸ Fr.refl _
  have hA0 : ∀ b o, A0 b o → b < w0.heap.size := fun b o h => hw0 ▸ hA b o h
  have hA00 : AvOK A0 w0 := hA0
  rw [show Fr w = Fr w0 from hw0 ▸ rfl]
  clear hw0
  obtain ⟨A, hAe⟩ : ∃ A, A = A0 := ⟨_, rfl⟩
  have hAA : ∀ b o, A0 b o → A b o := fun b o h => hAe ▸ h
  replace hA : AvOK A w := hAe ▸ hA
  have hO : IniOK [] A w := IniOK.nil
  refine calls_of_HT2 [.tmp 4] Tryd.func55 Tryd.ntmps55 (by decide) rfl rfl (Nat.le_of_ble_eq_true rfl) ?_
  intro R hR
  have f_v0 : Rep E_impl_Test A w v0 p0 := hAe ▸ h0
  replace h0 : R 0 = v0 := hR 0 _ rfl
  have f_v1 : Rep E_impl_Test A w v1 p1 := hAe ▸ h1
  replace h1 : R 1 = v1 := hR 1 _ rfl
  clear hR hAe
  refine HT.seq ?_
  refine HT.textR [] (⟨_, true, [], some (.box w0.heap.size 36 E_impl_Test p0), true, fun A => .any⟩ :: ⟨_, true, [], some (.box w0.heap.size 36 E_impl_Test p1), true, fun A => .any⟩ :: ⟨_, true, [], none, true, fun A => .raw (.bool false)⟩ :: []) (by kernel_rfl) (by kernel_rfl) (Wf.mk' (by kernel_rfl) (UAll.cons ust_any (UAll.cons ust_any (UAll.cons ust_raw (UAll.nil)))) (by kernel_rfl) (by kernel_rfl)) hO hA ?_ ?_
  · exact
      OblsR.cons (OblR.made _ rfl rfl rfl rfl fun A' R' w' ho hd => by have a0 : R' 0 = v0 := (ho.old 0 rfl).trans h0; have ra0 := (f_v0.stp ho.stp).eq a0; exact made_box ra0 (Nat.le_trans hF.size ho.ch.size)) <|
      OblsR.cons (OblR.made _ rfl rfl rfl rfl fun A' R' w' ho hd => by have a0 : R' 1 = v1 := (ho.old 1 rfl).trans h1; have ra0 := (f_v1.stp ho.stp).eq a0; exact made_box ra0 (Nat.le_trans hF.size ho.ch.size)) <|
      OblsR.cons (OblR.plain rfl rfl rfl rfl fun A' R' w' ho hd => by exact of_assign rfl) <|
      OblsR.nil
  intro done ρ σ A R w hdn hI
  obtain ⟨b2_0, e_b2_0⟩ := hI.boxv hdn 0 rfl rfl
  have h2 : R 2 = (.pointer (some ⟨b2_0, 0, none⟩)) := (hI.opvR hdn 0 0 rfl rfl rfl rfl rfl).symm.trans e_b2_0
  obtain ⟨b3_1, e_b3_1⟩ := hI.boxv hdn 1 rfl rfl
  have h3 : R 3 = (.pointer (some ⟨b3_1, 0, none⟩)) := (hI.opvR hdn 1 1 rfl rfl rfl rfl rfl).symm.trans e_b3_1
  replace hAA := hI.low' hAA hA0 (hO.ge (trivial))
  replace hF : Fr w0 w := hF.tr hI.ch (hO.ge (trivial))
  replace hO : IniOK [ob (.pointer (some ⟨b2_0, 0, none⟩)) (.box w0.heap.size 36 E_impl_Test p0), ob (.pointer (some ⟨b3_1, 0, none⟩)) (.box w0.heap.size 36 E_impl_Test p1)] A w := hI.left hdn [(0, ob (.pointer (some ⟨b2_0, 0, none⟩)) (.box w0.heap.size 36 E_impl_Test p0)), (1, ob (.pointer (some ⟨b3_1, 0, none⟩)) (.box w0.heap.size 36 E_impl_Test p1))] ⟨rfl, rfl, e_b2_0, rfl, rfl, ⟨rfl, rfl, e_b3_1, rfl, rfl, trivial⟩⟩
  replace hA := hI.avok
  clear hI
  refine HT.seq ?_
  refine HT.seq ?_
  refine HT.text (l := ⟨_, true, .raw (.pointer (some ⟨b2_0, 0, none⟩))⟩ :: ⟨_, true, .raw (.int .i64 p0.1)⟩ :: ⟨_, true, .raw (.pointer (some ⟨b3_1, 0, none⟩))⟩ :: ⟨_, true, .raw (.int .i64 p1.1)⟩ :: ⟨_, true, .raw (.bool (p0.1 != p1.1))⟩ :: []) (tl := []) (by kernel_rfl) (by kernel_rfl) (by kernel_rfl) ?_ ?_
  · exact
      Obls.cons (Obl.plain rfl rfl fun R' w' hw hs hd => by have a0 : R' 2 = (.pointer (some ⟨b2_0, 0, none⟩)) := (hs 2 rfl).trans h2; exact of_fieldAddr_raw a0 ff_36_0 Tryd.sizeOf3 (by decide) rfl) <|
      Obls.cons (Obl.plain rfl rfl fun R' w' hw hs hd => by have a0 : R' 5 = (.pointer (some ⟨b2_0, 0, none⟩)) := hd 0 _ _ _ rfl rfl rfl rfl rfl; exact OpF.int (of_load_box ((hO.fr hw).ok 0 _ rfl).1 a0 fl_impl_Test_0 rfl Tryd.isAgg3 Tryd.sizeOf3)) <|
      Obls.cons (Obl.plain rfl rfl fun R' w' hw hs hd => by have a0 : R' 3 = (.pointer (some ⟨b3_1, 0, none⟩)) := (hs 3 rfl).trans h3; exact of_fieldAddr_raw a0 ff_36_0 Tryd.sizeOf3 (by decide) rfl) <|
      Obls.cons (Obl.plain rfl rfl fun R' w' hw hs hd => by have a0 : R' 7 = (.pointer (some ⟨b3_1, 0, none⟩)) := hd 0 _ _ _ rfl rfl rfl rfl rfl; exact OpF.int (of_load_box ((hO.fr hw).ok 1 _ rfl).1 a0 fl_impl_Test_0 rfl Tryd.isAgg3 Tryd.sizeOf3)) <|
      Obls.cons (Obl.plain rfl rfl fun R' w' hw hs hd => by have a0 : R' 6 = .int .i64 p0.1 := hd 0 _ _ _ rfl rfl rfl rfl rfl; have a1 : R' 8 = .int .i64 p1.1 := hd 1 _ _ _ rfl rfl rfl rfl rfl; exact of_neq a0 a1) <|
      Obls.nil
  intro R w hw hs hF'
  replace h2 : R 2 = (.pointer (some ⟨b2_0, 0, none⟩)) := (hs 2 rfl).trans h2
  replace h3 : R 3 = (.pointer (some ⟨b3_1, 0, none⟩)) := (hs 3 rfl).trans h3
  have h9 : R 9 = .bool (p0.1 != p1.1) := hF' 4 _ _ rfl rfl rfl
  replace hO := hO.fr hw
  replace hA := hA.fr hw.size
  replace hF := hF.trans hw
  clear hs hF' hw
  refine seqR_nil ?_
  refine HT.cond (p0.1 != p1.1) h9 (fun c3 => ?_) (fun c3 => ?_)
  · have hr := cnd_t c3 hr
    refine HT.seq ?_
    refine HT.text (l := ⟨_, true, .raw (.bool false)⟩ :: []) (tl := []) (by kernel_rfl) (by kernel_rfl) (by kernel_rfl) ?_ ?_
    · exact
        Obls.cons (Obl.plain rfl rfl fun R' w' hw hs hd => by exact of_assign rfl) <|
        Obls.nil
    intro R w hw hs hF'
    have h4 : R 4 = .bool false := hF' 0 _ _ rfl rfl rfl
    replace hO := hO.fr hw
    replace hO : IniOK [] A w := hO.sub [] trivial
    replace hA := hA.fr hw.size
    replace hF := hF.trans hw
    clear hs hF' hw
    refine seqR_nil ?_
    refine HT.ret ?_
    obtain rfl := Option.some.inj hr
    exact ⟨.inr rfl, [R 4], ⟨rfl, trivial⟩, h4, hF⟩
  · have hr := cnd_f c3 hr
    refine HT.skip ?_
    refine HT.seq ?_
    refine HT.seq ?_
    refine HT.text (l := ⟨_, true, .raw (.pointer (some ⟨b2_0, 1, none⟩))⟩ :: ⟨_, true, .raw (.int .i64 p0.2.1)⟩ :: ⟨_, true, .raw (.pointer (some ⟨b3_1, 1, none⟩))⟩ :: ⟨_, true, .raw (.int .i64 p1.2.1)⟩ :: ⟨_, true, .raw (.bool (p0.2.1 != p1.2.1))⟩ :: []) (tl := []) (by kernel_rfl) (by kernel_rfl) (by kernel_rfl) ?_ ?_
    · exact
        Obls.cons (Obl.plain rfl rfl fun R' w' hw hs hd => by have a0 : R' 2 = (.pointer (some ⟨b2_0, 0, none⟩)) := (hs 2 rfl).trans h2; exact of_fieldAddr_raw a0 ff_36_1 Tryd.sizeOf3 (by decide) rfl) <|
        Obls.cons (Obl.plain rfl rfl fun R' w' hw hs hd => by have a0 : R' 10 = (.pointer (some ⟨b2_0, 1, none⟩)) := hd 0 _ _ _ rfl rfl rfl rfl rfl; exact OpF.int (of_load_box ((hO.fr hw).ok 0 _ rfl).1 a0 fl_impl_Test_1 rfl Tryd.isAgg3 Tryd.sizeOf3)) <|
        Obls.cons (Obl.plain rfl rfl fun R' w' hw hs hd => by have a0 : R' 3 = (.pointer (some ⟨b3_1, 0, none⟩)) := (hs 3 rfl).trans h3; exact of_fieldAddr_raw a0 ff_36_1 Tryd.sizeOf3 (by decide) rfl) <|
        Obls.cons (Obl.plain rfl rfl fun R' w' hw hs hd => by have a0 : R' 12 = (.pointer (some ⟨b3_1, 1, none⟩)) := hd 0 _ _ _ rfl rfl rfl rfl rfl; exact OpF.int (of_load_box ((hO.fr hw).ok 1 _ rfl).1 a0 fl_impl_Test_1 rfl Tryd.isAgg3 Tryd.sizeOf3)) <|
        Obls.cons (Obl.plain rfl rfl fun R' w' hw hs hd => by have a0 : R' 11 = .int .i64 p0.2.1 := hd 0 _ _ _ rfl rfl rfl rfl rfl; have a1 : R' 13 = .int .i64 p1.2.1 := hd 1 _ _ _ rfl rfl rfl rfl rfl; exact of_neq a0 a1) <|
        Obls.nil
    intro R w hw hs hF'
    replace h2 : R 2 = (.pointer (some ⟨b2_0, 0, none⟩)) := (hs 2 rfl).trans h2
    replace h3 : R 3 = (.pointer (some ⟨b3_1, 0, none⟩)) := (hs 3 rfl).trans h3
    have h14 : R 14 = .bool (p0.2.1 != p1.2.1) := hF' 4 _ _ rfl rfl rfl
    replace hO := hO.fr hw
    replace hA := hA.fr hw.size
    replace hF := hF.trans hw
    clear hs hF' hw
    refine seqR_nil ?_
    refine HT.cond (p0.2.1 != p1.2.1) h14 (fun c4 => ?_) (fun c4 => ?_)
    · have hr := cnd_t c4 hr
      refine HT.seq ?_
      refine HT.text (l := ⟨_, true, .raw (.bool false)⟩ :: []) (tl := []) (by kernel_rfl) (by kernel_rfl) (by kernel_rfl) ?_ ?_
      · exact
          Obls.cons (Obl.plain rfl rfl fun R' w' hw hs hd => by exact of_assign rfl) <|
          Obls.nil
      intro R w hw hs hF'
      have h4 : R 4 = .bool false := hF' 0 _ _ rfl rfl rfl
      replace hO := hO.fr hw
      replace hO : IniOK [] A w := hO.sub [] trivial
      replace hA := hA.fr hw.size
      replace hF := hF.trans hw
      clear hs hF' hw
      refine seqR_nil ?_
      refine HT.ret ?_
      obtain rfl := Option.some.inj hr
      exact ⟨.inr rfl, [R 4], ⟨rfl, trivial⟩, h4, hF⟩
    · have hr := cnd_f c4 hr
      refine HT.skip ?_
      refine HT.seq ?_
      refine HT.seq ?_
      refine HT.text (l := ⟨_, true, .raw (.pointer (some ⟨b2_0, 2, none⟩))⟩ :: ⟨_, true, .raw (.bool p0.2.2)⟩ :: ⟨_, true, .raw (.pointer (some ⟨b3_1, 2, none⟩))⟩ :: ⟨_, true, .raw (.bool p1.2.2)⟩ :: ⟨_, true, .raw (.bool (p0.2.2 != p1.2.2))⟩ :: []) (tl := []) (by kernel_rfl) (by kernel_rfl) (by kernel_rfl) ?_ ?_
      · exact
          Obls.cons (Obl.plain rfl rfl fun R' w' hw hs hd => by have a0 : R' 2 = (.pointer (some ⟨b2_0, 0, none⟩)) := (hs 2 rfl).trans h2; exact of_fieldAddr_raw a0 ff_36_2 Tryd.sizeOf4 (by decide) rfl) <|
          Obls.cons (Obl.plain rfl rfl fun R' w' hw hs hd => by have a0 : R' 15 = (.pointer (some ⟨b2_0, 2, none⟩)) := hd 0 _ _ _ rfl rfl rfl rfl rfl; exact OpF.bool (of_load_box ((hO.fr hw).ok 0 _ rfl).1 a0 fl_impl_Test_2 rfl Tryd.isAgg4 Tryd.sizeOf4)) <|
          Obls.cons (Obl.plain rfl rfl fun R' w' hw hs hd => by have a0 : R' 3 = (.pointer (some ⟨b3_1, 0, none⟩)) := (hs 3 rfl).trans h3; exact of_fieldAddr_raw a0 ff_36_2 Tryd.sizeOf4 (by decide) rfl) <|
          Obls.cons (Obl.plain rfl rfl fun R' w' hw hs hd => by have a0 : R' 17 = (.pointer (some ⟨b3_1, 2, none⟩)) := hd 0 _ _ _ rfl rfl rfl rfl rfl; exact OpF.bool (of_load_box ((hO.fr hw).ok 1 _ rfl).1 a0 fl_impl_Test_2 rfl Tryd.isAgg4 Tryd.sizeOf4)) <|
          Obls.cons (Obl.plain rfl rfl fun R' w' hw hs hd => by have a0 : R' 16 = .bool p0.2.2 := hd 0 _ _ _ rfl rfl rfl rfl rfl; have a1 : R' 18 = .bool p1.2.2 := hd 1 _ _ _ rfl rfl rfl rfl rfl; exact of_bneq Tryd.underlying4 a0 a1) <|
          Obls.nil
      intro R w hw hs hF'
      have h19 : R 19 = .bool (p0.2.2 != p1.2.2) := hF' 4 _ _ rfl rfl rfl
      replace hO := hO.fr hw
      replace hO : IniOK [] A w := hO.sub [] trivial
      replace hA := hA.fr hw.size
      replace hF := hF.trans hw
      clear hs hF' hw
      refine seqR_nil ?_
      refine HT.cond (p0.2.2 != p1.2.2) h19 (fun c5 => ?_) (fun c5 => ?_)
      · have hr := cnd_t c5 hr
        refine HT.seq ?_
        refine HT.text (l := ⟨_, true, .raw (.bool false)⟩ :: []) (tl := []) (by kernel_rfl) (by kernel_rfl) (by kernel_rfl) ?_ ?_
        · exact
            Obls.cons (Obl.plain rfl rfl fun R' w' hw hs hd => by exact of_assign rfl) <|
            Obls.nil
        intro R w hw hs hF'
        have h4 : R 4 = .bool false := hF' 0 _ _ rfl rfl rfl
        replace hO := hO.fr hw
        replace hA := hA.fr hw.size
        replace hF := hF.trans hw
        clear hs hF' hw
        refine seqR_nil ?_
        refine HT.ret ?_
        obtain rfl := Option.some.inj hr
        exact ⟨.inr rfl, [R 4], ⟨rfl, trivial⟩, h4, hF⟩
      · have hr := cnd_f c5 hr
        refine HT.skip ?_
        refine HT.seq ?_
        refine HT.text (l := ⟨_, true, .raw (.bool true)⟩ :: []) (tl := []) (by kernel_rfl) (by kernel_rfl) (by kernel_rfl) ?_ ?_
        · exact
            Obls.cons (Obl.plain rfl rfl fun R' w' hw hs hd => by exact of_assign rfl) <|
            Obls.nil
        intro R w hw hs hF'
        have h4 : R 4 = .bool true := hF' 0 _ _ rfl rfl rfl
        replace hO := hO.fr hw
        replace hA := hA.fr hw.size
        replace hF := hF.trans hw
        clear hs hF' hw
        refine seqR_nil ?_
        refine HT.ret ?_
        obtain rfl := Option.some.inj hr
        exact ⟨.inr rfl, [R 4], ⟨rfl, trivial⟩, h4, hF⟩
def M_laws_eqTestS_L0 (fu : Nat) (p0 : List T_impl_Test) (p1 : List T_impl_Test) : Nat → Int → Option (Ex Bool Unit)
  | 0, _ => none
  | k + 1, y5 =>
    bif (decide (y5 < (p0.length : Int))) then (
      ck (inR y5 p0.length) <|
      ck (inR y5 p1.length) <|
      cl true (M_laws_eqTest fu (gtD p0 y5) (gtD p1 y5)) fun x9 =>
      bif (!x9) then (
        some (Ex.ret false)
      ) else (
        ck (i64B (y5 + (1 : Int))) <|
        M_laws_eqTestS_L0 fu p0 p1 k (y5 + (1 : Int))
      )
    ) else (
      some (Ex.go ())
    )
def M_laws_eqTestS (fu : Nat) (p0 : List T_impl_Test) (p1 : List T_impl_Test) : Option Bool :=
  bif ((p0.length : Int) != (p1.length : Int)) then (
    some false
  ) else (
    cl true (M_laws_eqTestS_L0 fu p0 p1 fu (0 : Int)) fun rl2 =>
    exM rl2 (fun r => some r) fun s4 =>
    some true
  )
set_option maxRecDepth 100000 in
set_option maxHeartbeats 4000000 in
theorem M_laws_eqTestS_ok {fu : Nat} {A : Av} {p0 : List T_impl_Test} {p1 : List T_impl_Test} {r : Bool} (hr : M_laws_eqTestS fu p0 p1 = some r) {w : World} {v0 : Value} {v1 : Value} (hA : AvOK A w) (h0 : Rep (eSl E_impl_Test) A w v0 p0) (h1 : Rep (eSl E_impl_Test) A w v1 p1) :
    Calls Tryd.prog 45 #[v0, v1] w fun e w' => ∃ v, e = .returned v ∧ (v = .bool r ∧ Fr w w') := by
  unfold M_laws_eqTestS at hr
  obtain ⟨w0, hw0⟩ : ∃ w0, w0 = w := ⟨_, rfl⟩
  have hF : Fr w0 w := hw0 ▸ Fr.refl _
  rw [show Fr w = Fr w0 from hw0 ▸ rfl]
  clear hw0
  refine calls_of_HT2 [.tmp 4] Tryd.func45 Tryd.ntmps45 (by decide) rfl rfl (Nat.le_of_ble_eq_true rfl) ?_
  intro R hR
  have f_v0 := h0
  replace h0 : R 0 = v0 := hR 0 _ rfl
  have f_v1 := h1
  replace h1 : R 1 = v1 := hR 1 _ rfl
  clear hR
  refine HT.seq ?_
  refine HT.text (l := ⟨_, true, .raw (.bool false)⟩ :: []) (tl := []) (by kernel_rfl) (by kernel_rfl) (by kernel_rfl) ?_ ?_
  · exact
      Obls.cons (Obl.plain rfl rfl fun R' w' hw hs hd => by exact of_assign rfl) <|
      Obls.nil
  intro R w hw hs hF'
  replace h0 : R 0 = v0 := (hs 0 rfl).trans h0
  replace h1 : R 1 = v1 := (hs 1 rfl).trans h1
  replace f_v0 := f_v0.fr hw
  replace f_v1 := f_v1.fr hw
  replace hA := hA.fr hw.size
  replace hF := hF.trans hw
  clear hs hF' hw
  refine seqR_nil ?_
  refine HT.seq ?_
  refine HT.seq ?_
  refine HT.text (l := ⟨_, true, .raw v0⟩ :: ⟨_, true, .raw (.int .i64 (p0.length : Int))⟩ :: ⟨_, true, .raw v1⟩ :: ⟨_, true, .raw (.int .i64 (p1.length : Int))⟩ :: ⟨_, true, .raw (.bool ((p0.length : Int) != (p1.length : Int)))⟩ :: []) (tl := []) (by kernel_rfl) (by kernel_rfl) (by kernel_rfl) ?_ ?_
  · exact
      Obls.cons (Obl.plain rfl rfl fun R' w' hw hs hd => by have a0 : R' 0 = v0 := (hs 0 rfl).trans h0; exact of_move a0) <|
      Obls.cons (Obl.plain rfl rfl fun R' w' hw hs hd => by have a0 : R' 6 = v0 := hd 0 _ _ _ rfl rfl rfl rfl rfl; have ra0 := (f_v0.fr hw).eq a0; exact of_len_sl (aT := #[]) ra0 Tryd.underlying30) <|
      Obls.cons (Obl.plain rfl rfl fun R' w' hw hs hd => by have a0 : R' 1 = v1 := (hs 1 rfl).trans h1; exact of_move a0) <|
      Obls.cons (Obl.plain rfl rfl fun R' w' hw hs hd => by have a0 : R' 8 = v1 := hd 0 _ _ _ rfl rfl rfl rfl rfl; have ra0 := (f_v1.fr hw).eq a0; exact of_len_sl (aT := #[]) ra0 Tryd.underlying30) <|
      Obls.cons (Obl.plain rfl rfl fun R' w' hw hs hd => by have a0 : R' 7 = .int .i64 (p0.length : Int) := hd 0 _ _ _ rfl rfl rfl rfl rfl; have a1 : R' 9 = .int .i64 (p1.length : Int) := hd 1 _ _ _ rfl rfl rfl rfl rfl; exact of_neq a0 a1) <|
      Obls.nil
  intro R w hw hs hF'
  replace h0 : R 0 = v0 := (hs 0 rfl).trans h0
  replace h1 : R 1 = v1 := (hs 1 rfl).trans h1
  have h10 : R 10 = .bool ((p0.length : Int) != (p1.length : Int)) := hF' 4 _ _ rfl rfl rfl
  replace f_v0 := f_v0.fr hw
  replace f_v1 := f_v1.fr hw
  replace hA := hA.fr hw.size
  replace hF := hF.trans hw
  clear hs hF' hw
  refine seqR_nil ?_
  refine HT.cond ((p0.length : Int) != (p1.length : Int)) h10 (fun c1 => ?_) (fun c1 => ?_)
  · have hr := cnd_t c1 hr
    refine HT.seq ?_
    refine HT.text (l := ⟨_, true, .raw (.bool false)⟩ :: []) (tl := []) (by kernel_rfl) (by kernel_rfl) (by kernel_rfl) ?_ ?_
    · exact
        Obls.cons (Obl.plain rfl rfl fun R' w' hw hs hd => by exact of_assign rfl) <|
        Obls.nil
    intro R w hw hs hF'
    have h4 : R 4 = .bool false := hF' 0 _ _ rfl rfl rfl
    replace hA := hA.fr hw.size
    replace hF := hF.trans hw
    clear hs hF' hw
    refine seqR_nil ?_
    refine HT.ret ?_
    obtain rfl := Option.some.inj hr
    exact ⟨.inr rfl, [R 4], ⟨rfl, trivial⟩, h4, hF⟩
  · have hr := cnd_f c1 hr
    refine HT.skip ?_
    refine HT.seq ?_
    refine HT.seq ?_
    refine HT.text (l := ⟨_, true, .raw (.int .i64 (0 : Int))⟩ :: []) (tl := []) (by kernel_rfl) (by kernel_rfl) (by kernel_rfl) ?_ ?_
    · exact
        Obls.cons (Obl.plain rfl rfl fun R' w' hw hs hd => by exact of_assign rfl) <|
        Obls.nil
    intro R w hw hs hF'
    replace h0 : R 0 = v0 := (hs 0 rfl).trans h0
    replace h1 : R 1 = v1 := (hs 1 rfl).trans h1
    have h5 : R 5 = .int .i64 (0 : Int) := hF' 0 _ _ rfl rfl rfl
    replace f_v0 := f_v0.fr hw
    replace f_v1 := f_v1.fr hw
    replace hA := hA.fr hw.size
    replace hF := hF.trans hw
    clear hs hF' hw
    refine seqR_nil ?_
    obtain ⟨rl2, q3, hr⟩ := cl_some hr
    replace q3 := q3 rfl
    refine HT.cut0 (fun R w => ∃ (s4 : Unit), rl2 = Ex.go s4 ∧ AvOK A w ∧ Fr w0 w) ?_ ?_
    · refine HT.block ?_
      refine HT.loop (fun k R w => ∃ (y5 : Int), M_laws_eqTestS_L0 fu p0 p1 k y5 = some rl2 ∧ AvOK A w ∧ Fr w0 w ∧ R 0 = v0 ∧ R 1 = v1 ∧ R 5 = .int .i64 y5 ∧ Rep (eSl E_impl_Test) A w v0 p0 ∧ Rep (eSl E_impl_Test) A w v1 p1) fu ⟨_, q3, hA, hF, h0, h1, h5, f_v0, f_v1⟩ ?_
      have hr0 := hr; clear hr q3
      rintro k R w ⟨y5, hr, hA, hF, h0, h1, h5, f_v0, f_v1⟩
      rcases k with _ | k
      · cases (show none = some _ from hr)
      rw [M_laws_eqTestS_L0] at hr
      refine HT.seq ?_
      refine HT.seq ?_
      refine HT.text (l := ⟨_, true, .raw (.int .i64 y5)⟩ :: ⟨_, true, .raw v0⟩ :: ⟨_, true, .raw (.int .i64 (p0.length : Int))⟩ :: ⟨_, true, .raw (.bool (decide (y5 < (p0.length : Int))))⟩ :: []) (tl := []) (by kernel_rfl) (by kernel_rfl) (by kernel_rfl) ?_ ?_
      · exact
          Obls.cons (Obl.plain rfl rfl fun R' w' hw hs hd => by have a0 : R' 5 = .int .i64 y5 := (hs 5 rfl).trans h5; exact of_move a0) <|
          Obls.cons (Obl.plain rfl rfl fun R' w' hw hs hd => by have a0 : R' 0 = v0 := (hs 0 rfl).trans h0; exact of_move a0) <|
          Obls.cons (Obl.plain rfl rfl fun R' w' hw hs hd => by have a0 : R' 12 = v0 := hd 0 _ _ _ rfl rfl rfl rfl rfl; have ra0 := (f_v0.fr hw).eq a0; exact of_len_sl (aT := #[]) ra0 Tryd.underlying30) <|
          Obls.cons (Obl.plain rfl rfl fun R' w' hw hs hd => by have a0 : R' 11 = .int .i64 y5 := hd 0 _ _ _ rfl rfl rfl rfl rfl; have a1 : R' 13 = .int .i64 (p0.length : Int) := hd 1 _ _ _ rfl rfl rfl rfl rfl; exact of_lss a0 a1) <|
          Obls.nil
      intro R w hw hs hF'
      replace h0 : R 0 = v0 := (hs 0 rfl).trans h0
      replace h1 : R 1 = v1 := (hs 1 rfl).trans h1
      replace h5 : R 5 = .int .i64 y5 := (hs 5 rfl).trans h5
      have h14 : R 14 = .bool (decide (y5 < (p0.length : Int))) := hF' 3 _ _ rfl rfl rfl
      replace f_v0 := f_v0.fr hw
      replace f_v1 := f_v1.fr hw
      replace hA := hA.fr hw.size
      replace hF := hF.trans hw
      clear hs hF' hw
      refine seqR_nil ?_
      refine HT.cond (decide (y5 < (p0.length : Int))) h14 (fun c6 => ?_) (fun c6 => ?_)
      · have hr := cnd_t c6 hr
        refine HT.skip ?_
        refine HT.seq ?_
        refine HT.block ?_
        refine HT.seq ?_
        obtain ⟨e7, hr⟩ := ck_some hr
        obtain ⟨e8, hr⟩ := ck_some hr
        obtain ⟨x9, q10, hr⟩ := cl_some hr
        refine HT.draw (by kernel_rfl) (l := ⟨_, true, .raw v0⟩ :: ⟨_, true, .raw (.int .i64 y5)⟩ :: ⟨_, true, .qtr E_impl_Test A (gtD p0 y5)⟩ :: ⟨_, true, .rep E_impl_Test A (gtD p0 y5)⟩ :: ⟨_, true, .raw v1⟩ :: ⟨_, true, .raw (.int .i64 y5)⟩ :: ⟨_, true, .qtr E_impl_Test A (gtD p1 y5)⟩ :: ⟨_, true, .rep E_impl_Test A (gtD p1 y5)⟩ :: ⟨_, true, .raw (.bool x9)⟩ :: ⟨_, true, .raw (.bool (!x9))⟩ :: []) (tl := []) (by kernel_rfl) (by kernel_rfl) (by kernel_rfl) (by kernel_rfl) ?_ ?_
        · exact
            Obls.cons (Obl.plain rfl rfl fun R' w' hw hs hd => by have a0 : R' 0 = v0 := (hs 0 rfl).trans h0; exact of_move a0) <|
            Obls.cons (Obl.plain rfl rfl fun R' w' hw hs hd => by have a0 : R' 5 = .int .i64 y5 := (hs 5 rfl).trans h5; exact of_move a0) <|
            Obls.cons (Obl.plain rfl rfl fun R' w' hw hs hd => by have a0 : R' 17 = v0 := hd 0 _ _ _ rfl rfl rfl rfl rfl; have a1 : R' 18 = .int .i64 y5 := hd 1 _ _ _ rfl rfl rfl rfl rfl; have ra0 := (f_v0.fr hw).eq a0; exact of_indexAddr ra0 a1 Tryd.underlying30 Tryd.sizeOf36 e7) <|
            Obls.cons (Obl.plain rfl rfl fun R' w' hw hs hd => by have a0 : QRep E_impl_Test A w' (R' 19) (gtD p0 y5) := hd 0 _ _ _ rfl rfl rfl rfl rfl; exact (of_load a0.ptr Tryd.isAgg36 Tryd.sizeOf36)) <|
            Obls.cons (Obl.plain rfl rfl fun R' w' hw hs hd => by have a0 : R' 1 = v1 := (hs 1 rfl).trans h1; exact of_move a0) <|
            Obls.cons (Obl.plain rfl rfl fun R' w' hw hs hd => by have a0 : R' 5 = .int .i64 y5 := (hs 5 rfl).trans h5; exact of_move a0) <|
            Obls.cons (Obl.plain rfl rfl fun R' w' hw hs hd => by have a0 : R' 21 = v1 := hd 0 _ _ _ rfl rfl rfl rfl rfl; have a1 : R' 22 = .int .i64 y5 := hd 1 _ _ _ rfl rfl rfl rfl rfl; have ra0 := (f_v1.fr hw).eq a0; exact of_indexAddr ra0 a1 Tryd.underlying30 Tryd.sizeOf36 e8) <|
            Obls.cons (Obl.plain rfl rfl fun R' w' hw hs hd => by have a0 : QRep E_impl_Test A w' (R' 23) (gtD p1 y5) := hd 0 _ _ _ rfl rfl rfl rfl rfl; exact (of_load a0.ptr Tryd.isAgg36 Tryd.sizeOf36)) <|
            Obls.cons (Obl.plain rfl rfl fun R' w' hw hs hd => by have a0 : Rep E_impl_Test A w' (R' 20) (gtD p0 y5) := hd 0 _ _ _ rfl rfl rfl rfl rfl; have a1 : Rep E_impl_Test A w' (R' 24) (gtD p1 y5) := hd 1 _ _ _ rfl rfl rfl rfl rfl; exact of_call Tryd.call55 (M_laws_eqTest_ok (q10 rfl) (hA.fr hw.size) a0 a1)) <|
            Obls.cons (Obl.plain rfl rfl fun R' w' hw hs hd => by have a0 : R' 25 = .bool x9 := hd 0 _ _ _ rfl rfl rfl rfl rfl; exact of_not a0) <|
            Obls.nil
        intro R w hw hs hF'
        replace h0 : R 0 = v0 := (hs 0 rfl).trans h0
        replace h1 : R 1 = v1 := (hs 1 rfl).trans h1
        replace h5 : R 5 = .int .i64 y5 := (hs 5 rfl).trans h5
        have h26 : R 26 = .bool (!x9) := hF' 9 _ _ rfl rfl rfl
        replace f_v0 := f_v0.fr hw
        replace f_v1 := f_v1.fr hw
        replace hA := hA.fr hw.size
        replace hF := hF.trans hw
        clear hs hF' hw
        refine seqR_nil ?_
        refine HT.cond (!x9) h26 (fun c11 => ?_) (fun c11 => ?_)
        · have hr := cnd_t c11 hr
          refine HT.seq ?_
          refine HT.text (l := ⟨_, true, .raw (.bool false)⟩ :: []) (tl := []) (by kernel_rfl) (by kernel_rfl) (by kernel_rfl) ?_ ?_
          · exact
              Obls.cons (Obl.plain rfl rfl fun R' w' hw hs hd => by exact of_assign rfl) <|
              Obls.nil
          intro R w hw hs hF'
          have h4 : R 4 = .bool false := hF' 0 _ _ rfl rfl rfl
          replace hA := hA.fr hw.size
          replace hF := hF.trans hw
          clear hs hF' hw
          refine seqR_nil ?_
          refine HT.ret ?_
          obtain rfl := Option.some.inj hr
          have hr := hr0
          replace hr : some _ = some _ := hr
          obtain rfl := Option.some.inj hr
          exact ⟨.inr rfl, [R 4], ⟨rfl, trivial⟩, h4, hF⟩
        · have hr := cnd_f c11 hr
          refine HT.skip ?_
          obtain ⟨e12, hr⟩ := ck_some hr
          refine HT.text (l := ⟨_, true, .raw (.int .i64 y5)⟩ :: ⟨_, true, .raw (.int .i64 (y5 + (1 : Int)))⟩ :: ⟨_, true, .raw (.int .i64 (y5 + (1 : Int)))⟩ :: []) (tl := []) (by kernel_rfl) (by kernel_rfl) (by kernel_rfl) ?_ ?_
          · exact
              Obls.cons (Obl.plain rfl rfl fun R' w' hw hs hd => by have a0 : R' 5 = .int .i64 y5 := (hs 5 rfl).trans h5; exact of_move a0) <|
              Obls.cons (Obl.plain rfl rfl fun R' w' hw hs hd => by have a0 : R' 15 = .int .i64 y5 := hd 0 _ _ _ rfl rfl rfl rfl rfl; exact of_add a0 rfl e12) <|
              Obls.cons (Obl.plain rfl rfl fun R' w' hw hs hd => by have a0 : R' 16 = .int .i64 (y5 + (1 : Int)) := hd 0 _ _ _ rfl rfl rfl rfl rfl; exact of_assign a0) <|
              Obls.nil
          intro R w hw hs hF'
          replace h0 : R 0 = v0 := (hs 0 rfl).trans h0
          replace h1 : R 1 = v1 := (hs 1 rfl).trans h1
          have h5 : R 5 = .int .i64 (y5 + (1 : Int)) := hF' 2 _ _ rfl rfl rfl
          replace f_v0 := f_v0.fr hw
          replace f_v1 := f_v1.fr hw
          replace hA := hA.fr hw.size
          replace hF := hF.trans hw
          clear hs hF' hw
          refine seqR_nil ?_
          exact Exists.intro k (And.intro (Nat.lt_succ_self k) ⟨_, hr, hA, hF, h0, h1, h5, f_v0, f_v1⟩)
      · have hr := cnd_f c6 hr
        refine HT.exit ?_
        obtain rfl := Option.some.inj hr
        exact Exists.intro _ ⟨rfl, hA, hF⟩
    rintro R w ⟨s4, rfl, hA, hF⟩
    have hr := exM_go hr
    refine HT.seq ?_
    refine HT.text (l := ⟨_, true, .raw (.bool true)⟩ :: []) (tl := []) (by kernel_rfl) (by kernel_rfl) (by kernel_rfl) ?_ ?_
    · exact
        Obls.cons (Obl.plain rfl rfl fun R' w' hw hs hd => by exact of_assign rfl) <|
        Obls.nil
    intro R w hw hs hF'
    have h4 : R 4 = .bool true := hF' 0 _ _ rfl rfl rfl
    replace hA := hA.fr hw.size
    replace hF := hF.trans hw
    clear hs hF' hw
    refine seqR_nil ?_
    refine HT.ret ?_
    obtain rfl := Option.some.inj hr
    exact ⟨.inr rfl, [R 4], ⟨rfl, trivial⟩, h4, hF⟩
def M_laws_eqRule (fu : Nat) (p0 : T_impl_Rule) (p1 : T_impl_Rule) : Option Bool :=
  cl true (M_laws_eqTestS fu p0 p1) fun x3 =>
  bif (!x3) then (
    some false
  ) else (
    some true
  )
set_option maxRecDepth 100000 in
set_option maxHeartbeats 4000000 in
theorem M_laws_eqRule_ok {fu : Nat} {A0 : Av} {p0 : T_impl_Rule} {p1 : T_impl_Rule} {r : Bool} (hr : M_laws_eqRule fu p0 p1 = some r) {w : World} {v0 : Value} {v1 : Value} (hA : AvOK A0 w) (h0 : Rep E_impl_Rule A0 w v0 p0) (h1 : Rep E_impl_Rule A0 w v1 p1) :
    Calls Tryd.prog 29 #[v0, v1] w fun e w' => ∃ v, e = .returned v ∧ (v = .bool r ∧ Fr w w') := by
  unfold M_laws_eqRule at hr
  obtain ⟨w0, hw0⟩ : ∃ w0, w0 = w := ⟨_, rfl⟩
  have hF : Fr w0 w := hw0 ▸ Fr.refl _
  have hA0 : ∀ b o, A0 b o → b < w0.heap.size := fun b o h => hw0 ▸ hA b o h
  have hA00 : AvOK A0 w0 := hA0
  rw [show Fr w = Fr w0 from hw0 ▸ rfl]
  clear hw0
  obtain ⟨A, hAe⟩ : ∃ A, A = A0 := ⟨_, rfl⟩
  have hAA : ∀ b o, A0 b o → A b o := fun b o h => hAe ▸ h
  replace hA : AvOK A w := hAe ▸ hA
  have hO : IniOK [] A w := IniOK.nil
  refine calls_of_HT2 [.tmp 4] Tryd.func29 Tryd.ntmps29 (by decide) rfl rfl (Nat.le_of_ble_eq_true rfl) ?_
  intro R hR
  have f_v0 : Rep E_impl_Rule A w v0 p0 := hAe ▸ h0
  replace h0 : R 0 = v0 := hR 0 _ rfl
  have f_v1 : Rep E_impl_Rule A w v1 p1 := hAe ▸ h1
  replace h1 : R 1 = v1 := hR 1 _ rfl
  clear hR hAe
  refine HT.seq ?_
  refine HT.textR [] (⟨_, true, [], some (.box w0.heap.size 32 E_impl_Rule p0), true, fun A => .any⟩ :: ⟨_, true, [], some (.box w0.heap.size 32 E_impl_Rule p1), true, fun A => .any⟩ :: ⟨_, true, [], none, true, fun A => .raw (.bool false)⟩ :: []) (by kernel_rfl) (by kernel_rfl) (Wf.mk' (by kernel_rfl) (UAll.cons ust_any (UAll.cons ust_any (UAll.cons ust_raw (UAll.nil)))) (by kernel_rfl) (by kernel_rfl)) hO hA ?_ ?_
  · exact
      OblsR.cons (OblR.made _ rfl rfl rfl rfl fun A' R' w' ho hd => by have a0 : R' 0 = v0 := (ho.old 0 rfl).trans h0; have ra0 := (f_v0.stp ho.stp).eq a0; exact made_box ra0 (Nat.le_trans hF.size ho.ch.size)) <|
      OblsR.cons (OblR.made _ rfl rfl rfl rfl fun A' R' w' ho hd => by have a0 : R' 1 = v1 := (ho.old 1 rfl).trans h1; have ra0 := (f_v1.stp ho.stp).eq a0; exact made_box ra0 (Nat.le_trans hF.size ho.ch.size)) <|
      OblsR.cons (OblR.plain rfl rfl rfl rfl fun A' R' w' ho hd => by exact of_assign rfl) <|
      OblsR.nil
  intro done ρ σ A R w hdn hI
  obtain ⟨b2_0, e_b2_0⟩ := hI.boxv hdn 0 rfl rfl
  have h2 : R 2 = (.pointer (some ⟨b2_0, 0, none⟩)) := (hI.opvR hdn 0 0 rfl rfl rfl rfl rfl).symm.trans e_b2_0
  obtain ⟨b3_1, e_b3_1⟩ := hI.boxv hdn 1 rfl rfl
  have h3 : R 3 = (.pointer (some ⟨b3_1, 0, none⟩)) := (hI.opvR hdn 1 1 rfl rfl rfl rfl rfl).symm.trans e_b3_1
  replace hAA := hI.low' hAA hA0 (hO.ge (trivial))
  replace hF : Fr w0 w := hF.tr hI.ch (hO.ge (trivial))
  replace hO : IniOK [ob (.pointer (some ⟨b2_0, 0, none⟩)) (.box w0.heap.size 32 E_impl_Rule p0), ob (.pointer (some ⟨b3_1, 0, none⟩)) (.box w0.heap.size 32 E_impl_Rule p1)] A w := hI.left hdn [(0, ob (.pointer (some ⟨b2_0, 0, none⟩)) (.box w0.heap.size 32 E_impl_Rule p0)), (1, ob (.pointer (some ⟨b3_1, 0, none⟩)) (.box w0.heap.size 32 E_impl_Rule p1))] ⟨rfl, rfl, e_b2_0, rfl, rfl, ⟨rfl, rfl, e_b3_1, rfl, rfl, trivial⟩⟩
  replace hA := hI.avok
  clear hI
  refine HT.seq ?_
  refine HT.seq ?_
  obtain ⟨x3, q4, hr⟩ := cl_some hr
  refine HT.text (l := ⟨_, true, .raw (.pointer (some ⟨b2_0, 0, none⟩))⟩ :: ⟨_, true, .rep (eSl E_impl_Test) A p0⟩ :: ⟨_, true, .raw (.pointer (some ⟨b3_1, 0, none⟩))⟩ :: ⟨_, true, .rep (eSl E_impl_Test) A p1⟩ :: ⟨_, true, .raw (.bool x3)⟩ :: ⟨_, true, .raw (.bool (!x3))⟩ :: []) (tl := []) (by kernel_rfl) (by kernel_rfl) (by kernel_rfl) ?_ ?_
  · exact
      Obls.cons (Obl.plain rfl rfl fun R' w' hw hs hd => by have a0 : R' 2 = (.pointer (some ⟨b2_0, 0, none⟩)) := (hs 2 rfl).trans h2; exact of_fieldAddr_raw a0 ff_32_0 Tryd.sizeOf30 (by decide) rfl) <|
      Obls.cons (Obl.plain rfl rfl fun R' w' hw hs hd => by have a0 : R' 5 = (.pointer (some ⟨b2_0, 0, none⟩)) := hd 0 _ _ _ rfl rfl rfl rfl rfl; exact (of_load_box ((hO.fr hw).ok 0 _ rfl).1 a0 fl_impl_Rule_0 rfl Tryd.isAgg30 Tryd.sizeOf30)) <|
      Obls.cons (Obl.plain rfl rfl fun R' w' hw hs hd => by have a0 : R' 3 = (.pointer (some ⟨b3_1, 0, none⟩)) := (hs 3 rfl).trans h3; exact of_fieldAddr_raw a0 ff_32_0 Tryd.sizeOf30 (by decide) rfl) <|
      Obls.cons (Obl.plain rfl rfl fun R' w' hw hs hd => by have a0 : R' 7 = (.pointer (some ⟨b3_1, 0, none⟩)) := hd 0 _ _ _ rfl rfl rfl rfl rfl; exact (of_load_box ((hO.fr hw).ok 1 _ rfl).1 a0 fl_impl_Rule_0 rfl Tryd.isAgg30 Tryd.sizeOf30)) <|
      Obls.cons (Obl.plain rfl rfl fun R' w' hw hs hd => by have a0 : Rep (eSl E_impl_Test) A w' (R' 6) p0 := hd 0 _ _ _ rfl rfl rfl rfl rfl; have a1 : Rep (eSl E_impl_Test) A w' (R' 8) p1 := hd 1 _ _ _ rfl rfl rfl rfl rfl; exact of_call Tryd.call45 (M_laws_eqTestS_ok (q4 rfl) (hA.fr hw.size) a0 a1)) <|
      Obls.cons (Obl.plain rfl rfl fun R' w' hw hs hd => by have a0 : R' 9 = .bool x3 := hd 0 _ _ _ rfl rfl rfl rfl rfl; exact of_not a0) <|
      Obls.nil
  intro R w hw hs hF'
  have h10 : R 10 = .bool (!x3) := hF' 5 _ _ rfl rfl rfl
  replace hO := hO.fr hw
  replace hO : IniOK [] A w := hO.sub [] trivial
  replace hA := hA.fr hw.size
  replace hF := hF.trans hw
  clear hs hF' hw
  refine seqR_nil ?_
  refine HT.cond (!x3) h10 (fun c5 => ?_) (fun c5 => ?_)
  · have hr := cnd_t c5 hr
    refine HT.seq ?_
    refine HT.text (l := ⟨_, true, .raw (.bool false)⟩ :: []) (tl := []) (by kernel_rfl) (by kernel_rfl) (by kernel_rfl) ?_ ?_
    · exact
        Obls.cons (Obl.plain rfl rfl fun R' w' hw hs hd => by exact of_assign rfl) <|
        Obls.nil
    intro R w hw hs hF'
    have h4 : R 4 = .bool false := hF' 0 _ _ rfl rfl rfl
    replace hO := hO.fr hw
    replace hA := hA.fr hw.size
    replace hF := hF.trans hw
    clear hs hF' hw
    refine seqR_nil ?_
    refine HT.ret ?_
    obtain rfl := Option.some.inj hr
    exact ⟨.inr rfl, [R 4], ⟨rfl, trivial⟩, h4, hF⟩
  · have hr := cnd_f c5 hr
    refine HT.skip ?_
    refine HT.seq ?_
    refine HT.text (l := ⟨_, true, .raw (.bool true)⟩ :: []) (tl := []) (by kernel_rfl) (by kernel_rfl) (by kernel_rfl) ?_ ?_
    · exact
        Obls.cons (Obl.plain rfl rfl fun R' w' hw hs hd => by exact of_assign rfl) <|
        Obls.nil
    intro R w hw hs hF'
    have h4 : R 4 = .bool true := hF' 0 _ _ rfl rfl rfl
    replace hO := hO.fr hw
    replace hA := hA.fr hw.size
    replace hF := hF.trans hw
    clear hs hF' hw
    refine seqR_nil ?_
    refine HT.ret ?_
    obtain rfl := Option.some.inj hr
    exact ⟨.inr rfl, [R 4], ⟨rfl, trivial⟩, h4, hF⟩
def M_laws_eqRuleS_L0 (fu : Nat) (p0 : List T_impl_Rule) (p1 : List T_impl_Rule) : Nat → Int → Option (Ex Bool Unit)
  | 0, _ => none
  | k + 1, y5 =>
    bif (decide (y5 < (p0.length : Int))) then (
      ck (inR y5 p0.length) <|
      ck (inR y5 p1.length) <|
      cl true (M_laws_eqRule fu (gtD p0 y5) (gtD p1 y5)) fun x9 =>
      bif (!x9) then (
        some (Ex.ret false)
      ) else (
        ck (i64B (y5 + (1 : Int))) <|
        M_laws_eqRuleS_L0 fu p0 p1 k (y5 + (1 : Int))
      )
    ) else (
      some (Ex.go ())
    )
def M_laws_eqRuleS (fu : Nat) (p0 : List T_impl_Rule) (p1 : List T_impl_Rule) : Option Bool :=
  bif ((p0.length : Int) != (p1.length : Int)) then (
    some false
  ) else (
    cl true (M_laws_eqRuleS_L0 fu p0 p1 fu (0 : Int)) fun rl2 =>
    exM rl2 (fun r => some r) fun s4 =>
    some true
  )
set_option maxRecDepth 100000 in
set_option maxHeartbeats 4000000 in
theorem M_laws_eqRuleS_ok {fu : Nat} {A : Av} {p0 : List T_impl_Rule} {p1 : List T_impl_Rule} {r : Bool} (hr : M_laws_eqRuleS fu p0 p1 = some r) {w : World} {v0 : Value} {v1 : Value} (hA : AvOK A w) (h0 : Rep (eSl E_impl_Rule) A w v0 p0) (h1 : Rep (eSl E_impl_Rule) A w v1 p1) :
    Calls Tryd.prog 15 #[v0, v1] w fun e w' => ∃ v, e = .returned v ∧ (v = .bool r ∧ Fr w w') := by
  unfold M_laws_eqRuleS at hr
  obtain ⟨w0, hw0⟩ : ∃ w0, w0 = w := ⟨_, rfl⟩
  have hF : Fr w0 w := hw0 ▸ Fr.refl _
  rw [show Fr w = Fr w0 from hw0 ▸ rfl]
  clear hw0
  refine calls_of_HT2 [.tmp 4] Tryd.func15 Tryd.ntmps15 (by decide) rfl rfl (Nat.le_of_ble_eq_true rfl) ?_
  intro R hR
  have f_v0 := h0
  replace h0 : R 0 = v0 := hR 0 _ rfl
  have f_v1 := h1
  replace h1 : R 1 = v1 := hR 1 _ rfl
  clear hR
  refine HT.seq ?_
  refine HT.text (l := ⟨_, true, .raw (.bool false)⟩ :: []) (tl := []) (by kernel_rfl) (by kernel_rfl) (by kernel_rfl) ?_ ?_
  · exact
      Obls.cons (Obl.plain rfl rfl fun R' w' hw hs hd => by exact of_assign rfl) <|
      Obls.nil
  intro R w hw hs hF'
  replace h0 : R 0 = v0 := (hs 0 rfl).trans h0
  replace h1 : R 1 = v1 := (hs 1 rfl).trans h1
  replace f_v0 := f_v0.fr hw
  replace f_v1 := f_v1.fr hw
  replace hA := hA.fr hw.size
  replace hF := hF.trans hw
  clear hs hF' hw
  refine seqR_nil ?_
  refine HT.seq ?_
  refine HT.seq ?_
  refine HT.text (l := ⟨_, true, .raw v0⟩ :: ⟨_, true, .raw (.int .i64 (p0.length : Int))⟩ :: ⟨_, true, .raw v1⟩ :: ⟨_, true, .raw (.int .i64 (p1.length : Int))⟩ :: ⟨_, true, .raw (.bool ((p0.length : Int) != (p1.length : Int)))⟩ :: []) (tl := []) (by kernel_rfl) (by kernel_rfl) (by kernel_rfl) ?_ ?_
  · exact
      Obls.cons (Obl.plain rfl rfl fun R' w' hw hs hd => by have a0 : R' 0 = v0 := (hs 0 rfl).trans h0; exact of_move a0) <|
      Obls.cons (Obl.plain rfl rfl fun R' w' hw hs hd => by have a0 : R' 6 = v0 := hd 0 _ _ _ rfl rfl rfl rfl rfl; have ra0 := (f_v0.fr hw).eq a0; exact of_len_sl (aT := #[]) ra0 Tryd.underlying22) <|
      Obls.cons (Obl.plain rfl rfl fun R' w' hw hs hd => by have a0 : R' 1 = v1 := (hs 1 rfl).trans h1; exact of_move a0) <|
      Obls.cons (Obl.plain rfl rfl fun R' w' hw hs hd => by have a0 : R' 8 = v1 := hd 0 _ _ _ rfl rfl rfl rfl rfl; have ra0 := (f_v1.fr hw).eq a0; exact of_len_sl (aT := #[]) ra0 Tryd.underlying22) <|
      Obls.cons (Obl.plain rfl rfl fun R' w' hw hs hd => by have a0 : R' 7 = .int .i64 (p0.length : Int) := hd 0 _ _ _ rfl rfl rfl rfl rfl; have a1 : R' 9 = .int .i64 (p1.length : Int) := hd 1 _ _ _ rfl rfl rfl rfl rfl; exact of_neq a0 a1) <|
      Obls.nil
  intro R w hw hs hF'
  replace h0 : R 0 = v0 := (hs 0 rfl).trans h0
  replace h1 : R 1 = v1 := (hs 1 rfl).trans h1
  have h10 : R 10 = .bool ((p0.length : Int) != (p1.length : Int)) := hF' 4 _ _ rfl rfl rfl
  replace f_v0 := f_v0.fr hw
  replace f_v1 := f_v1.fr hw
  replace hA := hA.fr hw.size
  replace hF := hF.trans hw
  clear hs hF' hw
  refine seqR_nil ?_
  refine HT.cond ((p0.length : Int) != (p1.length : Int)) h10 (fun c1 => ?_) (fun c1 => ?_)
  · have hr := cnd_t c1 hr
    refine HT.seq ?_
    refine HT.text (l := ⟨_, true, .raw (.bool false)⟩ :: []) (tl := []) (by kernel_rfl) (by kernel_rfl) (by kernel_rfl) ?_ ?_
    · exact
        Obls.cons (Obl.plain rfl rfl fun R' w' hw hs hd => by exact of_assign rfl) <|
        Obls.nil
    intro R w hw hs hF'
    have h4 : R 4 = .bool false := hF' 0 _ _ rfl rfl rfl
    replace hA := hA.fr hw.size
    replace hF := hF.trans hw
    clear hs hF' hw
    refine seqR_nil ?_
    refine HT.ret ?_
    obtain rfl := Option.some.inj hr
    exact ⟨.inr rfl, [R 4], ⟨rfl, trivial⟩, h4, hF⟩
  · have hr := cnd_f c1 hr
    refine HT.skip ?_
    refine HT.seq ?_
    refine HT.seq ?_
    refine HT.text (l := ⟨_, true, .raw (.int .i64 (0 : Int))⟩ :: []) (tl := []) (by kernel_rfl) (by kernel_rfl) (by kernel_rfl) ?_ ?_
    · exact
        Obls.cons (Obl.plain rfl rfl fun R' w' hw hs hd => by exact of_assign rfl) <|
        Obls.nil
    intro R w hw hs hF'
    replace h0 : R 0 = v0 := (hs 0 rfl).trans h0
    replace h1 : R 1 = v1 := (hs 1 rfl).trans h1
    have h5 : R 5 = .int .i64 (0 : Int) := hF' 0 _ _ rfl rfl rfl
    replace f_v0 := f_v0.fr hw
    replace f_v1 := f_v1.fr hw
    replace hA := hA.fr hw.size
    replace hF := hF.trans hw
    clear hs hF' hw
    refine seqR_nil ?_
    obtain ⟨rl2, q3, hr⟩ := cl_some hr
    replace q3 := q3 rfl
    refine HT.cut0 (fun R w => ∃ (s4 : Unit), rl2 = Ex.go s4 ∧ AvOK A w ∧ Fr w0 w) ?_ ?_
    · refine HT.block ?_
      refine HT.loop (fun k R w => ∃ (y5 : Int), M_laws_eqRuleS_L0 fu p0 p1 k y5 = some rl2 ∧ AvOK A w ∧ Fr w0 w ∧ R 0 = v0 ∧ R 1 = v1 ∧ R 5 = .int .i64 y5 ∧ Rep (eSl E_impl_Rule) A w v0 p0 ∧ Rep (eSl E_impl_Rule) A w v1 p1) fu ⟨_, q3, hA, hF, h0, h1, h5, f_v0, f_v1⟩ ?_
      have hr0 := hr; clear hr q3
      rintro k R w ⟨y5, hr, hA, hF, h0, h1, h5, f_v0, f_v1⟩
      rcases k with _ | k
      · cases (show none = some _ from hr)
      rw [M_laws_eqRuleS_L0] at hr
      refine HT.seq ?_
      refine HT.seq ?_
      refine HT.text (l := ⟨_, true, .raw (.int .i64 y5)⟩ :: ⟨_, true, .raw v0⟩ :: ⟨_, true, .raw (.int .i64 (p0.length : Int))⟩ :: ⟨_, true, .raw (.bool (decide (y5 < (p0.length : Int))))⟩ :: []) (tl := []) (by kernel_rfl) (by kernel_rfl) (by kernel_rfl) ?_ ?_
      · exact
          Obls.cons (Obl.plain rfl rfl fun R' w' hw hs hd => by have a0 : R' 5 = .int .i64 y5 := (hs 5 rfl).trans h5; exact of_move a0) <|
          Obls.cons (Obl.plain rfl rfl fun R' w' hw hs hd => by have a0 : R' 0 = v0 := (hs 0 rfl).trans h0; exact of_move a0) <|
          Obls.cons (Obl.plain rfl rfl fun R' w' hw hs hd => by have a0 : R' 12 = v0 := hd 0 _ _ _ rfl rfl rfl rfl rfl; have ra0 := (f_v0.fr hw).eq a0; exact of_len_sl (aT := #[]) ra0 Tryd.underlying22) <|
          Obls.cons (Obl.plain rfl rfl fun R' w' hw hs hd => by have a0 : R' 11 = .int .i64 y5 := hd 0 _ _ _ rfl rfl rfl rfl rfl; have a1 : R' 13 = .int .i64 (p0.length : Int) := hd 1 _ _ _ rfl rfl rfl rfl rfl; exact of_lss a0 a1) <|
          Obls.nil
      intro R w hw hs hF'
      replace h0 : R 0 = v0 := (hs 0 rfl).trans h0
      replace h1 : R 1 = v1 := (hs 1 rfl).trans h1
      replace h5 : R 5 = .int .i64 y5 := (hs 5 rfl).trans h5
      have h14 : R 14 = .bool (decide (y5 < (p0.length : Int))) := hF' 3 _ _ rfl rfl rfl
      replace f_v0 := f_v0.fr hw
      replace f_v1 := f_v1.fr hw
      replace hA := hA.fr hw.size
      replace hF := hF.trans hw
      clear hs hF' hw
      refine seqR_nil ?_
      refine HT.cond (decide (y5 < (p0.length : Int))) h14 (fun c6 => ?_) (fun c6 => ?_)
      · have hr := cnd_t c6 hr
        refine HT.skip ?_
        refine HT.seq ?_
        refine HT.block ?_
        refine HT.seq ?_
        obtain ⟨e7, hr⟩ := ck_some hr
        obtain ⟨e8, hr⟩ := ck_some hr
        obtain ⟨x9, q10, hr⟩ := cl_some hr
        refine HT.draw (by kernel_rfl) (l := ⟨_, true, .raw v0⟩ :: ⟨_, true, .raw (.int .i64 y5)⟩ :: ⟨_, true, .qtr E_impl_Rule A (gtD p0 y5)⟩ :: ⟨_, true, .rep E_impl_Rule A (gtD p0 y5)⟩ :: ⟨_, true, .raw v1⟩ :: ⟨_, true, .raw (.int .i64 y5)⟩ :: ⟨_, true, .qtr E_impl_Rule A (gtD p1 y5)⟩ :: ⟨_, true, .rep E_impl_Rule A (gtD p1 y5)⟩ :: ⟨_, true, .raw (.bool x9)⟩ :: ⟨_, true, .raw (.bool (!x9))⟩ :: []) (tl := []) (by kernel_rfl) (by kernel_rfl) (by kernel_rfl) (by kernel_rfl) ?_ ?_
        · exact
            Obls.cons (Obl.plain rfl rfl fun R' w' hw hs hd => by have a0 : R' 0 = v0 := (hs 0 rfl).trans h0; exact of_move a0) <|
            Obls.cons (Obl.plain rfl rfl fun R' w' hw hs hd => by have a0 : R' 5 = .int .i64 y5 := (hs 5 rfl).trans h5; exact of_move a0) <|
            Obls.cons (Obl.plain rfl rfl fun R' w' hw hs hd => by have a0 : R' 17 = v0 := hd 0 _ _ _ rfl rfl rfl rfl rfl; have a1 : R' 18 = .int .i64 y5 := hd 1 _ _ _ rfl rfl rfl rfl rfl; have ra0 := (f_v0.fr hw).eq a0; exact of_indexAddr ra0 a1 Tryd.underlying22 Tryd.sizeOf32 e7) <|
            Obls.cons (Obl.plain rfl rfl fun R' w' hw hs hd => by have a0 : QRep E_impl_Rule A w' (R' 19) (gtD p0 y5) := hd 0 _ _ _ rfl rfl rfl rfl rfl; exact (of_load a0.ptr Tryd.isAgg32 Tryd.sizeOf32)) <|
            Obls.cons (Obl.plain rfl rfl fun R' w' hw hs hd => by have a0 : R' 1 = v1 := (hs 1 rfl).trans h1; exact of_move a0) <|
            Obls.cons (Obl.plain rfl rfl fun R' w' hw hs hd => by have a0 : R' 5 = .int .i64 y5 := (hs 5 rfl).trans h5; exact of_move a0) <|
            Obls.cons (Obl.plain rfl rfl fun R' w' hw hs hd => by have a0 : R' 21 = v1 := hd 0 _ _ _ rfl rfl rfl rfl rfl; have a1 : R' 22 = .int .i64 y5 := hd 1 _ _ _ rfl rfl rfl rfl rfl; have ra0 := (f_v1.fr hw).eq a0; exact of_indexAddr ra0 a1 Tryd.underlying22 Tryd.sizeOf32 e8) <|
            Obls.cons (Obl.plain rfl rfl fun R' w' hw hs hd => by have a0 : QRep E_impl_Rule A w' (R' 23) (gtD p1 y5) := hd 0 _ _ _ rfl rfl rfl rfl rfl; exact (of_load a0.ptr Tryd.isAgg32 Tryd.sizeOf32)) <|
            Obls.cons (Obl.plain rfl rfl fun R' w' hw hs hd => by have a0 : Rep E_impl_Rule A w' (R' 20) (gtD p0 y5) := hd 0 _ _ _ rfl rfl rfl rfl rfl; have a1 : Rep E_impl_Rule A w' (R' 24) (gtD p1 y5) := hd 1 _ _ _ rfl rfl rfl rfl rfl; exact of_call Tryd.call29 (M_laws_eqRule_ok (q10 rfl) (hA.fr hw.size) a0 a1)) <|
            Obls.cons (Obl.plain rfl rfl fun R' w' hw hs hd => by have a0 : R' 25 = .bool x9 := hd 0 _ _ _ rfl rfl rfl rfl rfl; exact of_not a0) <|
            Obls.nil
        intro R w hw hs hF'
        replace h0 : R 0 = v0 := (hs 0 rfl).trans h0
        replace h1 : R 1 = v1 := (hs 1 rfl).trans h1
        replace h5 : R 5 = .int .i64 y5 := (hs 5 rfl).trans h5
        have h26 : R 26 = .bool (!x9) := hF' 9 _ _ rfl rfl rfl
        replace f_v0 := f_v0.fr hw
        replace f_v1 := f_v1.fr hw
        replace hA := hA.fr hw.size
        replace hF := hF.trans hw
        clear hs hF' hw
        refine seqR_nil ?_
        refine HT.cond (!x9) h26 (fun c11 => ?_) (fun c11 => ?_)
        · have hr := cnd_t c11 hr
          refine HT.seq ?_
          refine HT.text (l := ⟨_, true, .raw (.bool false)⟩ :: []) (tl := []) (by kernel_rfl) (by kernel_rfl) (by kernel_rfl) ?_ ?_
          · exact
              Obls.cons (Obl.plain rfl rfl fun R' w' hw hs hd => by exact of_assign rfl) <|
              Obls.nil
          intro R w hw hs hF'
          have h4 : R 4 = .bool false := hF' 0 _ _ rfl rfl rfl
          replace hA := hA.fr hw.size
          replace hF := hF.trans hw
          clear hs hF' hw
          refine seqR_nil ?_
          refine HT.ret ?_
          obtain rfl := Option.some.inj hr
          have hr := hr0
          replace hr : some _ = some _ := hr
          obtain rfl := Option.some.inj hr
          exact ⟨.inr rfl, [R 4], ⟨rfl, trivial⟩, h4, hF⟩
        · have hr := cnd_f c11 hr
          refine HT.skip ?_
          obtain ⟨e12, hr⟩ := ck_some hr
          refine HT.text (l := ⟨_, true, .raw (.int .i64 y5)⟩ :: ⟨_, true, .raw (.int .i64 (y5 + (1 : Int)))⟩ :: ⟨_, true, .raw (.int .i64 (y5 + (1 : Int)))⟩ :: []) (tl := []) (by kernel_rfl) (by kernel_rfl) (by kernel_rfl) ?_ ?_
          · exact
              Obls.cons (Obl.plain rfl rfl fun R' w' hw hs hd => by have a0 : R' 5 = .int .i64 y5 := (hs 5 rfl).trans h5; exact of_move a0) <|
              Obls.cons (Obl.plain rfl rfl fun R' w' hw hs hd => by have a0 : R' 15 = .int .i64 y5 := hd 0 _ _ _ rfl rfl rfl rfl rfl; exact of_add a0 rfl e12) <|
              Obls.cons (Obl.plain rfl rfl fun R' w' hw hs hd => by have a0 : R' 16 = .int .i64 (y5 + (1 : Int)) := hd 0 _ _ _ rfl rfl rfl rfl rfl; exact of_assign a0) <|
              Obls.nil
          intro R w hw hs hF'
          replace h0 : R 0 = v0 := (hs 0 rfl).trans h0
          replace h1 : R 1 = v1 := (hs 1 rfl).trans h1
          have h5 : R 5 = .int .i64 (y5 + (1 : Int)) := hF' 2 _ _ rfl rfl rfl
          replace f_v0 := f_v0.fr hw
          replace f_v1 := f_v1.fr hw
          replace hA := hA.fr hw.size
          replace hF := hF.trans hw
          clear hs hF' hw
          refine seqR_nil ?_
          exact Exists.intro k (And.intro (Nat.lt_succ_self k) ⟨_, hr, hA, hF, h0, h1, h5, f_v0, f_v1⟩)
      · have hr := cnd_f c6 hr
        refine HT.exit ?_
        obtain rfl := Option.some.inj hr
        exact Exists.intro _ ⟨rfl, hA, hF⟩
    rintro R w ⟨s4, rfl, hA, hF⟩
    have hr := exM_go hr
    refine HT.seq ?_
    refine HT.text (l := ⟨_, true, .raw (.bool true)⟩ :: []) (tl := []) (by kernel_rfl) (by kernel_rfl) (by kernel_rfl) ?_ ?_
    · exact
        Obls.cons (Obl.plain rfl rfl fun R' w' hw hs hd => by exact of_assign rfl) <|
        Obls.nil
    intro R w hw hs hF'
    have h4 : R 4 = .bool true := hF' 0 _ _ rfl rfl rfl
    replace hA := hA.fr hw.size
    replace hF := hF.trans hw
    clear hs hF' hw
    refine seqR_nil ?_
    refine HT.ret ?_
    obtain rfl := Option.some.inj hr
    exact ⟨.inr rfl, [R 4], ⟨rfl, trivial⟩, h4, hF⟩
def M_laws_eqRuleSet (fu : Nat) (p0 : T_impl_RuleSet) (p1 : T_impl_RuleSet) : Option Bool :=
  cl true (M_laws_eqRuleS fu p0 p1) fun x3 =>
  bif (!x3) then (
    some false
  ) else (
    some true
  )
set_option maxRecDepth 100000 in
set_option maxHeartbeats 4000000 in
theorem M_laws_eqRuleSet_ok {fu : Nat} {A0 : Av} {p0 : T_impl_RuleSet} {p1 : T_impl_RuleSet} {r : Bool} (hr : M_laws_eqRuleSet fu p0 p1 = some r) {w : World} {v0 : Value} {v1 : Value} (hA : AvOK A0 w) (h0 : Rep E_impl_RuleSet A0 w v0 p0) (h1 : Rep E_impl_RuleSet A0 w v1 p1) :
    Calls Tryd.prog 6 #[v0, v1] w fun e w' => ∃ v, e = .returned v ∧ (v = .bool r ∧ Fr w w') := by
  unfold M_laws_eqRuleSet at hr
  obtain ⟨w0, hw0⟩ : ∃ w0, w0 = w := ⟨_, rfl⟩
  have hF : Fr w0 w := hw0 ▸ Fr.refl _
  have hA0 : ∀ b o, A0 b o → b < w0.heap.size := fun b o h => hw0 ▸ hA b o h
  have hA00 : AvOK A0 w0 := hA0
  rw [show Fr w = Fr w0 from hw0 ▸ rfl]
  clear hw0
  obtain ⟨A, hAe⟩ : ∃ A, A = A0 := ⟨_, rfl⟩
  have hAA : ∀ b o, A0 b o → A b o := fun b o h => hAe ▸ h
  replace hA : AvOK A w := hAe ▸ hA
  have hO : IniOK [] A w := IniOK.nil
  refine calls_of_HT2 [.tmp 4] Tryd.func6 Tryd.ntmps6 (by decide) rfl rfl (Nat.le_of_ble_eq_true rfl) ?_
  intro R hR
  have f_v0 : Rep E_impl_RuleSet A w v0 p0 := hAe ▸ h0
  replace h0 : R 0 = v0 := hR 0 _ rfl
  have f_v1 : Rep E_impl_RuleSet A w v1 p1 := hAe ▸ h1
  replace h1 : R 1 = v1 := hR 1 _ rfl
  clear hR hAe
  refine HT.seq ?_
  refine HT.textR [] (⟨_, true, [], some (.box w0.heap.size 24 E_impl_RuleSet p0), true, fun A => .any⟩ :: ⟨_, true, [], some (.box w0.heap.size 24 E_impl_RuleSet p1), true, fun A => .any⟩ :: ⟨_, true, [], none, true, fun A => .raw (.bool false)⟩ :: []) (by kernel_rfl) (by kernel_rfl) (Wf.mk' (by kernel_rfl) (UAll.cons ust_any (UAll.cons ust_any (UAll.cons ust_raw (UAll.nil)))) (by kernel_rfl) (by kernel_rfl)) hO hA ?_ ?_
  · exact
      OblsR.cons (OblR.made _ rfl rfl rfl rfl fun A' R' w' ho hd => by have a0 : R' 0 = v0 := (ho.old 0 rfl).trans h0; have ra0 := (f_v0.stp ho.stp).eq a0; exact made_box ra0 (Nat.le_trans hF.size ho.ch.size)) <|
      OblsR.cons (OblR.made _ rfl rfl rfl rfl fun A' R' w' ho hd => by have a0 : R' 1 = v1 := (ho.old 1 rfl).trans h1; have ra0 := (f_v1.stp ho.stp).eq a0; exact made_box ra0 (Nat.le_trans hF.size ho.ch.size)) <|
      OblsR.cons (OblR.plain rfl rfl rfl rfl fun A' R' w' ho hd => by exact of_assign rfl) <|
      OblsR.nil
  intro done ρ σ A R w hdn hI
  obtain ⟨b2_0, e_b2_0⟩ := hI.boxv hdn 0 rfl rfl
  have h2 : R 2 = (.pointer (some ⟨b2_0, 0, none⟩)) := (hI.opvR hdn 0 0 rfl rfl rfl rfl rfl).symm.trans e_b2_0
  obtain ⟨b3_1, e_b3_1⟩ := hI.boxv hdn 1 rfl rfl
  have h3 : R 3 = (.pointer (some ⟨b3_1, 0, none⟩)) := (hI.opvR hdn 1 1 rfl rfl rfl rfl rfl).symm.trans e_b3_1
  replace hAA := hI.low' hAA hA0 (hO.ge (trivial))
  replace hF : Fr w0 w := hF.tr hI.ch (hO.ge (trivial))
  replace hO : IniOK [ob (.pointer (some ⟨b2_0, 0, none⟩)) (.box w0.heap.size 24 E_impl_RuleSet p0), ob (.pointer (some ⟨b3_1, 0, none⟩)) (.box w0.heap.size 24 E_impl_RuleSet p1)] A w := hI.left hdn [(0, ob (.pointer (some ⟨b2_0, 0, none⟩)) (.box w0.heap.size 24 E_impl_RuleSet p0)), (1, ob (.pointer (some ⟨b3_1, 0, none⟩)) (.box w0.heap.size 24 E_impl_RuleSet p1))] ⟨rfl, rfl, e_b2_0, rfl, rfl, ⟨rfl, rfl, e_b3_1, rfl, rfl, trivial⟩⟩
  replace hA := hI.avok
  clear hI
  refine HT.seq ?_
  refine HT.seq ?_
  obtain ⟨x3, q4, hr⟩ := cl_some hr
  refine HT.text (l := ⟨_, true, .raw (.pointer (some ⟨b2_0, 0, none⟩))⟩ :: ⟨_, true, .rep (eSl E_impl_Rule) A p0⟩ :: ⟨_, true, .raw (.pointer (some ⟨b3_1, 0, none⟩))⟩ :: ⟨_, true, .rep (eSl E_impl_Rule) A p1⟩ :: ⟨_, true, .raw (.bool x3)⟩ :: ⟨_, true, .raw (.bool (!x3))⟩ :: []) (tl := []) (by kernel_rfl) (by kernel_rfl) (by kernel_rfl) ?_ ?_
  · exact
      Obls.cons (Obl.plain rfl rfl fun R' w' hw hs hd => by have a0 : R' 2 = (.pointer (some ⟨b2_0, 0, none⟩)) := (hs 2 rfl).trans h2; exact of_fieldAddr_raw a0 ff_24_0 Tryd.sizeOf22 (by decide) rfl) <|
      Obls.cons (Obl.plain rfl rfl fun R' w' hw hs hd => by have a0 : R' 5 = (.pointer (some ⟨b2_0, 0, none⟩)) := hd 0 _ _ _ rfl rfl rfl rfl rfl; exact (of_load_box ((hO.fr hw).ok 0 _ rfl).1 a0 fl_impl_RuleSet_0 rfl Tryd.isAgg22 Tryd.sizeOf22)) <|
      Obls.cons (Obl.plain rfl rfl fun R' w' hw hs hd => by have a0 : R' 3 = (.pointer (some ⟨b3_1, 0, none⟩)) := (hs 3 rfl).trans h3; exact of_fieldAddr_raw a0 ff_24_0 Tryd.sizeOf22 (by decide) rfl) <|
      Obls.cons (Obl.plain rfl rfl fun R' w' hw hs hd => by have a0 : R' 7 = (.pointer (some ⟨b3_1, 0, none⟩)) := hd 0 _ _ _ rfl rfl rfl rfl rfl; exact (of_load_box ((hO.fr hw).ok 1 _ rfl).1 a0 fl_impl_RuleSet_0 rfl Tryd.isAgg22 Tryd.sizeOf22)) <|
      Obls.cons (Obl.plain rfl rfl fun R' w' hw hs hd => by have a0 : Rep (eSl E_impl_Rule) A w' (R' 6) p0 := hd 0 _ _ _ rfl rfl rfl rfl rfl; have a1 : Rep (eSl E_impl_Rule) A w' (R' 8) p1 := hd 1 _ _ _ rfl rfl rfl rfl rfl; exact of_call Tryd.call15 (M_laws_eqRuleS_ok (q4 rfl) (hA.fr hw.size) a0 a1)) <|
      Obls.cons (Obl.plain rfl rfl fun R' w' hw hs hd => by have a0 : R' 9 = .bool x3 := hd 0 _ _ _ rfl rfl rfl rfl rfl; exact of_not a0) <|
      Obls.nil
  intro R w hw hs hF'
  have h10 : R 10 = .bool (!x3) := hF' 5 _ _ rfl rfl rfl
  replace hO := hO.fr hw
  replace hO : IniOK [] A w := hO.sub [] trivial
  replace hA := hA.fr hw.size
  replace hF := hF.trans hw
  clear hs hF' hw
  refine seqR_nil ?_
  refine HT.cond (!x3) h10 (fun c5 => ?_) (fun c5 => ?_)
  · have hr := cnd_t c5 hr
    refine HT.seq ?_
    refine HT.text (l := ⟨_, true, .raw (.bool false)⟩ :: []) (tl := []) (by kernel_rfl) (by kernel_rfl) (by kernel_rfl) ?_ ?_
    · exact
        Obls.cons (Obl.plain rfl rfl fun R' w' hw hs hd => by exact of_assign rfl) <|
        Obls.nil
    intro R w hw hs hF'
    have h4 : R 4 = .bool false := hF' 0 _ _ rfl rfl rfl
    replace hO := hO.fr hw
    replace hA := hA.fr hw.size
    replace hF := hF.trans hw
    clear hs hF' hw
    refine seqR_nil ?_
    refine HT.ret ?_
    obtain rfl := Option.some.inj hr
    exact ⟨.inr rfl, [R 4], ⟨rfl, trivial⟩, h4, hF⟩
  · have hr := cnd_f c5 hr
    refine HT.skip ?_
    refine HT.seq ?_
    refine HT.text (l := ⟨_, true, .raw (.bool true)⟩ :: []) (tl := []) (by kernel_rfl) (by kernel_rfl) (by kernel_rfl) ?_ ?_
    · exact
        Obls.cons (Obl.plain rfl rfl fun R' w' hw hs hd => by exact of_assign rfl) <|
        Obls.nil
    intro R w hw hs hF'
    have h4 : R 4 = .bool true := hF' 0 _ _ rfl rfl rfl
    replace hO := hO.fr hw
    replace hA := hA.fr hw.size
    replace hF := hF.trans hw
    clear hs hF' hw
    refine seqR_nil ?_
    refine HT.ret ?_
    obtain rfl := Option.some.inj hr
    exact ⟨.inr rfl, [R 4], ⟨rfl, trivial⟩, h4, hF⟩
def M_laws_markTestS_L0 (fu : Nat) : Nat → Int → Int → (List T_impl_Test) → Option (Int × (List T_impl_Test))
  | 0, _, _, _ => none
  | k + 1, y4, y5, y6 =>
    bif (decide (y5 < (y6.length : Int))) then (
      ck (inR y5 y6.length) <|
      ck (i64B (y4 + (1 : Int))) <|
      ck (inR y5 (y6.set y5.toNat (y4, (gtD y6 y5).2.1, (gtD y6 y5).2.2)).length) <|
      ck (i64B ((y4 + (1 : Int)) + (1 : Int))) <|
      ck ((3 : Int) != 0) <|
      ck (inR y5 ((y6.set y5.toNat (y4, (gtD y6 y5).2.1, (gtD y6 y5).2.2)).set y5.toNat ((gtD (y6.set y5.toNat (y4, (gtD y6 y5).2.1, (gtD y6 y5).2.2)) y5).1, (y4 + (1 : Int)), (gtD (y6.set y5.toNat (y4, (gtD y6 y5).2.1, (gtD y6 y5).2.2)) y5).2.2)).length) <|
      ck (i64B (((y4 + (1 : Int)) + (1 : Int)) + (1 : Int))) <|
      ck (i64B (y5 + (1 : Int))) <|
      M_laws_markTestS_L0 fu k (((y4 + (1 : Int)) + (1 : Int)) + (1 : Int)) (y5 + (1 : Int)) (((y6.set y5.toNat (y4, (gtD y6 y5).2.1, (gtD y6 y5).2.2)).set y5.toNat ((gtD (y6.set y5.toNat (y4, (gtD y6 y5).2.1, (gtD y6 y5).2.2)) y5).1, (y4 + (1 : Int)), (gtD (y6.set y5.toNat (y4, (gtD y6 y5).2.1, (gtD y6 y5).2.2)) y5).2.2)).set y5.toNat ((gtD ((y6.set y5.toNat (y4, (gtD y6 y5).2.1, (gtD y6 y5).2.2)).set y5.toNat ((gtD (y6.set y5.toNat (y4, (gtD y6 y5).2.1, (gtD y6 y5).2.2)) y5).1, (y4 + (1 : Int)), (gtD (y6.set y5.toNat (y4, (gtD y6 y5).2.1, (gtD y6 y5).2.2)) y5).2.2)) y5).1, (gtD ((y6.set y5.toNat (y4, (gtD y6 y5).2.1, (gtD y6 y5).2.2)).set y5.toNat ((gtD (y6.set y5.toNat (y4, (gtD y6 y5).2.1, (gtD y6 y5).2.2)) y5).1, (y4 + (1 : Int)), (gtD (y6.set y5.toNat (y4, (gtD y6 y5).2.1, (gtD y6 y5).2.2)) y5).2.2)) y5).2.1, ((((y4 + (1 : Int)) + (1 : Int)).tmod (3 : Int)) == (0 : Int))))
    ) else (
      some (y4, y6)
    )
def M_laws_markTestS (fu : Nat) (p0 : List T_impl_Test) (p1 : Int) : Option (Int × List T_impl_Test) :=
  cl true (M_laws_markTestS_L0 fu fu p1 (0 : Int) p0) fun s3 =>
  some (s3.1, s3.2)
set_option maxRecDepth 100000 in
set_option maxHeartbeats 4000000 in
theorem M_laws_markTestS_ok {fu : Nat} {A0 : Av} {p0 : List T_impl_Test} {p1 : Int} {r : Int × List T_impl_Test} (hr : M_laws_markTestS fu p0 p1 = some r) {w : World} {v0 : Value} {v1 : Value} {B0 : Nat} (hA : AvOK A0 w) (hN : ∀ b o, A0 b o → ¬ ownsB v0 b) (h0 : (Res.vec B0 36 E_impl_Test p0).ok A0 v0 w) (h1 : v1 = .int .i64 p1) :
    Calls Tryd.prog 30 #[v0, v1] w fun e w' => ∃ v, e = .returned v ∧ (v = .int .i64 r.1 ∧ (Res.vec B0 36 E_impl_Test r.2).ok A0 v0 w' ∧ Ch (ownsB v0) w w') := by
  unfold M_laws_markTestS at hr
  obtain ⟨w0, hw0⟩ : ∃ w0, w0 = w := ⟨_, rfl⟩
  have hF : Ch (ownsB v0) w0 w := hw0 ▸ Ch.refl _ _
  have hA0 : ∀ b o, A0 b o → b < w0.heap.size := fun b o h => hw0 ▸ hA b o h
  have hA00 : AvOK A0 w0 := hA0
  rw [show Ch (ownsB v0) w = Ch (ownsB v0) w0 from hw0 ▸ rfl]
  clear hw0
  obtain ⟨A, hAe⟩ : ∃ A, A = addA A0 v0 := ⟨_, rfl⟩
  have hAA : ∀ b o, A0 b o → A b o := fun b o h => hAe ▸ .inl h
  replace hA : AvOK A w := hAe ▸ hA.one h0
  have hO : IniOK [ob v0 (.vec B0 36 E_impl_Test p0)] A w := hAe ▸ IniOK.one h0 (fun _ _ _ _ _ h => h)
  refine calls_of_HT2 [.tmp 4] Tryd.func30 Tryd.ntmps30 (by decide) rfl rfl (Nat.le_of_ble_eq_true rfl) ?_
  intro R hR
  replace h0 : R 0 = v0 := hR 0 _ rfl
  replace h1 : R 1 = .int .i64 p1 := (hR 1 _ rfl).trans h1
  clear hR hAe
  refine HT.seq ?_
  refine HT.text (l := ⟨_, true, .raw (.int .i64 (0 : Int))⟩ :: []) (tl := []) (by kernel_rfl) (by kernel_rfl) (by kernel_rfl) ?_ ?_
  · exact
      Obls.cons (Obl.plain rfl rfl fun R' w' hw hs hd => by exact of_assign rfl) <|
      Obls.nil
  intro R w hw hs hF'
  replace h0 : R 0 = v0 := (hs 0 rfl).trans h0
  replace h1 : R 1 = .int .i64 p1 := (hs 1 rfl).trans h1
  replace hO := hO.fr hw
  replace hA := hA.fr hw.size
  replace hF := hF.tr (hw.ch noB) fun _ h => False.elim h
  clear hs hF' hw
  refine seqR_nil ?_
  refine HT.seq ?_
  refine HT.seq ?_
  refine HT.text (l := ⟨_, true, .raw (.int .i64 (0 : Int))⟩ :: []) (tl := []) (by kernel_rfl) (by kernel_rfl) (by kernel_rfl) ?_ ?_
  · exact
      Obls.cons (Obl.plain rfl rfl fun R' w' hw hs hd => by exact of_assign rfl) <|
      Obls.nil
  intro R w hw hs hF'
  replace h0 : R 0 = v0 := (hs 0 rfl).trans h0
  replace h1 : R 1 = .int .i64 p1 := (hs 1 rfl).trans h1
  have h5 : R 5 = .int .i64 (0 : Int) := hF' 0 _ _ rfl rfl rfl
  replace hO := hO.fr hw
  replace hA := hA.fr hw.size
  replace hF := hF.tr (hw.ch noB) fun _ h => False.elim h
  clear hs hF' hw
  refine seqR_nil ?_
  obtain ⟨rl1, q2, hr⟩ := cl_some hr
  replace q2 := q2 rfl
  refine HT.cut0 (fun R w => ∃ A : Av, ∃ (s3 : Int × (List T_impl_Test)), rl1 = s3 ∧ AvOK A w ∧ Ch (ownsB v0) w0 w ∧ (∀ b o, A0 b o → A b o) ∧ IniOK [ob v0 (.vec B0 36 E_impl_Test s3.2)] A w ∧ R 1 = .int .i64 s3.1) ?_ ?_
  · refine HT.block ?_
    refine HT.loop (fun k R w => ∃ A : Av, ∃ (y4 : Int) (y5 : Int) (y6 : List T_impl_Test), M_laws_markTestS_L0 fu k y4 y5 y6 = some rl1 ∧ AvOK A w ∧ Ch (ownsB v0) w0 w ∧ (∀ b o, A0 b o → A b o) ∧ IniOK [ob v0 (.vec B0 36 E_impl_Test y6)] A w ∧ R 0 = v0 ∧ R 1 = .int .i64 y4 ∧ R 5 = .int .i64 y5) fu ⟨_, _, _, _, q2, hA, hF, hAA, hO, h0, h1, h5⟩ ?_
    have hr0 := hr; clear hr q2
    rintro k R w ⟨A, y4, y5, y6, hr, hA, hF, hAA, hO, h0, h1, h5⟩
    rcases k with _ | k
    · cases (show none = some _ from hr)
    rw [M_laws_markTestS_L0] at hr
    refine HT.seq ?_
    refine HT.seq ?_
    refine HT.text (l := ⟨_, true, .raw (.int .i64 y5)⟩ :: ⟨_, true, .raw v0⟩ :: ⟨_, true, .raw (.int .i64 (y6.length : Int))⟩ :: ⟨_, true, .raw (.bool (decide (y5 < (y6.length : Int))))⟩ :: []) (tl := []) (by kernel_rfl) (by kernel_rfl) (by kernel_rfl) ?_ ?_
    · exact
        Obls.cons (Obl.plain rfl rfl fun R' w' hw hs hd => by have a0 : R' 5 = .int .i64 y5 := (hs 5 rfl).trans h5; exact of_move a0) <|
        Obls.cons (Obl.plain rfl rfl fun R' w' hw hs hd => by have a0 : R' 0 = v0 := (hs 0 rfl).trans h0; exact of_move a0) <|
        Obls.cons (Obl.plain rfl rfl fun R' w' hw hs hd => by have a0 : R' 7 = v0 := hd 0 _ _ _ rfl rfl rfl rfl rfl; exact of_len_vec (hO.ok 0 _ rfl).1 a0 Tryd.underlying30) <|
        Obls.cons (Obl.plain rfl rfl fun R' w' hw hs hd => by have a0 : R' 6 = .int .i64 y5 := hd 0 _ _ _ rfl rfl rfl rfl rfl; have a1 : R' 8 = .int .i64 (y6.length : Int) := hd 1 _ _ _ rfl rfl rfl rfl rfl; exact of_lss a0 a1) <|
        Obls.nil
    intro R w hw hs hF'
    replace h0 : R 0 = v0 := (hs 0 rfl).trans h0
    replace h1 : R 1 = .int .i64 y4 := (hs 1 rfl).trans h1
    replace h5 : R 5 = .int .i64 y5 := (hs 5 rfl).trans h5
    have h9 : R 9 = .bool (decide (y5 < (y6.length : Int))) := hF' 3 _ _ rfl rfl rfl
    replace hO := hO.fr hw
    replace hA := hA.fr hw.size
    replace hF := hF.tr (hw.ch noB) fun _ h => False.elim h
    clear hs hF' hw
    refine seqR_nil ?_
    refine HT.cond (decide (y5 < (y6.length : Int))) h9 (fun c7 => ?_) (fun c7 => ?_)
    · have hr := cnd_t c7 hr
      refine HT.skip ?_
      refine HT.seq ?_
      refine HT.block ?_
      refine HT.seq ?_
      obtain ⟨e8, hr⟩ := ck_some hr
      refine HT.textR [ob v0 (.vec B0 36 E_impl_Test y6)] (⟨_, true, [], none, true, fun A => .raw v0⟩ :: ⟨_, true, [], none, true, fun A => .raw (.int .i64 y5)⟩ :: ⟨_, true, [], none, true, fun A => .raw (.int .i64 y4)⟩ :: ⟨_, true, [], none, true, fun A => .raw (vptr v0 (y5.toNat * 3))⟩ :: ⟨_, true, [], none, true, fun A => .raw (vptr v0 (y5.toNat * 3 + 0))⟩ :: ⟨_, true, [0], some (.vec B0 36 E_impl_Test (y6.set y5.toNat (y4, (gtD y6 y5).2.1, (gtD y6 y5).2.2))), false, fun A => .any⟩ :: []) (by kernel_rfl) (by kernel_rfl) (Wf.mk' (by kernel_rfl) (UAll.cons ust_raw (UAll.cons ust_raw (UAll.cons ust_raw (UAll.cons ust_raw (UAll.cons ust_raw (UAll.cons ust_any (UAll.nil))))))) (by kernel_rfl) (by kernel_rfl)) hO hA ?_ ?_
      · exact
          OblsR.cons (OblR.plain rfl rfl rfl rfl fun A' R' w' ho hd => by have a0 : R' 0 = v0 := (ho.old 0 rfl).trans h0; exact of_move a0) <|
          OblsR.cons (OblR.plain rfl rfl rfl rfl fun A' R' w' ho hd => by have a0 : R' 5 = .int .i64 y5 := (ho.old 5 rfl).trans h5; exact of_move a0) <|
          OblsR.cons (OblR.plain rfl rfl rfl rfl fun A' R' w' ho hd => by have a0 : R' 1 = .int .i64 y4 := (ho.old 1 rfl).trans h1; exact of_move a0) <|
          OblsR.cons (OblR.plain rfl rfl rfl rfl fun A' R' w' ho hd => by have a0 : R' 12 = v0 := hd 0 _ _ _ rfl rfl rfl rfl rfl; have a1 : R' 13 = .int .i64 y5 := hd 1 _ _ _ rfl rfl rfl rfl rfl; exact of_indexAddr_vec (hO.ok 0 _ rfl).1 a0 a1 Tryd.underlying30 Tryd.sizeOf36 e8 rfl) <|
          OblsR.cons (OblR.plain rfl rfl rfl rfl fun A' R' w' ho hd => by have a0 : R' 15 = (vptr v0 (y5.toNat * 3)) := hd 0 _ _ _ rfl rfl rfl rfl rfl; exact of_fieldAddr_vec (ho.rd 0 _ rfl rfl) (inR_ne e8) a0 ff_36_0 Tryd.sizeOf3 (by decide) rfl) <|
          OblsR.cons (OblR.took 0 _ _ rfl rfl rfl rfl rfl fun A' R' w' ho hd u hok hav hin hop hds => by have a0 : R' 16 = (vptr v0 (y5.toNat * 3 + 0)) := hd 0 _ _ _ rfl rfl rfl rfl rfl; have a1 : R' 14 = .int .i64 y4 := hd 1 _ _ _ rfl rfl rfl rfl rfl; obtain rfl := hin _ rfl; exact took_vstore (rep_int.eq a1) hok hav a0 e8 rfl fs_impl_Test_0 Tryd.sizeOf3 rfl) <|
          OblsR.nil
      intro done ρ σ A R w hdn hI
      replace h0 : R 0 = v0 := (hI.reg rfl).trans h0
      replace h1 : R 1 = .int .i64 y4 := (hI.reg rfl).trans h1
      replace h5 : R 5 = .int .i64 y5 := (hI.reg rfl).trans h5
      have z9 := hI.inivR 0 rfl
      have z10 := (hI.opnR hdn 6 5 rfl rfl rfl rfl rfl).trans z9
      replace hAA := hI.lowK hAA hA0 hN (hO.geK (⟨.inr (fun k h => .inr h), trivial⟩))
      replace hF : Ch (ownsB v0) w0 w := hF.tr hI.ch (hO.geK (⟨.inr (fun k h => .inr h), trivial⟩))
      replace hO : IniOK [ob v0 (.vec B0 36 E_impl_Test (y6.set y5.toNat (y4, (gtD y6 y5).2.1, (gtD y6 y5).2.2)))] A w := hI.left hdn [(6, ob v0 (.vec B0 36 E_impl_Test (y6.set y5.toNat (y4, (gtD y6 y5).2.1, (gtD y6 y5).2.2))))] ⟨rfl, rfl, z10, rfl, rfl, trivial⟩
      replace hA := hI.avok
      clear hI
      refine HT.seq ?_
      obtain ⟨e11, hr⟩ := ck_some hr
      refine HT.text (l := ⟨_, true, .raw (.int .i64 y4)⟩ :: ⟨_, true, .raw (.int .i64 (y4 + (1 : Int)))⟩ :: ⟨_, true, .raw (.int .i64 (y4 + (1 : Int)))⟩ :: []) (tl := []) (by kernel_rfl) (by kernel_rfl) (by kernel_rfl) ?_ ?_
      · exact
          Obls.cons (Obl.plain rfl rfl fun R' w' hw hs hd => by have a0 : R' 1 = .int .i64 y4 := (hs 1 rfl).trans h1; exact of_move a0) <|
          Obls.cons (Obl.plain rfl rfl fun R' w' hw hs hd => by have a0 : R' 17 = .int .i64 y4 := hd 0 _ _ _ rfl rfl rfl rfl rfl; exact of_add a0 rfl e11) <|
          Obls.cons (Obl.plain rfl rfl fun R' w' hw hs hd => by have a0 : R' 18 = .int .i64 (y4 + (1 : Int)) := hd 0 _ _ _ rfl rfl rfl rfl rfl; exact of_assign a0) <|
          Obls.nil
      intro R w hw hs hF'
      replace h0 : R 0 = v0 := (hs 0 rfl).trans h0
      replace h5 : R 5 = .int .i64 y5 := (hs 5 rfl).trans h5
      have h1 : R 1 = .int .i64 (y4 + (1 : Int)) := hF' 2 _ _ rfl rfl rfl
      replace hO := hO.fr hw
      replace hA := hA.fr hw.size
      replace hF := hF.tr (hw.ch noB) fun _ h => False.elim h
      clear hs hF' hw
      refine seqR_nil ?_
      refine HT.seq ?_
      obtain ⟨e12, hr⟩ := ck_some hr
      refine HT.textR [ob v0 (.vec B0 36 E_impl_Test (y6.set y5.toNat (y4, (gtD y6 y5).2.1, (gtD y6 y5).2.2)))] (⟨_, true, [], none, true, fun A => .raw v0⟩ :: ⟨_, true, [], none, true, fun A => .raw (.int .i64 y5)⟩ :: ⟨_, true, [], none, true, fun A => .raw (.int .i64 (y4 + (1 : Int)))⟩ :: ⟨_, true, [], none, true, fun A => .raw (vptr v0 (y5.toNat * 3))⟩ :: ⟨_, true, [], none, true, fun A => .raw (vptr v0 (y5.toNat * 3 + 1))⟩ :: ⟨_, true, [0], some (.vec B0 36 E_impl_Test ((y6.set y5.toNat (y4, (gtD y6 y5).2.1, (gtD y6 y5).2.2)).set y5.toNat ((gtD (y6.set y5.toNat (y4, (gtD y6 y5).2.1, (gtD y6 y5).2.2)) y5).1, (y4 + (1 : Int)), (gtD (y6.set y5.toNat (y4, (gtD y6 y5).2.1, (gtD y6 y5).2.2)) y5).2.2))), false, fun A => .any⟩ :: []) (by kernel_rfl) (by kernel_rfl) (Wf.mk' (by kernel_rfl) (UAll.cons ust_raw (UAll.cons ust_raw (UAll.cons ust_raw (UAll.cons ust_raw (UAll.cons ust_raw (UAll.cons ust_any (UAll.nil))))))) (by kernel_rfl) (by kernel_rfl)) hO hA ?_ ?_
      · exact
          OblsR.cons (OblR.plain rfl rfl rfl rfl fun A' R' w' ho hd => by have a0 : R' 0 = v0 := (ho.old 0 rfl).trans h0; exact of_move a0) <|
          OblsR.cons (OblR.plain rfl rfl rfl rfl fun A' R' w' ho hd => by have a0 : R' 5 = .int .i64 y5 := (ho.old 5 rfl).trans h5; exact of_move a0) <|
          OblsR.cons (OblR.plain rfl rfl rfl rfl fun A' R' w' ho hd => by have a0 : R' 1 = .int .i64 (y4 + (1 : Int)) := (ho.old 1 rfl).trans h1; exact of_move a0) <|
          OblsR.cons (OblR.plain rfl rfl rfl rfl fun A' R' w' ho hd => by have a0 : R' 19 = v0 := hd 0 _ _ _ rfl rfl rfl rfl rfl; have a1 : R' 20 = .int .i64 y5 := hd 1 _ _ _ rfl rfl rfl rfl rfl; exact of_indexAddr_vec (hO.ok 0 _ rfl).1 a0 a1 Tryd.underlying30 Tryd.sizeOf36 e12 rfl) <|
          OblsR.cons (OblR.plain rfl rfl rfl rfl fun A' R' w' ho hd => by have a0 : R' 22 = (vptr v0 (y5.toNat * 3)) := hd 0 _ _ _ rfl rfl rfl rfl rfl; exact of_fieldAddr_vec (ho.rd 0 _ rfl rfl) (inR_ne e12) a0 ff_36_1 Tryd.sizeOf3 (by decide) rfl) <|
          OblsR.cons (OblR.took 0 _ _ rfl rfl rfl rfl rfl fun A' R' w' ho hd u hok hav hin hop hds => by have a0 : R' 23 = (vptr v0 (y5.toNat * 3 + 1)) := hd 0 _ _ _ rfl rfl rfl rfl rfl; have a1 : R' 21 = .int .i64 (y4 + (1 : Int)) := hd 1 _ _ _ rfl rfl rfl rfl rfl; obtain rfl := hin _ rfl; exact took_vstore (rep_int.eq a1) hok hav a0 e12 rfl fs_impl_Test_1 Tryd.sizeOf3 rfl) <|
          OblsR.nil
      intro done ρ σ A R w hdn hI
      replace h0 : R 0 = v0 := (hI.reg rfl).trans h0
      replace h1 : R 1 = .int .i64 (y4 + (1 : Int)) := (hI.reg rfl).trans h1
      replace h5 : R 5 = .int .i64 y5 := (hI.reg rfl).trans h5
      have z13 := hI.inivR 0 rfl
      have z14 := (hI.opnR hdn 6 5 rfl rfl rfl rfl rfl).trans z13
      replace hAA := hI.lowK hAA hA0 hN (hO.geK (⟨.inr (fun k h => .inr h), trivial⟩))
      replace hF : Ch (ownsB v0) w0 w := hF.tr hI.ch (hO.geK (⟨.inr (fun k h => .inr h), trivial⟩))
      replace hO : IniOK [ob v0 (.vec B0 36 E_impl_Test ((y6.set y5.toNat (y4, (gtD y6 y5).2.1, (gtD y6 y5).2.2)).set y5.toNat ((gtD (y6.set y5.toNat (y4, (gtD y6 y5).2.1, (gtD y6 y5).2.2)) y5).1, (y4 + (1 : Int)), (gtD (y6.set y5.toNat (y4, (gtD y6 y5).2.1, (gtD y6 y5).2.2)) y5).2.2)))] A w := hI.left hdn [(6, ob v0 (.vec B0 36 E_impl_Test ((y6.set y5.toNat (y4, (gtD y6 y5).2.1, (gtD y6 y5).2.2)).set y5.toNat ((gtD (y6.set y5.toNat (y4, (gtD y6 y5).2.1, (gtD y6 y5).2.2)) y5).1, (y4 + (1 : Int)), (gtD (y6.set y5.toNat (y4, (gtD y6 y5).2.1, (gtD y6 y5).2.2)) y5).2.2))))] ⟨rfl, rfl, z14, rfl, rfl, trivial⟩
      replace hA := hI.avok
      clear hI
      refine HT.seq ?_
      obtain ⟨e15, hr⟩ := ck_some hr
      refine HT.text (l := ⟨_, true, .raw (.int .i64 (y4 + (1 : Int)))⟩ :: ⟨_, true, .raw (.int .i64 ((y4 + (1 : Int)) + (1 : Int)))⟩ :: ⟨_, true, .raw (.int .i64 ((y4 + (1 : Int)) + (1 : Int)))⟩ :: []) (tl := []) (by kernel_rfl) (by kernel_rfl) (by kernel_rfl) ?_ ?_
      · exact
          Obls.cons (Obl.plain rfl rfl fun R' w' hw hs hd => by have a0 : R' 1 = .int .i64 (y4 + (1 : Int)) := (hs 1 rfl).trans h1; exact of_move a0) <|
          Obls.cons (Obl.plain rfl rfl fun R' w' hw hs hd => by have a0 : R' 24 = .int .i64 (y4 + (1 : Int)) := hd 0 _ _ _ rfl rfl rfl rfl rfl; exact of_add a0 rfl e15) <|
          Obls.cons (Obl.plain rfl rfl fun R' w' hw hs hd => by have a0 : R' 25 = .int .i64 ((y4 + (1 : Int)) + (1 : Int)) := hd 0 _ _ _ rfl rfl rfl rfl rfl; exact of_assign a0) <|
          Obls.nil
      intro R w hw hs hF'
      replace h0 : R 0 = v0 := (hs 0 rfl).trans h0
      replace h5 : R 5 = .int .i64 y5 := (hs 5 rfl).trans h5
      have h1 : R 1 = .int .i64 ((y4 + (1 : Int)) + (1 : Int)) := hF' 2 _ _ rfl rfl rfl
      replace hO := hO.fr hw
      replace hA := hA.fr hw.size
      replace hF := hF.tr (hw.ch noB) fun _ h => False.elim h
      clear hs hF' hw
      refine seqR_nil ?_
      refine HT.seq ?_
      obtain ⟨e16, hr⟩ := ck_some hr
      obtain ⟨e17, hr⟩ := ck_some hr
      refine HT.textR [ob v0 (.vec B0 36 E_impl_Test ((y6.set y5.toNat (y4, (gtD y6 y5).2.1, (gtD y6 y5).2.2)).set y5.toNat ((gtD (y6.set y5.toNat (y4, (gtD y6 y5).2.1, (gtD y6 y5).2.2)) y5).1, (y4 + (1 : Int)), (gtD (y6.set y5.toNat (y4, (gtD y6 y5).2.1, (gtD y6 y5).2.2)) y5).2.2)))] (⟨_, true, [], none, true, fun A => .raw v0⟩ :: ⟨_, true, [], none, true, fun A => .raw (.int .i64 y5)⟩ :: ⟨_, true, [], none, true, fun A => .raw (.int .i64 ((y4 + (1 : Int)) + (1 : Int)))⟩ :: ⟨_, true, [], none, true, fun A => .raw (.int .i64 (((y4 + (1 : Int)) + (1 : Int)).tmod (3 : Int)))⟩ :: ⟨_, true, [], none, true, fun A => .raw (.bool ((((y4 + (1 : Int)) + (1 : Int)).tmod (3 : Int)) == (0 : Int)))⟩ :: ⟨_, true, [], none, true, fun A => .raw (vptr v0 (y5.toNat * 3))⟩ :: ⟨_, true, [], none, true, fun A => .raw (vptr v0 (y5.toNat * 3 + 2))⟩ :: ⟨_, true, [0], some (.vec B0 36 E_impl_Test (((y6.set y5.toNat (y4, (gtD y6 y5).2.1, (gtD y6 y5).2.2)).set y5.toNat ((gtD (y6.set y5.toNat (y4, (gtD y6 y5).2.1, (gtD y6 y5).2.2)) y5).1, (y4 + (1 : Int)), (gtD (y6.set y5.toNat (y4, (gtD y6 y5).2.1, (gtD y6 y5).2.2)) y5).2.2)).set y5.toNat ((gtD ((y6.set y5.toNat (y4, (gtD y6 y5).2.1, (gtD y6 y5).2.2)).set y5.toNat ((gtD (y6.set y5.toNat (y4, (gtD y6 y5).2.1, (gtD y6 y5).2.2)) y5).1, (y4 + (1 : Int)), (gtD (y6.set y5.toNat (y4, (gtD y6 y5).2.1, (gtD y6 y5).2.2)) y5).2.2)) y5).1, (gtD ((y6.set y5.toNat (y4, (gtD y6 y5).2.1, (gtD y6 y5).2.2)).set y5.toNat ((gtD (y6.set y5.toNat (y4, (gtD y6 y5).2.1, (gtD y6 y5).2.2)) y5).1, (y4 + (1 : Int)), (gtD (y6.set y5.toNat (y4, (gtD y6 y5).2.1, (gtD y6 y5).2.2)) y5).2.2)) y5).2.1, ((((y4 + (1 : Int)) + (1 : Int)).tmod (3 : Int)) == (0 : Int))))), false, fun A => .any⟩ :: []) (by kernel_rfl) (by kernel_rfl) (Wf.mk' (by kernel_rfl) (UAll.cons ust_raw (UAll.cons ust_raw (UAll.cons ust_raw (UAll.cons ust_raw (UAll.cons ust_raw (UAll.cons ust_raw (UAll.cons ust_raw (UAll.cons ust_any (UAll.nil))))))))) (by kernel_rfl) (by kernel_rfl)) hO hA ?_ ?_
      · exact
          OblsR.cons (OblR.plain rfl rfl rfl rfl fun A' R' w' ho hd => by have a0 : R' 0 = v0 := (ho.old 0 rfl).trans h0; exact of_move a0) <|
          OblsR.cons (OblR.plain rfl rfl rfl rfl fun A' R' w' ho hd => by have a0 : R' 5 = .int .i64 y5 := (ho.old 5 rfl).trans h5; exact of_move a0) <|
          OblsR.cons (OblR.plain rfl rfl rfl rfl fun A' R' w' ho hd => by have a0 : R' 1 = .int .i64 ((y4 + (1 : Int)) + (1 : Int)) := (ho.old 1 rfl).trans h1; exact of_move a0) <|
          OblsR.cons (OblR.plain rfl rfl rfl rfl fun A' R' w' ho hd => by have a0 : R' 28 = .int .i64 ((y4 + (1 : Int)) + (1 : Int)) := hd 0 _ _ _ rfl rfl rfl rfl rfl; exact of_rem a0 rfl e16) <|
          OblsR.cons (OblR.plain rfl rfl rfl rfl fun A' R' w' ho hd => by have a0 : R' 29 = .int .i64 (((y4 + (1 : Int)) + (1 : Int)).tmod (3 : Int)) := hd 0 _ _ _ rfl rfl rfl rfl rfl; exact of_eql a0 rfl) <|
          OblsR.cons (OblR.plain rfl rfl rfl rfl fun A' R' w' ho hd => by have a0 : R' 26 = v0 := hd 0 _ _ _ rfl rfl rfl rfl rfl; have a1 : R' 27 = .int .i64 y5 := hd 1 _ _ _ rfl rfl rfl rfl rfl; exact of_indexAddr_vec (hO.ok 0 _ rfl).1 a0 a1 Tryd.underlying30 Tryd.sizeOf36 e17 rfl) <|
          OblsR.cons (OblR.plain rfl rfl rfl rfl fun A' R' w' ho hd => by have a0 : R' 31 = (vptr v0 (y5.toNat * 3)) := hd 0 _ _ _ rfl rfl rfl rfl rfl; exact of_fieldAddr_vec (ho.rd 0 _ rfl rfl) (inR_ne e17) a0 ff_36_2 Tryd.sizeOf4 (by decide) rfl) <|
          OblsR.cons (OblR.took 0 _ _ rfl rfl rfl rfl rfl fun A' R' w' ho hd u hok hav hin hop hds => by have a0 : R' 32 = (vptr v0 (y5.toNat * 3 + 2)) := hd 0 _ _ _ rfl rfl rfl rfl rfl; have a1 : R' 30 = .bool ((((y4 + (1 : Int)) + (1 : Int)).tmod (3 : Int)) == (0 : Int)) := hd 1 _ _ _ rfl rfl rfl rfl rfl; obtain rfl := hin _ rfl; exact took_vstore (rep_bool.eq a1) hok hav a0 e17 rfl fs_impl_Test_2 Tryd.sizeOf4 rfl) <|
          OblsR.nil
      intro done ρ σ A R w hdn hI
      replace h0 : R 0 = v0 := (hI.reg rfl).trans h0
      replace h1 : R 1 = .int .i64 ((y4 + (1 : Int)) + (1 : Int)) := (hI.reg rfl).trans h1
      replace h5 : R 5 = .int .i64 y5 := (hI.reg rfl).trans h5
      have z18 := hI.inivR 0 rfl
      have z19 := (hI.opnR hdn 8 7 rfl rfl rfl rfl rfl).trans z18
      replace hAA := hI.lowK hAA hA0 hN (hO.geK (⟨.inr (fun k h => .inr h), trivial⟩))
      replace hF : Ch (ownsB v0) w0 w := hF.tr hI.ch (hO.geK (⟨.inr (fun k h => .inr h), trivial⟩))
      replace hO : IniOK [ob v0 (.vec B0 36 E_impl_Test (((y6.set y5.toNat (y4, (gtD y6 y5).2.1, (gtD y6 y5).2.2)).set y5.toNat ((gtD (y6.set y5.toNat (y4, (gtD y6 y5).2.1, (gtD y6 y5).2.2)) y5).1, (y4 + (1 : Int)), (gtD (y6.set y5.toNat (y4, (gtD y6 y5).2.1, (gtD y6 y5).2.2)) y5).2.2)).set y5.toNat ((gtD ((y6.set y5.toNat (y4, (gtD y6 y5).2.1, (gtD y6 y5).2.2)).set y5.toNat ((gtD (y6.set y5.toNat (y4, (gtD y6 y5).2.1, (gtD y6 y5).2.2)) y5).1, (y4 + (1 : Int)), (gtD (y6.set y5.toNat (y4, (gtD y6 y5).2.1, (gtD y6 y5).2.2)) y5).2.2)) y5).1, (gtD ((y6.set y5.toNat (y4, (gtD y6 y5).2.1, (gtD y6 y5).2.2)).set y5.toNat ((gtD (y6.set y5.toNat (y4, (gtD y6 y5).2.1, (gtD y6 y5).2.2)) y5).1, (y4 + (1 : Int)), (gtD (y6.set y5.toNat (y4, (gtD y6 y5).2.1, (gtD y6 y5).2.2)) y5).2.2)) y5).2.1, ((((y4 + (1 : Int)) + (1 : Int)).tmod (3 : Int)) == (0 : Int)))))] A w := hI.left hdn [(8, ob v0 (.vec B0 36 E_impl_Test (((y6.set y5.toNat (y4, (gtD y6 y5).2.1, (gtD y6 y5).2.2)).set y5.toNat ((gtD (y6.set y5.toNat (y4, (gtD y6 y5).2.1, (gtD y6 y5).2.2)) y5).1, (y4 + (1 : Int)), (gtD (y6.set y5.toNat (y4, (gtD y6 y5).2.1, (gtD y6 y5).2.2)) y5).2.2)).set y5.toNat ((gtD ((y6.set y5.toNat (y4, (gtD y6 y5).2.1, (gtD y6 y5).2.2)).set y5.toNat ((gtD (y6.set y5.toNat (y4, (gtD y6 y5).2.1, (gtD y6 y5).2.2)) y5).1, (y4 + (1 : Int)), (gtD (y6.set y5.toNat (y4, (gtD y6 y5).2.1, (gtD y6 y5).2.2)) y5).2.2)) y5).1, (gtD ((y6.set y5.toNat (y4, (gtD y6 y5).2.1, (gtD y6 y5).2.2)).set y5.toNat ((gtD (y6.set y5.toNat (y4, (gtD y6 y5).2.1, (gtD y6 y5).2.2)) y5).1, (y4 + (1 : Int)), (gtD (y6.set y5.toNat (y4, (gtD y6 y5).2.1, (gtD y6 y5).2.2)) y5).2.2)) y5).2.1, ((((y4 + (1 : Int)) + (1 : Int)).tmod (3 : Int)) == (0 : Int))))))] ⟨rfl, rfl, z19, rfl, rfl, trivial⟩
      replace hA := hI.avok
      clear hI
      obtain ⟨e20, hr⟩ := ck_some hr
      refine HT.text (l := ⟨_, true, .raw (.int .i64 ((y4 + (1 : Int)) + (1 : Int)))⟩ :: ⟨_, true, .raw (.int .i64 (((y4 + (1 : Int)) + (1 : Int)) + (1 : Int)))⟩ :: ⟨_, true, .raw (.int .i64 (((y4 + (1 : Int)) + (1 : Int)) + (1 : Int)))⟩ :: []) (tl := []) (by kernel_rfl) (by kernel_rfl) (by kernel_rfl) ?_ ?_
      · exact
          Obls.cons (Obl.plain rfl rfl fun R' w' hw hs hd => by have a0 : R' 1 = .int .i64 ((y4 + (1 : Int)) + (1 : Int)) := (hs 1 rfl).trans h1; exact of_move a0) <|
          Obls.cons (Obl.plain rfl rfl fun R' w' hw hs hd => by have a0 : R' 33 = .int .i64 ((y4 + (1 : Int)) + (1 : Int)) := hd 0 _ _ _ rfl rfl rfl rfl rfl; exact of_add a0 rfl e20) <|
          Obls.cons (Obl.plain rfl rfl fun R' w' hw hs hd => by have a0 : R' 34 = .int .i64 (((y4 + (1 : Int)) + (1 : Int)) + (1 : Int)) := hd 0 _ _ _ rfl rfl rfl rfl rfl; exact of_assign a0) <|
          Obls.nil
      intro R w hw hs hF'
      replace h0 : R 0 = v0 := (hs 0 rfl).trans h0
      replace h5 : R 5 = .int .i64 y5 := (hs 5 rfl).trans h5
      have h1 : R 1 = .int .i64 (((y4 + (1 : Int)) + (1 : Int)) + (1 : Int)) := hF' 2 _ _ rfl rfl rfl
      replace hO := hO.fr hw
      replace hA := hA.fr hw.size
      replace hF := hF.tr (hw.ch noB) fun _ h => False.elim h
      clear hs hF' hw
      refine seqR_nil ?_
      obtain ⟨e21, hr⟩ := ck_some hr
      refine HT.text (l := ⟨_, true, .raw (.int .i64 y5)⟩ :: ⟨_, true, .raw (.int .i64 (y5 + (1 : Int)))⟩ :: ⟨_, true, .raw (.int .i64 (y5 + (1 : Int)))⟩ :: []) (tl := []) (by kernel_rfl) (by kernel_rfl) (by kernel_rfl) ?_ ?_
      · exact
          Obls.cons (Obl.plain rfl rfl fun R' w' hw hs hd => by have a0 : R' 5 = .int .i64 y5 := (hs 5 rfl).trans h5; exact of_move a0) <|
          Obls.cons (Obl.plain rfl rfl fun R' w' hw hs hd => by have a0 : R' 10 = .int .i64 y5 := hd 0 _ _ _ rfl rfl rfl rfl rfl; exact of_add a0 rfl e21) <|
          Obls.cons (Obl.plain rfl rfl fun R' w' hw hs hd => by have a0 : R' 11 = .int .i64 (y5 + (1 : Int)) := hd 0 _ _ _ rfl rfl rfl rfl rfl; exact of_assign a0) <|
          Obls.nil
      intro R w hw hs hF'
      replace h0 : R 0 = v0 := (hs 0 rfl).trans h0
      replace h1 : R 1 = .int .i64 (((y4 + (1 : Int)) + (1 : Int)) + (1 : Int)) := (hs 1 rfl).trans h1
      have h5 : R 5 = .int .i64 (y5 + (1 : Int)) := hF' 2 _ _ rfl rfl rfl
      replace hO := hO.fr hw
      replace hA := hA.fr hw.size
      replace hF := hF.tr (hw.ch noB) fun _ h => False.elim h
      clear hs hF' hw
      refine seqR_nil ?_
      exact Exists.intro k (And.intro (Nat.lt_succ_self k) ⟨_, _, _, _, hr, hA, hF, hAA, hO, h0, h1, h5⟩)
    · have hr := cnd_f c7 hr
      refine HT.exit ?_
      obtain rfl := Option.some.inj hr
      exact Exists.intro _ ⟨_, rfl, hA, hF, hAA, hO, h1⟩
  rintro R w ⟨A, s3, es, hA, hF, hAA, hO, h1⟩
  obtain rfl := es.symm
  refine HT.seq ?_
  refine HT.text (l := ⟨_, true, .raw (.int .i64 s3.1)⟩ :: ⟨_, true, .raw (.int .i64 s3.1)⟩ :: []) (tl := []) (by kernel_rfl) (by kernel_rfl) (by kernel_rfl) ?_ ?_
  · exact
      Obls.cons (Obl.plain rfl rfl fun R' w' hw hs hd => by have a0 : R' 1 = .int .i64 s3.1 := (hs 1 rfl).trans h1; exact of_move a0) <|
      Obls.cons (Obl.plain rfl rfl fun R' w' hw hs hd => by have a0 : R' 35 = .int .i64 s3.1 := hd 0 _ _ _ rfl rfl rfl rfl rfl; exact of_assign a0) <|
      Obls.nil
  intro R w hw hs hF'
  have h4 : R 4 = .int .i64 s3.1 := hF' 1 _ _ rfl rfl rfl
  replace hO := hO.fr hw
  replace hA := hA.fr hw.size
  replace hF := hF.tr (hw.ch noB) fun _ h => False.elim h
  clear hs hF' hw
  refine seqR_nil ?_
  refine HT.ret ?_
  obtain rfl := Option.some.inj hr
  exact ⟨.inr rfl, [R 4], ⟨rfl, trivial⟩, h4, Vec.flat (hO.ok 0 _ rfl).1 (fun _ _ _ _ _ h => h), hF⟩
def M_laws_markRuleS_L0 (fu : Nat) : Nat → Int → Int → (List T_impl_Rule) → Option (Int × (List T_impl_Rule))
  | 0, _, _, _ => none
  | k + 1, y4, y5, y6 =>
    bif (decide (y5 < (y6.length : Int))) then (
      ck (inR y5 y6.length) <|
      cl true (M_laws_markTestS fu (gtD y6 y5) y4) fun x11 =>
      ck (i64B (y5 + (1 : Int))) <|
      M_laws_markRuleS_L0 fu k x11.1 (y5 + (1 : Int)) (y6.set y5.toNat x11.2)
    ) else (
      some (y4, y6)
    )
def M_laws_markRuleS (fu : Nat) (p0 : List T_impl_Rule) (p1 : Int) : Option (Int × List T_impl_Rule) :=
  cl true (M_laws_markRuleS_L0 fu fu p1 (0 : Int) p0) fun s3 =>
  some (s3.1, s3.2)
set_option maxRecDepth 100000 in
set_option maxHeartbeats 4000000 in
theorem M_laws_markRuleS_ok {fu : Nat} {A0 : Av} {p0 : List T_impl_Rule} {p1 : Int} {r : Int × List T_impl_Rule} (hr : M_laws_markRuleS fu p0 p1 = some r) {w : World} {v0 : Value} {v1 : Value} {S0 : Nat → Prop} (hA : AvOK A0 w) (hN : ∀ b o, A0 b o → ¬ S0 b) (h0 : (trP (oSl 32 (oBx (oSl 36 (oRd E_impl_Test)))) p0 []).P (addS A0 S0) w S0 v0) (h1 : v1 = .int .i64 p1) :
    Calls Tryd.prog 16 #[v0, v1] w fun e w' => ∃ v, e = .returned v ∧ (v = .int .i64 r.1 ∧ Gave (oSl 32 (oBx (oSl 36 (oRd E_impl_Test)))) A0 S0 w v0 r.2 w') := by
  unfold M_laws_markRuleS at hr
  obtain ⟨w0, hw0⟩ : ∃ w0, w0 = w := ⟨_, rfl⟩
  have hF : Ch S0 w0 w := hw0 ▸ Ch.refl _ _
  have hA0 : ∀ b o, A0 b o → b < w0.heap.size := fun b o h => hw0 ▸ hA b o h
  have hA00 : AvOK A0 w0 := hA0
  rw [show Gave (oSl 32 (oBx (oSl 36 (oRd E_impl_Test)))) A0 S0 w = Gave (oSl 32 (oBx (oSl 36 (oRd E_impl_Test)))) A0 S0 w0 from hw0 ▸ rfl]
  have hw0s : w.heap.size = w0.heap.size := hw0 ▸ rfl
  clear hw0
  have hO := IniOK.oneT h0
  have hA1 := hA.oneT h0
  rw [show w.heap.size = w0.heap.size from hw0s] at hO
  obtain ⟨A, hAe⟩ : ∃ A, A = addS A0 S0 := ⟨_, rfl⟩
  have hAA : ∀ b o, A0 b o → A b o := fun b o h => hAe ▸ .inl h
  replace hA : AvOK A w := hAe ▸ hA1
  replace hO : IniOK [⟨v0, S0, trR (fun k => w0.heap.size ≤ k ∨ S0 k) (oSl 32 (oBx (oSl 36 (oRd E_impl_Test)))) p0 []⟩] A w := hAe ▸ hO
  refine calls_of_HT2 [.tmp 4] Tryd.func16 Tryd.ntmps16 (by decide) rfl rfl (Nat.le_of_ble_eq_true rfl) ?_
  intro R hR
  replace h0 : R 0 = v0 := hR 0 _ rfl
  replace h1 : R 1 = .int .i64 p1 := (hR 1 _ rfl).trans h1
  clear hR hAe
  refine HT.seq ?_
  refine HT.text (l := ⟨_, true, .raw (.int .i64 (0 : Int))⟩ :: []) (tl := []) (by kernel_rfl) (by kernel_rfl) (by kernel_rfl) ?_ ?_
  · exact
      Obls.cons (Obl.plain rfl rfl fun R' w' hw hs hd => by exact of_assign rfl) <|
      Obls.nil
  intro R w hw hs hF'
  replace h0 : R 0 = v0 := (hs 0 rfl).trans h0
  replace h1 : R 1 = .int .i64 p1 := (hs 1 rfl).trans h1
  replace hO := hO.fr hw
  replace hA := hA.fr hw.size
  replace hF := hF.tr (hw.ch noB) fun _ h => False.elim h
  clear hs hF' hw
  refine seqR_nil ?_
  refine HT.seq ?_
  refine HT.seq ?_
  refine HT.text (l := ⟨_, true, .raw (.int .i64 (0 : Int))⟩ :: []) (tl := []) (by kernel_rfl) (by kernel_rfl) (by kernel_rfl) ?_ ?_
  · exact
      Obls.cons (Obl.plain rfl rfl fun R' w' hw hs hd => by exact of_assign rfl) <|
      Obls.nil
  intro R w hw hs hF'
  replace h0 : R 0 = v0 := (hs 0 rfl).trans h0
  replace h1 : R 1 = .int .i64 p1 := (hs 1 rfl).trans h1
  have h5 : R 5 = .int .i64 (0 : Int) := hF' 0 _ _ rfl rfl rfl
  replace hO := hO.fr hw
  replace hA := hA.fr hw.size
  replace hF := hF.tr (hw.ch noB) fun _ h => False.elim h
  clear hs hF' hw
  refine seqR_nil ?_
  obtain ⟨rl1, q2, hr⟩ := cl_some hr
  replace q2 := q2 rfl
  refine HT.cut0 (fun R w => ∃ A : Av, ∃ (s3 : Int × (List T_impl_Rule)) (So_v0 : Nat → Prop), rl1 = s3 ∧ AvOK A w ∧ Ch S0 w0 w ∧ (∀ b o, A0 b o → A b o) ∧ IniOK [⟨v0, So_v0, trR (fun k => w0.heap.size ≤ k ∨ S0 k) (oSl 32 (oBx (oSl 36 (oRd E_impl_Test)))) s3.2 []⟩] A w ∧ R 1 = .int .i64 s3.1) ?_ ?_
  · refine HT.block ?_
    refine HT.loop (fun k R w => ∃ A : Av, ∃ (y4 : Int) (y5 : Int) (y6 : List T_impl_Rule) (Sl_v0 : Nat → Prop), M_laws_markRuleS_L0 fu k y4 y5 y6 = some rl1 ∧ AvOK A w ∧ Ch S0 w0 w ∧ (∀ b o, A0 b o → A b o) ∧ IniOK [⟨v0, Sl_v0, trR (fun k => w0.heap.size ≤ k ∨ S0 k) (oSl 32 (oBx (oSl 36 (oRd E_impl_Test)))) y6 []⟩] A w ∧ R 0 = v0 ∧ R 1 = .int .i64 y4 ∧ R 5 = .int .i64 y5) fu ⟨_, _, _, _, S0, q2, hA, hF, hAA, hO, h0, h1, h5⟩ ?_
    have hr0 := hr; clear hr q2
    rintro k R w ⟨A, y4, y5, y6, Sl_v0, hr, hA, hF, hAA, hO, h0, h1, h5⟩
    rcases k with _ | k
    · cases (show none = some _ from hr)
    rw [M_laws_markRuleS_L0] at hr
    refine HT.seq ?_
    refine HT.seq ?_
    refine HT.text (l := ⟨_, true, .raw (.int .i64 y5)⟩ :: ⟨_, true, .raw v0⟩ :: ⟨_, true, .raw (.int .i64 (y6.length : Int))⟩ :: ⟨_, true, .raw (.bool (decide (y5 < (y6.length : Int))))⟩ :: []) (tl := []) (by kernel_rfl) (by kernel_rfl) (by kernel_rfl) ?_ ?_
    · exact
        Obls.cons (Obl.plain rfl rfl fun R' w' hw hs hd => by have a0 : R' 5 = .int .i64 y5 := (hs 5 rfl).trans h5; exact of_move a0) <|
        Obls.cons (Obl.plain rfl rfl fun R' w' hw hs hd => by have a0 : R' 0 = v0 := (hs 0 rfl).trans h0; exact of_move a0) <|
        Obls.cons (Obl.plain rfl rfl fun R' w' hw hs hd => by have a0 : R' 7 = v0 := hd 0 _ _ _ rfl rfl rfl rfl rfl; exact of_len_tr (tr_root (hO.own 0 _ rfl).2) a0 Tryd.underlying22) <|
        Obls.cons (Obl.plain rfl rfl fun R' w' hw hs hd => by have a0 : R' 6 = .int .i64 y5 := hd 0 _ _ _ rfl rfl rfl rfl rfl; have a1 : R' 8 = .int .i64 (y6.length : Int) := hd 1 _ _ _ rfl rfl rfl rfl rfl; exact of_lss a0 a1) <|
        Obls.nil
    intro R w hw hs hF'
    replace h0 : R 0 = v0 := (hs 0 rfl).trans h0
    replace h1 : R 1 = .int .i64 y4 := (hs 1 rfl).trans h1
    replace h5 : R 5 = .int .i64 y5 := (hs 5 rfl).trans h5
    have h9 : R 9 = .bool (decide (y5 < (y6.length : Int))) := hF' 3 _ _ rfl rfl rfl
    replace hO := hO.fr hw
    replace hA := hA.fr hw.size
    replace hF := hF.tr (hw.ch noB) fun _ h => False.elim h
    clear hs hF' hw
    refine seqR_nil ?_
    refine HT.cond (decide (y5 < (y6.length : Int))) h9 (fun c7 => ?_) (fun c7 => ?_)
    · have hr := cnd_t c7 hr
      refine HT.skip ?_
      refine HT.seq ?_
      refine HT.block ?_
      obtain ⟨e8, hr⟩ := ck_some hr
      obtain ⟨h9, p_h9⟩ := ((((tr_root (hO.own 0 _ rfl).2).elem e8 rfl)).bx).open1 rfl
      replace hO : IniOK [⟨v0, Sl_v0, trR (fun k => w0.heap.size ≤ k ∨ S0 k) (oSl 32 (oBx (oSl 36 (oRd E_impl_Test)))) y6 [((vptr v0 (y5.toNat * 1)), [h9])]⟩] A w := hO.repin 0 rfl (trP.pin p_h9)
      obtain ⟨x11, q12, hr⟩ := cl_some hr
      refine HT.textR [⟨v0, Sl_v0, trR (fun k => w0.heap.size ≤ k ∨ S0 k) (oSl 32 (oBx (oSl 36 (oRd E_impl_Test)))) y6 [((vptr v0 (y5.toNat * 1)), [h9])]⟩] (⟨_, true, [], none, true, fun A => .raw v0⟩ :: ⟨_, true, [], none, true, fun A => .raw (.int .i64 y5)⟩ :: ⟨_, true, [], none, true, fun A => .raw (vptr v0 (y5.toNat * 1))⟩ :: ⟨_, true, [], none, true, fun A => .raw (vptr v0 (y5.toNat * 1))⟩ :: ⟨_, true, [], none, true, fun A => .raw h9⟩ :: ⟨_, true, [], none, true, fun A => .raw (.int .i64 y4)⟩ :: ⟨_, true, [0], some (trR (fun k => w0.heap.size ≤ k ∨ S0 k) (oSl 32 (oBx (oSl 36 (oRd E_impl_Test)))) (y6.set y5.toNat x11.2) []), false, fun A => .raw (.int .i64 x11.1)⟩ :: ⟨_, true, [], none, true, fun A => .raw (.int .i64 x11.1)⟩ :: []) (by kernel_rfl) (by kernel_rfl) (Wf.mk' (by kernel_rfl) (UAll.cons ust_raw (UAll.cons ust_raw (UAll.cons ust_raw (UAll.cons ust_raw (UAll.cons ust_raw (UAll.cons ust_raw (UAll.cons ust_raw (UAll.cons ust_raw (UAll.nil))))))))) (by kernel_rfl) (by kernel_rfl)) hO hA ?_ ?_
      · exact
          OblsR.cons (OblR.plain rfl rfl rfl rfl fun A' R' w' ho hd => by have a0 : R' 0 = v0 := (ho.old 0 rfl).trans h0; exact of_move a0) <|
          OblsR.cons (OblR.plain rfl rfl rfl rfl fun A' R' w' ho hd => by have a0 : R' 5 = .int .i64 y5 := (ho.old 5 rfl).trans h5; exact of_move a0) <|
          OblsR.cons (OblR.plain rfl rfl rfl rfl fun A' R' w' ho hd => by have a0 : R' 12 = v0 := hd 0 _ _ _ rfl rfl rfl rfl rfl; have a1 : R' 13 = .int .i64 y5 := hd 1 _ _ _ rfl rfl rfl rfl rfl; exact of_indexAddr_tr (tr_root (hO.own 0 _ rfl).2) a0 a1 Tryd.underlying22 Tryd.sizeOf32 e8 rfl) <|
          OblsR.cons (OblR.plain rfl rfl rfl rfl fun A' R' w' ho hd => by have a0 : R' 14 = (vptr v0 (y5.toNat * 1)) := hd 0 _ _ _ rfl rfl rfl rfl rfl; exact of_fieldAddr_tr (((tr_root (hO.own 0 _ rfl).2).elem e8 rfl)).ad a0 ff_32_0 Tryd.sizeOf30 (by decide) (padd_zero (((tr_root (hO.own 0 _ rfl).2).elem e8 rfl)).ad)) <|
          OblsR.cons (OblR.plain rfl rfl rfl rfl fun A' R' w' ho hd => by have a0 : R' 15 = (vptr v0 (y5.toNat * 1)) := hd 0 _ _ _ rfl rfl rfl rfl rfl; exact of_load_pin ((ho.rdo 0 _ rfl rfl).2.2 _ (.head _)) a0 Tryd.isAgg30 Tryd.sizeOf30) <|
          OblsR.cons (OblR.plain rfl rfl rfl rfl fun A' R' w' ho hd => by have a0 : R' 1 = .int .i64 y4 := (ho.old 1 rfl).trans h1; exact of_move a0) <|
          OblsR.cons (OblR.tookS 0 _ _ rfl rfl rfl rfl rfl fun A' R' w' ho hd u S hok hown hav hin hop hds => by have a0 : R' 16 = h9 := hd 0 _ _ _ rfl rfl rfl rfl rfl; have a1 : R' 17 = .int .i64 y4 := hd 1 _ _ _ rfl rfl rfl rfl rfl; have e0 := (hin _ rfl).1; rw [e0] at hown ⊢; have hu0 : evalR R' (.tmp 16) = h9 := a0; exact took_callT Tryd.call30 (((((tr_root hown.2).elem e8 rfl)).bx).pin (hown.2.2 _ (.head _)) rfl) hav hown.1 (fun k hk => .inl (Nat.le_trans (Nat.le_trans hF.size ho.ch.size) hk)) (fun k hk => SP.lt _ hown.2 hk) (fun S1 hS1 hP => by simp only [List.map, hu0]; exact Calls.mono (M_laws_markTestS_ok (q12 rfl) (ho.av.subS _) (fun b o h hb => h.2 ((tr_ownsB (fun _ _ _ _ _ h => h) hP) ▸ hb)) (vec_of_tr (fun _ _ _ _ _ h => h) hP).1 a1) (fun _ _ ⟨v, h1, h2⟩ => ⟨v, h1, gave_of_vec (fun _ _ _ _ _ h => h) hP h2 (tr_ownsB (fun _ _ _ _ _ h => h) hP)⟩)) (fun _ _ _ h => h)) <|
          OblsR.cons (OblR.plain rfl rfl rfl rfl fun A' R' w' ho hd => by have a0 : R' 18 = .int .i64 x11.1 := hd 0 _ _ _ rfl rfl rfl rfl rfl; exact of_assign a0) <|
          OblsR.nil
      intro done ρ σ A R w hdn hI
      replace h0 : R 0 = v0 := (hI.reg rfl).trans h0
      replace h5 : R 5 = .int .i64 y5 := (hI.reg rfl).trans h5
      have z13 := hI.inivR 0 rfl
      have z14 := (hI.opnR hdn 7 6 rfl rfl rfl rfl rfl).trans z13
      obtain ⟨S15, eS_v0⟩ : ∃ S, σ 7 = S := ⟨_, rfl⟩
      have h1 : R 1 = .int .i64 x11.1 := hI.fact hdn (i := 7) rfl rfl rfl
      replace hAA := hI.lowK hAA hA0 hN (hO.geK (⟨fun _ h => h, trivial⟩))
      replace hF : Ch S0 w0 w := hF.tr hI.ch (hO.geK (⟨fun _ h => h, trivial⟩))
      replace hO : IniOK [⟨v0, S15, trR (fun k => w0.heap.size ≤ k ∨ S0 k) (oSl 32 (oBx (oSl 36 (oRd E_impl_Test)))) (y6.set y5.toNat x11.2) []⟩] A w := hI.left hdn [(7, ⟨v0, S15, trR (fun k => w0.heap.size ≤ k ∨ S0 k) (oSl 32 (oBx (oSl 36 (oRd E_impl_Test)))) (y6.set y5.toNat x11.2) []⟩)] ⟨rfl, rfl, z14, eS_v0, rfl, trivial⟩
      replace hA := hI.avok
      clear hI
      obtain ⟨e16, hr⟩ := ck_some hr
      refine HT.text (l := ⟨_, true, .raw (.int .i64 y5)⟩ :: ⟨_, true, .raw (.int .i64 (y5 + (1 : Int)))⟩ :: ⟨_, true, .raw (.int .i64 (y5 + (1 : Int)))⟩ :: []) (tl := []) (by kernel_rfl) (by kernel_rfl) (by kernel_rfl) ?_ ?_
      · exact
          Obls.cons (Obl.plain rfl rfl fun R' w' hw hs hd => by have a0 : R' 5 = .int .i64 y5 := (hs 5 rfl).trans h5; exact of_move a0) <|
          Obls.cons (Obl.plain rfl rfl fun R' w' hw hs hd => by have a0 : R' 10 = .int .i64 y5 := hd 0 _ _ _ rfl rfl rfl rfl rfl; exact of_add a0 rfl e16) <|
          Obls.cons (Obl.plain rfl rfl fun R' w' hw hs hd => by have a0 : R' 11 = .int .i64 (y5 + (1 : Int)) := hd 0 _ _ _ rfl rfl rfl rfl rfl; exact of_assign a0) <|
          Obls.nil
      intro R w hw hs hF'
      replace h0 : R 0 = v0 := (hs 0 rfl).trans h0
      replace h1 : R 1 = .int .i64 x11.1 := (hs 1 rfl).trans h1
      have h5 : R 5 = .int .i64 (y5 + (1 : Int)) := hF' 2 _ _ rfl rfl rfl
      replace hO := hO.fr hw
      replace hA := hA.fr hw.size
      replace hF := hF.tr (hw.ch noB) fun _ h => False.elim h
      clear hs hF' hw
      refine seqR_nil ?_
      exact Exists.intro k (And.intro (Nat.lt_succ_self k) ⟨_, _, _, _, S15, hr, hA, hF, hAA, hO, h0, h1, h5⟩)
    · have hr := cnd_f c7 hr
      refine HT.exit ?_
      obtain rfl := Option.some.inj hr
      exact Exists.intro _ ⟨_, Sl_v0, rfl, hA, hF, hAA, hO, h1⟩
  rintro R w ⟨A, s3, So_v0, es, hA, hF, hAA, hO, h1⟩
  obtain rfl := es.symm
  refine HT.seq ?_
  refine HT.text (l := ⟨_, true, .raw (.int .i64 s3.1)⟩ :: ⟨_, true, .raw (.int .i64 s3.1)⟩ :: []) (tl := []) (by kernel_rfl) (by kernel_rfl) (by kernel_rfl) ?_ ?_
  · exact
      Obls.cons (Obl.plain rfl rfl fun R' w' hw hs hd => by have a0 : R' 1 = .int .i64 s3.1 := (hs 1 rfl).trans h1; exact of_move a0) <|
      Obls.cons (Obl.plain rfl rfl fun R' w' hw hs hd => by have a0 : R' 19 = .int .i64 s3.1 := hd 0 _ _ _ rfl rfl rfl rfl rfl; exact of_assign a0) <|
      Obls.nil
  intro R w hw hs hF'
  have h4 : R 4 = .int .i64 s3.1 := hF' 1 _ _ rfl rfl rfl
  replace hO := hO.fr hw
  replace hA := hA.fr hw.size
  replace hF := hF.tr (hw.ch noB) fun _ h => False.elim h
  clear hs hF' hw
  refine seqR_nil ?_
  refine HT.ret ?_
  obtain rfl := Option.some.inj hr
  exact ⟨.inr rfl, [R 4], ⟨rfl, trivial⟩, h4, gave_post rfl (hO.own 0 _ rfl) (hO.ok 0 _ rfl).2 hAA hF⟩
def M_laws_markRuleSet (fu : Nat) (p0 : T_impl_RuleSet) (p1 : Int) : Option (Int × T_impl_RuleSet) :=
  cl true (M_laws_markRuleS fu p0 p1) fun x5 =>
  some (x5.1, x5.2)
set_option maxRecDepth 100000 in
set_option maxHeartbeats 4000000 in
theorem M_laws_markRuleSet_ok {fu : Nat} {A0 : Av} {p0 : T_impl_RuleSet} {p1 : Int} {r : Int × T_impl_RuleSet} (hr : M_laws_markRuleSet fu p0 p1 = some r) {w : World} {v0 : Value} {v1 : Value} {S0 : Nat → Prop} (hA : AvOK A0 w) (hN : ∀ b o, A0 b o → ¬ S0 b) (h0 : (trP (oBx (oSl 32 (oBx (oSl 36 (oRd E_impl_Test))))) p0 []).P (addS A0 S0) w S0 v0) (h1 : v1 = .int .i64 p1) :
    Calls Tryd.prog 7 #[v0, v1] w fun e w' => ∃ v, e = .returned v ∧ (v = .int .i64 r.1 ∧ Gave (oBx (oSl 32 (oBx (oSl 36 (oRd E_impl_Test))))) A0 S0 w v0 r.2 w') := by
  unfold M_laws_markRuleSet at hr
  obtain ⟨w0, hw0⟩ : ∃ w0, w0 = w := ⟨_, rfl⟩
  have hF : Ch S0 w0 w := hw0 ▸ Ch.refl _ _
  have hA0 : ∀ b o, A0 b o → b < w0.heap.size := fun b o h => hw0 ▸ hA b o h
  have hA00 : AvOK A0 w0 := hA0
  rw [show Gave (oBx (oSl 32 (oBx (oSl 36 (oRd E_impl_Test))))) A0 S0 w = Gave (oBx (oSl 32 (oBx (oSl 36 (oRd E_impl_Test))))) A0 S0 w0 from hw0 ▸ rfl]
  have hw0s : w.heap.size = w0.heap.size := hw0 ▸ rfl
  obtain ⟨cs_0, ecs_0, lcs_0, ocs_0⟩ := tr_cells h0
  clear hw0
  have hO := IniOK.oneT h0
  have hA1 := hA.oneT h0
  rw [show w.heap.size = w0.heap.size from hw0s] at hO
  obtain ⟨A, hAe⟩ : ∃ A, A = addS A0 S0 := ⟨_, rfl⟩
  have hAA : ∀ b o, A0 b o → A b o := fun b o h => hAe ▸ .inl h
  replace hA : AvOK A w := hAe ▸ hA1
  replace hO : IniOK [⟨v0, S0, trR (fun k => w0.heap.size ≤ k ∨ S0 k) (oBx (oSl 32 (oBx (oSl 36 (oRd E_impl_Test))))) p0 []⟩] A w := hAe ▸ hO
  refine calls_of_HT2 [.tmp 4] Tryd.func7 Tryd.ntmps7 (by decide) rfl rfl (Nat.le_of_ble_eq_true rfl) ?_
  intro R hR
  replace h0 : R 0 = v0 := hR 0 _ rfl
  replace h1 : R 1 = .int .i64 p1 := (hR 1 _ rfl).trans h1
  clear hR hAe
  refine HT.seq ?_
  refine HT.textR [⟨v0, S0, trR (fun k => w0.heap.size ≤ k ∨ S0 k) (oBx (oSl 32 (oBx (oSl 36 (oRd E_impl_Test))))) p0 []⟩] (⟨_, true, [0], some (.gen (fun k => w0.heap.size ≤ k ∨ S0 k) (trB 24 (oBx (oSl 32 (oBx (oSl 36 (oRd E_impl_Test))))) p0 cs_0)), true, fun A => .any⟩ :: ⟨_, true, [], none, true, fun A => .raw (.int .i64 (0 : Int))⟩ :: []) (by kernel_rfl) (by kernel_rfl) (Wf.mk' (by kernel_rfl) (UAll.cons ust_any (UAll.cons ust_raw (UAll.nil))) (by kernel_rfl) (by kernel_rfl)) hO hA ?_ ?_
  · exact
      OblsR.cons (OblR.tookS 0 _ _ rfl rfl rfl rfl rfl fun A' R' w' ho hd u S hok hown hav hin hop hds => by have a0 : R' 0 = v0 := (ho.old 0 rfl).trans h0; have e0 := (hin _ rfl).1; rw [e0] at hown ⊢; exact took_boxB hown.2 ecs_0 lcs_0 ocs_0 a0 hav hown.1 (fun k hk => .inl (Nat.le_trans (Nat.le_trans hF.size ho.ch.size) hk))) <|
      OblsR.cons (OblR.plain rfl rfl rfl rfl fun A' R' w' ho hd => by exact of_assign rfl) <|
      OblsR.nil
  intro done ρ σ A R w hdn hI
  replace h1 : R 1 = .int .i64 p1 := (hI.reg rfl).trans h1
  obtain ⟨u1, e_u1⟩ : ∃ u, ρ 1 = u := ⟨_, rfl⟩
  have h2 : R 2 = u1 := (hI.opvR hdn 1 0 rfl rfl rfl rfl rfl).symm.trans e_u1
  obtain ⟨S2, eS_u1⟩ : ∃ S, σ 1 = S := ⟨_, rfl⟩
  replace hAA := hI.lowK hAA hA0 hN (hO.geK (⟨fun _ h => h, trivial⟩))
  replace hF : Ch S0 w0 w := hF.tr hI.ch (hO.geK (⟨fun _ h => h, trivial⟩))
  replace hO : IniOK [⟨u1, S2, .gen (fun k => w0.heap.size ≤ k ∨ S0 k) (trB 24 (oBx (oSl 32 (oBx (oSl 36 (oRd E_impl_Test))))) p0 cs_0)⟩] A w := hI.left hdn [(1, ⟨u1, S2, .gen (fun k => w0.heap.size ≤ k ∨ S0 k) (trB 24 (oBx (oSl 32 (oBx (oSl 36 (oRd E_impl_Test))))) p0 cs_0)⟩)] ⟨rfl, rfl, e_u1, eS_u1, rfl, trivial⟩
  replace hA := hI.avok
  clear hI
  replace hO : IniOK [⟨u1, S2, trR (fun k => w0.heap.size ≤ k ∨ S0 k) (oPt 24 (oBx (oSl 32 (oBx (oSl 36 (oRd E_impl_Test)))))) p0 [(u1, cs_0)]⟩] A w := hO.repin 0 rfl (fun h => trP.pin h.2 h.1)
  refine HT.seq ?_
  obtain ⟨h3, p_h3⟩ := (((tr_root (hO.own 0 _ rfl).2).ptr).bx).open1 rfl
  replace hO : IniOK [⟨u1, S2, trR (fun k => w0.heap.size ≤ k ∨ S0 k) (oPt 24 (oBx (oSl 32 (oBx (oSl 36 (oRd E_impl_Test)))))) p0 [(u1, [h3]), (u1, cs_0)]⟩] A w := hO.repin 0 rfl (trP.pin p_h3)
  obtain ⟨x5, q6, hr⟩ := cl_some hr
  refine HT.textR [⟨u1, S2, trR (fun k => w0.heap.size ≤ k ∨ S0 k) (oPt 24 (oBx (oSl 32 (oBx (oSl 36 (oRd E_impl_Test)))))) p0 [(u1, [h3]), (u1, cs_0)]⟩] (⟨_, true, [], none, true, fun A => .raw u1⟩ :: ⟨_, true, [], none, true, fun A => .raw h3⟩ :: ⟨_, true, [], none, true, fun A => .raw (.int .i64 p1)⟩ :: ⟨_, true, [0], some (trR (fun k => w0.heap.size ≤ k ∨ S0 k) (oPt 24 (oBx (oSl 32 (oBx (oSl 36 (oRd E_impl_Test)))))) x5.2 [(u1, cs_0)]), false, fun A => .raw (.int .i64 x5.1)⟩ :: ⟨_, true, [], none, true, fun A => .raw (.int .i64 x5.1)⟩ :: []) (by kernel_rfl) (by kernel_rfl) (Wf.mk' (by kernel_rfl) (UAll.cons ust_raw (UAll.cons ust_raw (UAll.cons ust_raw (UAll.cons ust_raw (UAll.cons ust_raw (UAll.nil)))))) (by kernel_rfl) (by kernel_rfl)) hO hA ?_ ?_
  · exact
      OblsR.cons (OblR.plain rfl rfl rfl rfl fun A' R' w' ho hd => by have a0 : R' 2 = u1 := (ho.old 2 rfl).trans h2; exact of_fieldAddr_tr ((tr_root (hO.own 0 _ rfl).2).ptr).ad a0 ff_24_0 Tryd.sizeOf22 (by decide) (padd_zero ((tr_root (hO.own 0 _ rfl).2).ptr).ad)) <|
      OblsR.cons (OblR.plain rfl rfl rfl rfl fun A' R' w' ho hd => by have a0 : R' 5 = u1 := hd 0 _ _ _ rfl rfl rfl rfl rfl; exact of_load_pin ((ho.rdo 0 _ rfl rfl).2.2 _ (.head _)) a0 Tryd.isAgg22 Tryd.sizeOf22) <|
      OblsR.cons (OblR.plain rfl rfl rfl rfl fun A' R' w' ho hd => by have a0 : R' 1 = .int .i64 p1 := (ho.old 1 rfl).trans h1; exact of_move a0) <|
      OblsR.cons (OblR.tookS 0 _ _ rfl rfl rfl rfl rfl fun A' R' w' ho hd u S hok hown hav hin hop hds => by have a0 : R' 6 = h3 := hd 0 _ _ _ rfl rfl rfl rfl rfl; have a1 : R' 7 = .int .i64 p1 := hd 1 _ _ _ rfl rfl rfl rfl rfl; have e0 := (hin _ rfl).1; rw [e0] at hown ⊢; have hu0 : evalR R' (.tmp 6) = h3 := a0; exact took_callT Tryd.call16 ((((tr_root hown.2).ptr).bx).pinK (hown.2.2 _ (.head _)) rfl (hown.2.2 _ (.tail _ (.head _))) (same_blk0 (tr_root hown.2).ptr.ad)) hav hown.1 (fun k hk => .inl (Nat.le_trans (Nat.le_trans hF.size ho.ch.size) hk)) (fun k hk => SP.lt _ hown.2 hk) (fun S1 hS1 hP => by simp only [List.map, hu0]; exact M_laws_markRuleS_ok (q6 rfl) (ho.av.subS _) (fun b o h => h.2) hP a1) (fun _ _ _ h => trP.pin h.2 h.1)) <|
      OblsR.cons (OblR.plain rfl rfl rfl rfl fun A' R' w' ho hd => by have a0 : R' 8 = .int .i64 x5.1 := hd 0 _ _ _ rfl rfl rfl rfl rfl; exact of_assign a0) <|
      OblsR.nil
  intro done ρ σ A R w hdn hI
  have z7 := hI.inivR 0 rfl
  have z8 := (hI.opnR hdn 4 3 rfl rfl rfl rfl rfl).trans z7
  obtain ⟨S9, eS_u1⟩ : ∃ S, σ 4 = S := ⟨_, rfl⟩
  have h1 : R 1 = .int .i64 x5.1 := hI.fact hdn (i := 4) rfl rfl rfl
  replace hAA := hI.lowK hAA hA0 hN (hO.geK (⟨fun _ h => h, trivial⟩))
  replace hF : Ch S0 w0 w := hF.tr hI.ch (hO.geK (⟨fun _ h => h, trivial⟩))
  replace hO : IniOK [⟨u1, S9, trR (fun k => w0.heap.size ≤ k ∨ S0 k) (oPt 24 (oBx (oSl 32 (oBx (oSl 36 (oRd E_impl_Test)))))) x5.2 [(u1, cs_0)]⟩] A w := hI.left hdn [(4, ⟨u1, S9, trR (fun k => w0.heap.size ≤ k ∨ S0 k) (oPt 24 (oBx (oSl 32 (oBx (oSl 36 (oRd E_impl_Test)))))) x5.2 [(u1, cs_0)]⟩)] ⟨rfl, rfl, z8, eS_u1, rfl, trivial⟩
  replace hA := hI.avok
  clear hI
  refine HT.seq ?_
  refine HT.text (l := ⟨_, true, .raw (.int .i64 x5.1)⟩ :: ⟨_, true, .raw (.int .i64 x5.1)⟩ :: []) (tl := []) (by kernel_rfl) (by kernel_rfl) (by kernel_rfl) ?_ ?_
  · exact
      Obls.cons (Obl.plain rfl rfl fun R' w' hw hs hd => by have a0 : R' 1 = .int .i64 x5.1 := (hs 1 rfl).trans h1; exact of_move a0) <|
      Obls.cons (Obl.plain rfl rfl fun R' w' hw hs hd => by have a0 : R' 9 = .int .i64 x5.1 := hd 0 _ _ _ rfl rfl rfl rfl rfl; exact of_assign a0) <|
      Obls.nil
  intro R w hw hs hF'
  have h4 : R 4 = .int .i64 x5.1 := hF' 1 _ _ rfl rfl rfl
  replace hO := hO.fr hw
  replace hA := hA.fr hw.size
  replace hF := hF.tr (hw.ch noB) fun _ h => False.elim h
  clear hs hF' hw
  refine seqR_nil ?_
  refine HT.ret ?_
  obtain rfl := Option.some.inj hr
  exact ⟨.inr rfl, [R 4], ⟨rfl, trivial⟩, h4, gave_post_box rfl (hO.own 0 _ rfl) (hO.ok 0 _ rfl).2 hAA ecs_0 lcs_0 hF⟩
def M_laws_heldTestS_L0 (fu : Nat) (p0 : List T_impl_Test) : Nat → Int → Int → Option (Ex Int Int)
  | 0, _, _ => none
  | k + 1, y4, y5 =>
    bif (decide (y5 < (p0.length : Int))) then (
      ck (inR y5 p0.length) <|
      bif (((gtD p0 y5).1) != y4) then (
        some (Ex.ret (-1 : Int))
      ) else (
        ck (i64B (y4 + (1 : Int))) <|
        ck (inR y5 p0.length) <|
        bif (((gtD p0 y5).2.1) != (y4 + (1 : Int))) then (
          some (Ex.ret (-1 : Int))
        ) else (
          ck (i64B ((y4 + (1 : Int)) + (1 : Int))) <|
          ck (inR y5 p0.length) <|
          ck ((3 : Int) != 0) <|
          bif (((gtD p0 y5).2.2) != ((((y4 + (1 : Int)) + (1 : Int)).tmod (3 : Int)) == (0 : Int))) then (
            some (Ex.ret (-1 : Int))
          ) else (
            ck (i64B (((y4 + (1 : Int)) + (1 : Int)) + (1 : Int))) <|
            ck (i64B (y5 + (1 : Int))) <|
            M_laws_heldTestS_L0 fu p0 k (((y4 + (1 : Int)) + (1 : Int)) + (1 : Int)) (y5 + (1 : Int))
          )
        )
      )
    ) else (
      some (Ex.go y4)
    )
def M_laws_heldTestS (fu : Nat) (p0 : List T_impl_Test) (p1 : Int) : Option Int :=
  cl true (M_laws_heldTestS_L0 fu p0 fu p1 (0 : Int)) fun rl1 =>
  exM rl1 (fun r => some r) fun s3 =>
  some s3
set_option maxRecDepth 100000 in
set_option maxHeartbeats 4000000 in
theorem M_laws_heldTestS_ok {fu : Nat} {A : Av} {p0 : List T_impl_Test} {p1 : Int} {r : Int} (hr : M_laws_heldTestS fu p0 p1 = some r) {w : World} {v0 : Value} {v1 : Value} (hA : AvOK A w) (h0 : Rep (eSl E_impl_Test) A w v0 p0) (h1 : v1 = .int .i64 p1) :
    Calls Tryd.prog 31 #[v0, v1] w fun e w' => ∃ v, e = .returned v ∧ (v = .int .i64 r ∧ Fr w w') := by
  unfold M_laws_heldTestS at hr
  obtain ⟨w0, hw0⟩ : ∃ w0, w0 = w := ⟨_, rfl⟩
  have hF : Fr w0 w := hw0 ▸ Fr.refl _
  rw [show Fr w = Fr w0 from hw0 ▸ rfl]
  clear hw0
  refine calls_of_HT2 [.tmp 4] Tryd.func31 Tryd.ntmps31 (by decide) rfl rfl (Nat.le_of_ble_eq_true rfl) ?_
  intro R hR
  have f_v0 := h0
  replace h0 : R 0 = v0 := hR 0 _ rfl
  replace h1 : R 1 = .int .i64 p1 := (hR 1 _ rfl).trans h1
  clear hR
  refine HT.seq ?_
  refine HT.text (l := ⟨_, true, .raw (.int .i64 (0 : Int))⟩ :: []) (tl := []) (by kernel_rfl) (by kernel_rfl) (by kernel_rfl) ?_ ?_
  · exact
      Obls.cons (Obl.plain rfl rfl fun R' w' hw hs hd => by exact of_assign rfl) <|
      Obls.nil
  intro R w hw hs hF'
  replace h0 : R 0 = v0 := (hs 0 rfl).trans h0
  replace h1 : R 1 = .int .i64 p1 := (hs 1 rfl).trans h1
  replace f_v0 := f_v0.fr hw
  replace hA := hA.fr hw.size
  replace hF := hF.trans hw
  clear hs hF' hw
  refine seqR_nil ?_
  refine HT.seq ?_
  refine HT.seq ?_
  refine HT.text (l := ⟨_, true, .raw (.int .i64 (0 : Int))⟩ :: []) (tl := []) (by kernel_rfl) (by kernel_rfl) (by kernel_rfl) ?_ ?_
  · exact
      Obls.cons (Obl.plain rfl rfl fun R' w' hw hs hd => by exact of_assign rfl) <|
      Obls.nil
  intro R w hw hs hF'
  replace h0 : R 0 = v0 := (hs 0 rfl).trans h0
  replace h1 : R 1 = .int .i64 p1 := (hs 1 rfl).trans h1
  have h5 : R 5 = .int .i64 (0 : Int) := hF' 0 _ _ rfl rfl rfl
  replace f_v0 := f_v0.fr hw
  replace hA := hA.fr hw.size
  replace hF := hF.trans hw
  clear hs hF' hw
  refine seqR_nil ?_
  obtain ⟨rl1, q2, hr⟩ := cl_some hr
  replace q2 := q2 rfl
  refine HT.cut0 (fun R w => ∃ (s3 : Int), rl1 = Ex.go s3 ∧ AvOK A w ∧ Fr w0 w ∧ R 1 = .int .i64 s3) ?_ ?_
  · refine HT.block ?_
    refine HT.loop (fun k R w => ∃ (y4 : Int) (y5 : Int), M_laws_heldTestS_L0 fu p0 k y4 y5 = some rl1 ∧ AvOK A w ∧ Fr w0 w ∧ R 0 = v0 ∧ R 1 = .int .i64 y4 ∧ R 5 = .int .i64 y5 ∧ Rep (eSl E_impl_Test) A w v0 p0) fu ⟨_, _, q2, hA, hF, h0, h1, h5, f_v0⟩ ?_
    have hr0 := hr; clear hr q2
    rintro k R w ⟨y4, y5, hr, hA, hF, h0, h1, h5, f_v0⟩
    rcases k with _ | k
    · cases (show none = some _ from hr)
    rw [M_laws_heldTestS_L0] at hr
    refine HT.seq ?_
    refine HT.seq ?_
    refine HT.text (l := ⟨_, true, .raw (.int .i64 y5)⟩ :: ⟨_, true, .raw v0⟩ :: ⟨_, true, .raw (.int .i64 (p0.length : Int))⟩ :: ⟨_, true, .raw (.bool (decide (y5 < (p0.length : Int))))⟩ :: []) (tl := []) (by kernel_rfl) (by kernel_rfl) (by kernel_rfl) ?_ ?_
    · exact
        Obls.cons (Obl.plain rfl rfl fun R' w' hw hs hd => by have a0 : R' 5 = .int .i64 y5 := (hs 5 rfl).trans h5; exact of_move a0) <|
        Obls.cons (Obl.plain rfl rfl fun R' w' hw hs hd => by have a0 : R' 0 = v0 := (hs 0 rfl).trans h0; exact of_move a0) <|
        Obls.cons (Obl.plain rfl rfl fun R' w' hw hs hd => by have a0 : R' 7 = v0 := hd 0 _ _ _ rfl rfl rfl rfl rfl; have ra0 := (f_v0.fr hw).eq a0; exact of_len_sl (aT := #[]) ra0 Tryd.underlying30) <|
        Obls.cons (Obl.plain rfl rfl fun R' w' hw hs hd => by have a0 : R' 6 = .int .i64 y5 := hd 0 _ _ _ rfl rfl rfl rfl rfl; have a1 : R' 8 = .int .i64 (p0.length : Int) := hd 1 _ _ _ rfl rfl rfl rfl rfl; exact of_lss a0 a1) <|
        Obls.nil
    intro R w hw hs hF'
    replace h0 : R 0 = v0 := (hs 0 rfl).trans h0
    replace h1 : R 1 = .int .i64 y4 := (hs 1 rfl).trans h1
    replace h5 : R 5 = .int .i64 y5 := (hs 5 rfl).trans h5
    have h9 : R 9 = .bool (decide (y5 < (p0.length : Int))) := hF' 3 _ _ rfl rfl rfl
    replace f_v0 := f_v0.fr hw
    replace hA := hA.fr hw.size
    replace hF := hF.trans hw
    clear hs hF' hw
    refine seqR_nil ?_
    refine HT.cond (decide (y5 < (p0.length : Int))) h9 (fun c6 => ?_) (fun c6 => ?_)
    · have hr := cnd_t c6 hr
      refine HT.skip ?_
      refine HT.seq ?_
      refine HT.block ?_
      refine HT.seq ?_
      refine HT.seq ?_
      obtain ⟨e7, hr⟩ := ck_some hr
      refine HT.text (l := ⟨_, true, .raw v0⟩ :: ⟨_, true, .raw (.int .i64 y5)⟩ :: ⟨_, true, .qtr E_impl_Test A (gtD p0 y5)⟩ :: ⟨_, true, .qtr (eInt .i64) A ((gtD p0 y5).1)⟩ :: ⟨_, true, .raw (.int .i64 ((gtD p0 y5).1))⟩ :: ⟨_, true, .raw (.int .i64 y4)⟩ :: ⟨_, true, .raw (.bool (((gtD p0 y5).1) != y4))⟩ :: []) (tl := []) (by kernel_rfl) (by kernel_rfl) (by kernel_rfl) ?_ ?_
      · exact
          Obls.cons (Obl.plain rfl rfl fun R' w' hw hs hd => by have a0 : R' 0 = v0 := (hs 0 rfl).trans h0; exact of_move a0) <|
          Obls.cons (Obl.plain rfl rfl fun R' w' hw hs hd => by have a0 : R' 5 = .int .i64 y5 := (hs 5 rfl).trans h5; exact of_move a0) <|
          Obls.cons (Obl.plain rfl rfl fun R' w' hw hs hd => by have a0 : R' 12 = v0 := hd 0 _ _ _ rfl rfl rfl rfl rfl; have a1 : R' 13 = .int .i64 y5 := hd 1 _ _ _ rfl rfl rfl rfl rfl; have ra0 := (f_v0.fr hw).eq a0; exact of_indexAddr ra0 a1 Tryd.underlying30 Tryd.sizeOf36 e7) <|
          Obls.cons (Obl.plain rfl rfl fun R' w' hw hs hd => by have a0 : QRep E_impl_Test A w' (R' 14) (gtD p0 y5) := hd 0 _ _ _ rfl rfl rfl rfl rfl; exact of_fieldAddr_q a0 ff_36_0 Tryd.sizeOf3 (by decide) fl_impl_Test_0 rfl) <|
          Obls.cons (Obl.plain rfl rfl fun R' w' hw hs hd => by have a0 : QRep (eInt .i64) A w' (R' 15) ((gtD p0 y5).1) := hd 0 _ _ _ rfl rfl rfl rfl rfl; exact OpF.int (of_load a0.ptr Tryd.isAgg3 Tryd.sizeOf3)) <|
          Obls.cons (Obl.plain rfl rfl fun R' w' hw hs hd => by have a0 : R' 1 = .int .i64 y4 := (hs 1 rfl).trans h1; exact of_move a0) <|
          Obls.cons (Obl.plain rfl rfl fun R' w' hw hs hd => by have a0 : R' 16 = .int .i64 ((gtD p0 y5).1) := hd 0 _ _ _ rfl rfl rfl rfl rfl; have a1 : R' 17 = .int .i64 y4 := hd 1 _ _ _ rfl rfl rfl rfl rfl; exact of_neq a0 a1) <|
          Obls.nil
      intro R w hw hs hF'
      replace h0 : R 0 = v0 := (hs 0 rfl).trans h0
      replace h1 : R 1 = .int .i64 y4 := (hs 1 rfl).trans h1
      replace h5 : R 5 = .int .i64 y5 := (hs 5 rfl).trans h5
      have h18 : R 18 = .bool (((gtD p0 y5).1) != y4) := hF' 6 _ _ rfl rfl rfl
      replace f_v0 := f_v0.fr hw
      replace hA := hA.fr hw.size
      replace hF := hF.trans hw
      clear hs hF' hw
      refine seqR_nil ?_
      refine HT.cond (((gtD p0 y5).1) != y4) h18 (fun c8 => ?_) (fun c8 => ?_)
      · have hr := cnd_t c8 hr
        refine HT.seq ?_
        refine HT.text (l := ⟨_, true, .raw (.int .i64 (-1 : Int))⟩ :: []) (tl := []) (by kernel_rfl) (by kernel_rfl) (by kernel_rfl) ?_ ?_
        · exact
            Obls.cons (Obl.plain rfl rfl fun R' w' hw hs hd => by exact of_assign rfl) <|
            Obls.nil
        intro R w hw hs hF'
        have h4 : R 4 = .int .i64 (-1 : Int) := hF' 0 _ _ rfl rfl rfl
        replace hA := hA.fr hw.size
        replace hF := hF.trans hw
        clear hs hF' hw
        refine seqR_nil ?_
        refine HT.ret ?_
        obtain rfl := Option.some.inj hr
        have hr := hr0
        replace hr : some _ = some _ := hr
        obtain rfl := Option.some.inj hr
        exact ⟨.inr rfl, [R 4], ⟨rfl, trivial⟩, h4, hF⟩
      · have hr := cnd_f c8 hr
        refine HT.skip ?_
        refine HT.seq ?_
        obtain ⟨e9, hr⟩ := ck_some hr
        refine HT.text (l := ⟨_, true, .raw (.int .i64 y4)⟩ :: ⟨_, true, .raw (.int .i64 (y4 + (1 : Int)))⟩ :: ⟨_, true, .raw (.int .i64 (y4 + (1 : Int)))⟩ :: []) (tl := []) (by kernel_rfl) (by kernel_rfl) (by kernel_rfl) ?_ ?_
        · exact
            Obls.cons (Obl.plain rfl rfl fun R' w' hw hs hd => by have a0 : R' 1 = .int .i64 y4 := (hs 1 rfl).trans h1; exact of_move a0) <|
            Obls.cons (Obl.plain rfl rfl fun R' w' hw hs hd => by have a0 : R' 19 = .int .i64 y4 := hd 0 _ _ _ rfl rfl rfl rfl rfl; exact of_add a0 rfl e9) <|
            Obls.cons (Obl.plain rfl rfl fun R' w' hw hs hd => by have a0 : R' 20 = .int .i64 (y4 + (1 : Int)) := hd 0 _ _ _ rfl rfl rfl rfl rfl; exact of_assign a0) <|
            Obls.nil
        intro R w hw hs hF'
        replace h0 : R 0 = v0 := (hs 0 rfl).trans h0
        replace h5 : R 5 = .int .i64 y5 := (hs 5 rfl).trans h5
        have h1 : R 1 = .int .i64 (y4 + (1 : Int)) := hF' 2 _ _ rfl rfl rfl
        replace f_v0 := f_v0.fr hw
        replace hA := hA.fr hw.size
        replace hF := hF.trans hw
        clear hs hF' hw
        refine seqR_nil ?_
        refine HT.seq ?_
        refine HT.seq ?_
        obtain ⟨e10, hr⟩ := ck_some hr
        refine HT.text (l := ⟨_, true, .raw v0⟩ :: ⟨_, true, .raw (.int .i64 y5)⟩ :: ⟨_, true, .qtr E_impl_Test A (gtD p0 y5)⟩ :: ⟨_, true, .qtr (eInt .i64) A ((gtD p0 y5).2.1)⟩ :: ⟨_, true, .raw (.int .i64 ((gtD p0 y5).2.1))⟩ :: ⟨_, true, .raw (.int .i64 (y4 + (1 : Int)))⟩ :: ⟨_, true, .raw (.bool (((gtD p0 y5).2.1) != (y4 + (1 : Int))))⟩ :: []) (tl := []) (by kernel_rfl) (by kernel_rfl) (by kernel_rfl) ?_ ?_
        · exact
            Obls.cons (Obl.plain rfl rfl fun R' w' hw hs hd => by have a0 : R' 0 = v0 := (hs 0 rfl).trans h0; exact of_move a0) <|
            Obls.cons (Obl.plain rfl rfl fun R' w' hw hs hd => by have a0 : R' 5 = .int .i64 y5 := (hs 5 rfl).trans h5; exact of_move a0) <|
            Obls.cons (Obl.plain rfl rfl fun R' w' hw hs hd => by have a0 : R' 21 = v0 := hd 0 _ _ _ rfl rfl rfl rfl rfl; have a1 : R' 22 = .int .i64 y5 := hd 1 _ _ _ rfl rfl rfl rfl rfl; have ra0 := (f_v0.fr hw).eq a0; exact of_indexAddr ra0 a1 Tryd.underlying30 Tryd.sizeOf36 e10) <|
            Obls.cons (Obl.plain rfl rfl fun R' w' hw hs hd => by have a0 : QRep E_impl_Test A w' (R' 23) (gtD p0 y5) := hd 0 _ _ _ rfl rfl rfl rfl rfl; exact of_fieldAddr_q a0 ff_36_1 Tryd.sizeOf3 (by decide) fl_impl_Test_1 rfl) <|
            Obls.cons (Obl.plain rfl rfl fun R' w' hw hs hd => by have a0 : QRep (eInt .i64) A w' (R' 24) ((gtD p0 y5).2.1) := hd 0 _ _ _ rfl rfl rfl rfl rfl; exact OpF.int (of_load a0.ptr Tryd.isAgg3 Tryd.sizeOf3)) <|
            Obls.cons (Obl.plain rfl rfl fun R' w' hw hs hd => by have a0 : R' 1 = .int .i64 (y4 + (1 : Int)) := (hs 1 rfl).trans h1; exact of_move a0) <|
            Obls.cons (Obl.plain rfl rfl fun R' w' hw hs hd => by have a0 : R' 25 = .int .i64 ((gtD p0 y5).2.1) := hd 0 _ _ _ rfl rfl rfl rfl rfl; have a1 : R' 26 = .int .i64 (y4 + (1 : Int)) := hd 1 _ _ _ rfl rfl rfl rfl rfl; exact of_neq a0 a1) <|
            Obls.nil
        intro R w hw hs hF'
        replace h0 : R 0 = v0 := (hs 0 rfl).trans h0
        replace h1 : R 1 = .int .i64 (y4 + (1 : Int)) := (hs 1 rfl).trans h1
        replace h5 : R 5 = .int .i64 y5 := (hs 5 rfl).trans h5
        have h27 : R 27 = .bool (((gtD p0 y5).2.1) != (y4 + (1 : Int))) := hF' 6 _ _ rfl rfl rfl
        replace f_v0 := f_v0.fr hw
        replace hA := hA.fr hw.size
        replace hF := hF.trans hw
        clear hs hF' hw
        refine seqR_nil ?_
        refine HT.cond (((gtD p0 y5).2.1) != (y4 + (1 : Int))) h27 (fun c11 => ?_) (fun c11 => ?_)
        · have hr := cnd_t c11 hr
          refine HT.seq ?_
          refine HT.text (l := ⟨_, true, .raw (.int .i64 (-1 : Int))⟩ :: []) (tl := []) (by kernel_rfl) (by kernel_rfl) (by kernel_rfl) ?_ ?_
          · exact
              Obls.cons (Obl.plain rfl rfl fun R' w' hw hs hd => by exact of_assign rfl) <|
              Obls.nil
          intro R w hw hs hF'
          have h4 : R 4 = .int .i64 (-1 : Int) := hF' 0 _ _ rfl rfl rfl
          replace hA := hA.fr hw.size
          replace hF := hF.trans hw
          clear hs hF' hw
          refine seqR_nil ?_
          refine HT.ret ?_
          obtain rfl := Option.some.inj hr
          have hr := hr0
          replace hr : some _ = some _ := hr
          obtain rfl := Option.some.inj hr
          exact ⟨.inr rfl, [R 4], ⟨rfl, trivial⟩, h4, hF⟩
        · have hr := cnd_f c11 hr
          refine HT.skip ?_
          refine HT.seq ?_
          obtain ⟨e12, hr⟩ := ck_some hr
          refine HT.text (l := ⟨_, true, .raw (.int .i64 (y4 + (1 : Int)))⟩ :: ⟨_, true, .raw (.int .i64 ((y4 + (1 : Int)) + (1 : Int)))⟩ :: ⟨_, true, .raw (.int .i64 ((y4 + (1 : Int)) + (1 : Int)))⟩ :: []) (tl := []) (by kernel_rfl) (by kernel_rfl) (by kernel_rfl) ?_ ?_
          · exact
              Obls.cons (Obl.plain rfl rfl fun R' w' hw hs hd => by have a0 : R' 1 = .int .i64 (y4 + (1 : Int)) := (hs 1 rfl).trans h1; exact of_move a0) <|
              Obls.cons (Obl.plain rfl rfl fun R' w' hw hs hd => by have a0 : R' 28 = .int .i64 (y4 + (1 : Int)) := hd 0 _ _ _ rfl rfl rfl rfl rfl; exact of_add a0 rfl e12) <|
              Obls.cons (Obl.plain rfl rfl fun R' w' hw hs hd => by have a0 : R' 29 = .int .i64 ((y4 + (1 : Int)) + (1 : Int)) := hd 0 _ _ _ rfl rfl rfl rfl rfl; exact of_assign a0) <|
              Obls.nil
          intro R w hw hs hF'
          replace h0 : R 0 = v0 := (hs 0 rfl).trans h0
          replace h5 : R 5 = .int .i64 y5 := (hs 5 rfl).trans h5
          have h1 : R 1 = .int .i64 ((y4 + (1 : Int)) + (1 : Int)) := hF' 2 _ _ rfl rfl rfl
          replace f_v0 := f_v0.fr hw
          replace hA := hA.fr hw.size
          replace hF := hF.trans hw
          clear hs hF' hw
          refine seqR_nil ?_
          refine HT.seq ?_
          refine HT.seq ?_
          obtain ⟨e13, hr⟩ := ck_some hr
          obtain ⟨e14, hr⟩ := ck_some hr
          refine HT.text (l := ⟨_, true, .raw v0⟩ :: ⟨_, true, .raw (.int .i64 y5)⟩ :: ⟨_, true, .qtr E_impl_Test A (gtD p0 y5)⟩ :: ⟨_, true, .qtr eBool A ((gtD p0 y5).2.2)⟩ :: ⟨_, true, .raw (.bool ((gtD p0 y5).2.2))⟩ :: ⟨_, true, .raw (.int .i64 ((y4 + (1 : Int)) + (1 : Int)))⟩ :: ⟨_, true, .raw (.int .i64 (((y4 + (1 : Int)) + (1 : Int)).tmod (3 : Int)))⟩ :: ⟨_, true, .raw (.bool ((((y4 + (1 : Int)) + (1 : Int)).tmod (3 : Int)) == (0 : Int)))⟩ :: ⟨_, true, .raw (.bool (((gtD p0 y5).2.2) != ((((y4 + (1 : Int)) + (1 : Int)).tmod (3 : Int)) == (0 : Int))))⟩ :: []) (tl := []) (by kernel_rfl) (by kernel_rfl) (by kernel_rfl) ?_ ?_
          · exact
              Obls.cons (Obl.plain rfl rfl fun R' w' hw hs hd => by have a0 : R' 0 = v0 := (hs 0 rfl).trans h0; exact of_move a0) <|
              Obls.cons (Obl.plain rfl rfl fun R' w' hw hs hd => by have a0 : R' 5 = .int .i64 y5 := (hs 5 rfl).trans h5; exact of_move a0) <|
              Obls.cons (Obl.plain rfl rfl fun R' w' hw hs hd => by have a0 : R' 30 = v0 := hd 0 _ _ _ rfl rfl rfl rfl rfl; have a1 : R' 31 = .int .i64 y5 := hd 1 _ _ _ rfl rfl rfl rfl rfl; have ra0 := (f_v0.fr hw).eq a0; exact of_indexAddr ra0 a1 Tryd.underlying30 Tryd.sizeOf36 e13) <|
              Obls.cons (Obl.plain rfl rfl fun R' w' hw hs hd => by have a0 : QRep E_impl_Test A w' (R' 32) (gtD p0 y5) := hd 0 _ _ _ rfl rfl rfl rfl rfl; exact of_fieldAddr_q a0 ff_36_2 Tryd.sizeOf4 (by decide) fl_impl_Test_2 rfl) <|
              Obls.cons (Obl.plain rfl rfl fun R' w' hw hs hd => by have a0 : QRep eBool A w' (R' 33) ((gtD p0 y5).2.2) := hd 0 _ _ _ rfl rfl rfl rfl rfl; exact OpF.bool (of_load a0.ptr Tryd.isAgg4 Tryd.sizeOf4)) <|
              Obls.cons (Obl.plain rfl rfl fun R' w' hw hs hd => by have a0 : R' 1 = .int .i64 ((y4 + (1 : Int)) + (1 : Int)) := (hs 1 rfl).trans h1; exact of_move a0) <|
              Obls.cons (Obl.plain rfl rfl fun R' w' hw hs hd => by have a0 : R' 35 = .int .i64 ((y4 + (1 : Int)) + (1 : Int)) := hd 0 _ _ _ rfl rfl rfl rfl rfl; exact of_rem a0 rfl e14) <|
              Obls.cons (Obl.plain rfl rfl fun R' w' hw hs hd => by have a0 : R' 36 = .int .i64 (((y4 + (1 : Int)) + (1 : Int)).tmod (3 : Int)) := hd 0 _ _ _ rfl rfl rfl rfl rfl; exact of_eql a0 rfl) <|
              Obls.cons (Obl.plain rfl rfl fun R' w' hw hs hd => by have a0 : R' 34 = .bool ((gtD p0 y5).2.2) := hd 0 _ _ _ rfl rfl rfl rfl rfl; have a1 : R' 37 = .bool ((((y4 + (1 : Int)) + (1 : Int)).tmod (3 : Int)) == (0 : Int)) := hd 1 _ _ _ rfl rfl rfl rfl rfl; exact of_bneq Tryd.underlying4 a0 a1) <|
              Obls.nil
          intro R w hw hs hF'
          replace h0 : R 0 = v0 := (hs 0 rfl).trans h0
          replace h1 : R 1 = .int .i64 ((y4 + (1 : Int)) + (1 : Int)) := (hs 1 rfl).trans h1
          replace h5 : R 5 = .int .i64 y5 := (hs 5 rfl).trans h5
          have h38 : R 38 = .bool (((gtD p0 y5).2.2) != ((((y4 + (1 : Int)) + (1 : Int)).tmod (3 : Int)) == (0 : Int))) := hF' 8 _ _ rfl rfl rfl
          replace f_v0 := f_v0.fr hw
          replace hA := hA.fr hw.size
          replace hF := hF.trans hw
          clear hs hF' hw
          refine seqR_nil ?_
          refine HT.cond (((gtD p0 y5).2.2) != ((((y4 + (1 : Int)) + (1 : Int)).tmod (3 : Int)) == (0 : Int))) h38 (fun c15 => ?_) (fun c15 => ?_)
          · have hr := cnd_t c15 hr
            refine HT.seq ?_
            refine HT.text (l := ⟨_, true, .raw (.int .i64 (-1 : Int))⟩ :: []) (tl := []) (by kernel_rfl) (by kernel_rfl) (by kernel_rfl) ?_ ?_
            · exact
                Obls.cons (Obl.plain rfl rfl fun R' w' hw hs hd => by exact of_assign rfl) <|
                Obls.nil
            intro R w hw hs hF'
            have h4 : R 4 = .int .i64 (-1 : Int) := hF' 0 _ _ rfl rfl rfl
            replace hA := hA.fr hw.size
            replace hF := hF.trans hw
            clear hs hF' hw
            refine seqR_nil ?_
            refine HT.ret ?_
            obtain rfl := Option.some.inj hr
            have hr := hr0
            replace hr : some _ = some _ := hr
            obtain rfl := Option.some.inj hr
            exact ⟨.inr rfl, [R 4], ⟨rfl, trivial⟩, h4, hF⟩
          · have hr := cnd_f c15 hr
            refine HT.skip ?_
            obtain ⟨e16, hr⟩ := ck_some hr
            refine HT.text (l := ⟨_, true, .raw (.int .i64 ((y4 + (1 : Int)) + (1 : Int)))⟩ :: ⟨_, true, .raw (.int .i64 (((y4 + (1 : Int)) + (1 : Int)) + (1 : Int)))⟩ :: ⟨_, true, .raw (.int .i64 (((y4 + (1 : Int)) + (1 : Int)) + (1 : Int)))⟩ :: []) (tl := []) (by kernel_rfl) (by kernel_rfl) (by kernel_rfl) ?_ ?_
            · exact
                Obls.cons (Obl.plain rfl rfl fun R' w' hw hs hd => by have a0 : R' 1 = .int .i64 ((y4 + (1 : Int)) + (1 : Int)) := (hs 1 rfl).trans h1; exact of_move a0) <|
                Obls.cons (Obl.plain rfl rfl fun R' w' hw hs hd => by have a0 : R' 39 = .int .i64 ((y4 + (1 : Int)) + (1 : Int)) := hd 0 _ _ _ rfl rfl rfl rfl rfl; exact of_add a0 rfl e16) <|
                Obls.cons (Obl.plain rfl rfl fun R' w' hw hs hd => by have a0 : R' 40 = .int .i64 (((y4 + (1 : Int)) + (1 : Int)) + (1 : Int)) := hd 0 _ _ _ rfl rfl rfl rfl rfl; exact of_assign a0) <|
                Obls.nil
            intro R w hw hs hF'
            replace h0 : R 0 = v0 := (hs 0 rfl).trans h0
            replace h5 : R 5 = .int .i64 y5 := (hs 5 rfl).trans h5
            have h1 : R 1 = .int .i64 (((y4 + (1 : Int)) + (1 : Int)) + (1 : Int)) := hF' 2 _ _ rfl rfl rfl
            replace f_v0 := f_v0.fr hw
            replace hA := hA.fr hw.size
            replace hF := hF.trans hw
            clear hs hF' hw
            refine seqR_nil ?_
            obtain ⟨e17, hr⟩ := ck_some hr
            refine HT.text (l := ⟨_, true, .raw (.int .i64 y5)⟩ :: ⟨_, true, .raw (.int .i64 (y5 + (1 : Int)))⟩ :: ⟨_, true, .raw (.int .i64 (y5 + (1 : Int)))⟩ :: []) (tl := []) (by kernel_rfl) (by kernel_rfl) (by kernel_rfl) ?_ ?_
            · exact
                Obls.cons (Obl.plain rfl rfl fun R' w' hw hs hd => by have a0 : R' 5 = .int .i64 y5 := (hs 5 rfl).trans h5; exact of_move a0) <|
                Obls.cons (Obl.plain rfl rfl fun R' w' hw hs hd => by have a0 : R' 10 = .int .i64 y5 := hd 0 _ _ _ rfl rfl rfl rfl rfl; exact of_add a0 rfl e17) <|
                Obls.cons (Obl.plain rfl rfl fun R' w' hw hs hd => by have a0 : R' 11 = .int .i64 (y5 + (1 : Int)) := hd 0 _ _ _ rfl rfl rfl rfl rfl; exact of_assign a0) <|
                Obls.nil
            intro R w hw hs hF'
            replace h0 : R 0 = v0 := (hs 0 rfl).trans h0
            replace h1 : R 1 = .int .i64 (((y4 + (1 : Int)) + (1 : Int)) + (1 : Int)) := (hs 1 rfl).trans h1
            have h5 : R 5 = .int .i64 (y5 + (1 : Int)) := hF' 2 _ _ rfl rfl rfl
            replace f_v0 := f_v0.fr hw
            replace hA := hA.fr hw.size
            replace hF := hF.trans hw
            clear hs hF' hw
            refine seqR_nil ?_
            exact Exists.intro k (And.intro (Nat.lt_succ_self k) ⟨_, _, hr, hA, hF, h0, h1, h5, f_v0⟩)
    · have hr := cnd_f c6 hr
      refine HT.exit ?_
      obtain rfl := Option.some.inj hr
      exact Exists.intro _ ⟨rfl, hA, hF, h1⟩
  rintro R w ⟨s3, rfl, hA, hF, h1⟩
  have hr := exM_go hr
  refine HT.seq ?_
  refine HT.text (l := ⟨_, true, .raw (.int .i64 s3)⟩ :: ⟨_, true, .raw (.int .i64 s3)⟩ :: []) (tl := []) (by kernel_rfl) (by kernel_rfl) (by kernel_rfl) ?_ ?_
  · exact
      Obls.cons (Obl.plain rfl rfl fun R' w' hw hs hd => by have a0 : R' 1 = .int .i64 s3 := (hs 1 rfl).trans h1; exact of_move a0) <|
      Obls.cons (Obl.plain rfl rfl fun R' w' hw hs hd => by have a0 : R' 41 = .int .i64 s3 := hd 0 _ _ _ rfl rfl rfl rfl rfl; exact of_assign a0) <|
      Obls.nil
  intro R w hw hs hF'
  have h4 : R 4 = .int .i64 s3 := hF' 1 _ _ rfl rfl rfl
  replace hA := hA.fr hw.size
  replace hF := hF.trans hw
  clear hs hF' hw
  refine seqR_nil ?_
  refine HT.ret ?_
  obtain rfl := Option.some.inj hr
  exact ⟨.inr rfl, [R 4], ⟨rfl, trivial⟩, h4, hF⟩
def M_laws_heldRuleS_L0 (fu : Nat) (p0 : List T_impl_Rule) : Nat → Int → Int → Option (Ex Int Int)
  | 0, _, _ => none
  | k + 1, y4, y5 =>
    bif (decide (y5 < (p0.length : Int))) then (
      ck (inR y5 p0.length) <|
      cl true (M_laws_heldTestS fu (gtD p0 y5) y4) fun x8 =>
      bif (decide (x8 < (0 : Int))) then (
        some (Ex.ret (-1 : Int))
      ) else (
        ck (i64B (y5 + (1 : Int))) <|
        M_laws_heldRuleS_L0 fu p0 k x8 (y5 + (1 : Int))
      )
    ) else (
      some (Ex.go y4)
    )
def M_laws_heldRuleS (fu : Nat) (p0 : List T_impl_Rule) (p1 : Int) : Option Int :=
  cl true (M_laws_heldRuleS_L0 fu p0 fu p1 (0 : Int)) fun rl1 =>
  exM rl1 (fun r => some r) fun s3 =>
  some s3
set_option maxRecDepth 100000 in
set_option maxHeartbeats 4000000 in
theorem M_laws_heldRuleS_ok {fu : Nat} {A : Av} {p0 : List T_impl_Rule} {p1 : Int} {r : Int} (hr : M_laws_heldRuleS fu p0 p1 = some r) {w : World} {v0 : Value} {v1 : Value} (hA : AvOK A w) (h0 : Rep (eSl E_impl_Rule) A w v0 p0) (h1 : v1 = .int .i64 p1) :
    Calls Tryd.prog 17 #[v0, v1] w fun e w' => ∃ v, e = .returned v ∧ (v = .int .i64 r ∧ Fr w w') := by
  unfold M_laws_heldRuleS at hr
  obtain ⟨w0, hw0⟩ : ∃ w0, w0 = w := ⟨_, rfl⟩
  have hF : Fr w0 w := hw0 ▸ Fr.refl _
  rw [show Fr w = Fr w0 from hw0 ▸ rfl]
  clear hw0
  refine calls_of_HT2 [.tmp 4] Tryd.func17 Tryd.ntmps17 (by decide) rfl rfl (Nat.le_of_ble_eq_true rfl) ?_
  intro R hR
  have f_v0 := h0
  replace h0 : R 0 = v0 := hR 0 _ rfl
  replace h1 : R 1 = .int .i64 p1 := (hR 1 _ rfl).trans h1
  clear hR
  refine HT.seq ?_
  refine HT.text (l := ⟨_, true, .raw (.int .i64 (0 : Int))⟩ :: []) (tl := []) (by kernel_rfl) (by kernel_rfl) (by kernel_rfl) ?_ ?_
  · exact
      Obls.cons (Obl.plain rfl rfl fun R' w' hw hs hd => by exact of_assign rfl) <|
      Obls.nil
  intro R w hw hs hF'
  replace h0 : R 0 = v0 := (hs 0 rfl).trans h0
  replace h1 : R 1 = .int .i64 p1 := (hs 1 rfl).trans h1
  replace f_v0 := f_v0.fr hw
  replace hA := hA.fr hw.size
  replace hF := hF.trans hw
  clear hs hF' hw
  refine seqR_nil ?_
  refine HT.seq ?_
  refine HT.seq ?_
  refine HT.text (l := ⟨_, true, .raw (.int .i64 (0 : Int))⟩ :: []) (tl := []) (by kernel_rfl) (by kernel_rfl) (by kernel_rfl) ?_ ?_
  · exact
      Obls.cons (Obl.plain rfl rfl fun R' w' hw hs hd => by exact of_assign rfl) <|
      Obls.nil
  intro R w hw hs hF'
  replace h0 : R 0 = v0 := (hs 0 rfl).trans h0
  replace h1 : R 1 = .int .i64 p1 := (hs 1 rfl).trans h1
  have h5 : R 5 = .int .i64 (0 : Int) := hF' 0 _ _ rfl rfl rfl
  replace f_v0 := f_v0.fr hw
  replace hA := hA.fr hw.size
  replace hF := hF.trans hw
  clear hs hF' hw
  refine seqR_nil ?_
  obtain ⟨rl1, q2, hr⟩ := cl_some hr
  replace q2 := q2 rfl
  refine HT.cut0 (fun R w => ∃ (s3 : Int), rl1 = Ex.go s3 ∧ AvOK A w ∧ Fr w0 w ∧ R 1 = .int .i64 s3) ?_ ?_
  · refine HT.block ?_
    refine HT.loop (fun k R w => ∃ (y4 : Int) (y5 : Int), M_laws_heldRuleS_L0 fu p0 k y4 y5 = some rl1 ∧ AvOK A w ∧ Fr w0 w ∧ R 0 = v0 ∧ R 1 = .int .i64 y4 ∧ R 5 = .int .i64 y5 ∧ Rep (eSl E_impl_Rule) A w v0 p0) fu ⟨_, _, q2, hA, hF, h0, h1, h5, f_v0⟩ ?_
    have hr0 := hr; clear hr q2
    rintro k R w ⟨y4, y5, hr, hA, hF, h0, h1, h5, f_v0⟩
    rcases k with _ | k
    · cases (show none = some _ from hr)
    rw [M_laws_heldRuleS_L0] at hr
    refine HT.seq ?_
    refine HT.seq ?_
    refine HT.text (l := ⟨_, true, .raw (.int .i64 y5)⟩ :: ⟨_, true, .raw v0⟩ :: ⟨_, true, .raw (.int .i64 (p0.length : Int))⟩ :: ⟨_, true, .raw (.bool (decide (y5 < (p0.length : Int))))⟩ :: []) (tl := []) (by kernel_rfl) (by kernel_rfl) (by kernel_rfl) ?_ ?_
    · exact
        Obls.cons (Obl.plain rfl rfl fun R' w' hw hs hd => by have a0 : R' 5 = .int .i64 y5 := (hs 5 rfl).trans h5; exact of_move a0) <|
        Obls.cons (Obl.plain rfl rfl fun R' w' hw hs hd => by have a0 : R' 0 = v0 := (hs 0 rfl).trans h0; exact of_move a0) <|
        Obls.cons (Obl.plain rfl rfl fun R' w' hw hs hd => by have a0 : R' 7 = v0 := hd 0 _ _ _ rfl rfl rfl rfl rfl; have ra0 := (f_v0.fr hw).eq a0; exact of_len_sl (aT := #[]) ra0 Tryd.underlying22) <|
        Obls.cons (Obl.plain rfl rfl fun R' w' hw hs hd => by have a0 : R' 6 = .int .i64 y5 := hd 0 _ _ _ rfl rfl rfl rfl rfl; have a1 : R' 8 = .int .i64 (p0.length : Int) := hd 1 _ _ _ rfl rfl rfl rfl rfl; exact of_lss a0 a1) <|
        Obls.nil
    intro R w hw hs hF'
    replace h0 : R 0 = v0 := (hs 0 rfl).trans h0
    replace h1 : R 1 = .int .i64 y4 := (hs 1 rfl).trans h1
    replace h5 : R 5 = .int .i64 y5 := (hs 5 rfl).trans h5
    have h9 : R 9 = .bool (decide (y5 < (p0.length : Int))) := hF' 3 _ _ rfl rfl rfl
    replace f_v0 := f_v0.fr hw
    replace hA := hA.fr hw.size
    replace hF := hF.trans hw
    clear hs hF' hw
    refine seqR_nil ?_
    refine HT.cond (decide (y5 < (p0.length : Int))) h9 (fun c6 => ?_) (fun c6 => ?_)
    · have hr := cnd_t c6 hr
      refine HT.skip ?_
      refine HT.seq ?_
      refine HT.block ?_
      refine HT.seq ?_
      obtain ⟨e7, hr⟩ := ck_some hr
      obtain ⟨x8, q9, hr⟩ := cl_some hr
      refine HT.text (l := ⟨_, true, .raw v0⟩ :: ⟨_, true, .raw (.int .i64 y5)⟩ :: ⟨_, true, .qtr E_impl_Rule A (gtD p0 y5)⟩ :: ⟨_, true, .qtr (eSl E_impl_Test) A (gtD p0 y5)⟩ :: ⟨_, true, .rep (eSl E_impl_Test) A (gtD p0 y5)⟩ :: ⟨_, true, .raw (.int .i64 y4)⟩ :: ⟨_, true, .raw (.int .i64 x8)⟩ :: ⟨_, true, .raw (.int .i64 x8)⟩ :: []) (tl := []) (by kernel_rfl) (by kernel_rfl) (by kernel_rfl) ?_ ?_
      · exact
          Obls.cons (Obl.plain rfl rfl fun R' w' hw hs hd => by have a0 : R' 0 = v0 := (hs 0 rfl).trans h0; exact of_move a0) <|
          Obls.cons (Obl.plain rfl rfl fun R' w' hw hs hd => by have a0 : R' 5 = .int .i64 y5 := (hs 5 rfl).trans h5; exact of_move a0) <|
          Obls.cons (Obl.plain rfl rfl fun R' w' hw hs hd => by have a0 : R' 12 = v0 := hd 0 _ _ _ rfl rfl rfl rfl rfl; have a1 : R' 13 = .int .i64 y5 := hd 1 _ _ _ rfl rfl rfl rfl rfl; have ra0 := (f_v0.fr hw).eq a0; exact of_indexAddr ra0 a1 Tryd.underlying22 Tryd.sizeOf32 e7) <|
          Obls.cons (Obl.plain rfl rfl fun R' w' hw hs hd => by have a0 : QRep E_impl_Rule A w' (R' 14) (gtD p0 y5) := hd 0 _ _ _ rfl rfl rfl rfl rfl; exact of_fieldAddr_q a0 ff_32_0 Tryd.sizeOf30 (by decide) fl_impl_Rule_0 rfl) <|
          Obls.cons (Obl.plain rfl rfl fun R' w' hw hs hd => by have a0 : QRep (eSl E_impl_Test) A w' (R' 15) (gtD p0 y5) := hd 0 _ _ _ rfl rfl rfl rfl rfl; exact (of_load a0.ptr Tryd.isAgg30 Tryd.sizeOf30)) <|
          Obls.cons (Obl.plain rfl rfl fun R' w' hw hs hd => by have a0 : R' 1 = .int .i64 y4 := (hs 1 rfl).trans h1; exact of_move a0) <|
          Obls.cons (Obl.plain rfl rfl fun R' w' hw hs hd => by have a0 : Rep (eSl E_impl_Test) A w' (R' 16) (gtD p0 y5) := hd 0 _ _ _ rfl rfl rfl rfl rfl; have a1 : R' 17 = .int .i64 y4 := hd 1 _ _ _ rfl rfl rfl rfl rfl; exact of_call Tryd.call31 (M_laws_heldTestS_ok (q9 rfl) (hA.fr hw.size) a0 a1)) <|
          Obls.cons (Obl.plain rfl rfl fun R' w' hw hs hd => by have a0 : R' 18 = .int .i64 x8 := hd 0 _ _ _ rfl rfl rfl rfl rfl; exact of_assign a0) <|
          Obls.nil
      intro R w hw hs hF'
      replace h0 : R 0 = v0 := (hs 0 rfl).trans h0
      replace h5 : R 5 = .int .i64 y5 := (hs 5 rfl).trans h5
      have h1 : R 1 = .int .i64 x8 := hF' 7 _ _ rfl rfl rfl
      replace f_v0 := f_v0.fr hw
      replace hA := hA.fr hw.size
      replace hF := hF.trans hw
      clear hs hF' hw
      refine seqR_nil ?_
      refine HT.seq ?_
      refine HT.text (l := ⟨_, true, .raw (.int .i64 x8)⟩ :: ⟨_, true, .raw (.bool (decide (x8 < (0 : Int))))⟩ :: []) (tl := []) (by kernel_rfl) (by kernel_rfl) (by kernel_rfl) ?_ ?_
      · exact
          Obls.cons (Obl.plain rfl rfl fun R' w' hw hs hd => by have a0 : R' 1 = .int .i64 x8 := (hs 1 rfl).trans h1; exact of_move a0) <|
          Obls.cons (Obl.plain rfl rfl fun R' w' hw hs hd => by have a0 : R' 19 = .int .i64 x8 := hd 0 _ _ _ rfl rfl rfl rfl rfl; exact of_lss a0 rfl) <|
          Obls.nil
      intro R w hw hs hF'
      replace h0 : R 0 = v0 := (hs 0 rfl).trans h0
      replace h1 : R 1 = .int .i64 x8 := (hs 1 rfl).trans h1
      replace h5 : R 5 = .int .i64 y5 := (hs 5 rfl).trans h5
      have h20 : R 20 = .bool (decide (x8 < (0 : Int))) := hF' 1 _ _ rfl rfl rfl
      replace f_v0 := f_v0.fr hw
      replace hA := hA.fr hw.size
      replace hF := hF.trans hw
      clear hs hF' hw
      refine seqR_nil ?_
      refine HT.cond (decide (x8 < (0 : Int))) h20 (fun c10 => ?_) (fun c10 => ?_)
      · have hr := cnd_t c10 hr
        refine HT.seq ?_
        refine HT.text (l := ⟨_, true, .raw (.int .i64 (-1 : Int))⟩ :: []) (tl := []) (by kernel_rfl) (by kernel_rfl) (by kernel_rfl) ?_ ?_
        · exact
            Obls.cons (Obl.plain rfl rfl fun R' w' hw hs hd => by exact of_assign rfl) <|
            Obls.nil
        intro R w hw hs hF'
        have h4 : R 4 = .int .i64 (-1 : Int) := hF' 0 _ _ rfl rfl rfl
        replace hA := hA.fr hw.size
        replace hF := hF.trans hw
        clear hs hF' hw
        refine seqR_nil ?_
        refine HT.ret ?_
        obtain rfl := Option.some.inj hr
        have hr := hr0
        replace hr : some _ = some _ := hr
        obtain rfl := Option.some.inj hr
        exact ⟨.inr rfl, [R 4], ⟨rfl, trivial⟩, h4, hF⟩
      · have hr := cnd_f c10 hr
        refine HT.skip ?_
        obtain ⟨e11, hr⟩ := ck_some hr
        refine HT.text (l := ⟨_, true, .raw (.int .i64 y5)⟩ :: ⟨_, true, .raw (.int .i64 (y5 + (1 : Int)))⟩ :: ⟨_, true, .raw (.int .i64 (y5 + (1 : Int)))⟩ :: []) (tl := []) (by kernel_rfl) (by kernel_rfl) (by kernel_rfl) ?_ ?_
        · exact
            Obls.cons (Obl.plain rfl rfl fun R' w' hw hs hd => by have a0 : R' 5 = .int .i64 y5 := (hs 5 rfl).trans h5; exact of_move a0) <|
            Obls.cons (Obl.plain rfl rfl fun R' w' hw hs hd => by have a0 : R' 10 = .int .i64 y5 := hd 0 _ _ _ rfl rfl rfl rfl rfl; exact of_add a0 rfl e11) <|
            Obls.cons (Obl.plain rfl rfl fun R' w' hw hs hd => by have a0 : R' 11 = .int .i64 (y5 + (1 : Int)) := hd 0 _ _ _ rfl rfl rfl rfl rfl; exact of_assign a0) <|
            Obls.nil
        intro R w hw hs hF'
        replace h0 : R 0 = v0 := (hs 0 rfl).trans h0
        replace h1 : R 1 = .int .i64 x8 := (hs 1 rfl).trans h1
        have h5 : R 5 = .int .i64 (y5 + (1 : Int)) := hF' 2 _ _ rfl rfl rfl
        replace f_v0 := f_v0.fr hw
        replace hA := hA.fr hw.size
        replace hF := hF.trans hw
        clear hs hF' hw
        refine seqR_nil ?_
        exact Exists.intro k (And.intro (Nat.lt_succ_self k) ⟨_, _, hr, hA, hF, h0, h1, h5, f_v0⟩)
    · have hr := cnd_f c6 hr
      refine HT.exit ?_
      obtain rfl := Option.some.inj hr
      exact Exists.intro _ ⟨rfl, hA, hF, h1⟩
  rintro R w ⟨s3, rfl, hA, hF, h1⟩
  have hr := exM_go hr
  refine HT.seq ?_
  refine HT.text (l := ⟨_, true, .raw (.int .i64 s3)⟩ :: ⟨_, true, .raw (.int .i64 s3)⟩ :: []) (tl := []) (by kernel_rfl) (by kernel_rfl) (by kernel_rfl) ?_ ?_
  · exact
      Obls.cons (Obl.plain rfl rfl fun R' w' hw hs hd => by have a0 : R' 1 = .int .i64 s3 := (hs 1 rfl).trans h1; exact of_move a0) <|
      Obls.cons (Obl.plain rfl rfl fun R' w' hw hs hd => by have a0 : R' 21 = .int .i64 s3 := hd 0 _ _ _ rfl rfl rfl rfl rfl; exact of_assign a0) <|
      Obls.nil
  intro R w hw hs hF'
  have h4 : R 4 = .int .i64 s3 := hF' 1 _ _ rfl rfl rfl
  replace hA := hA.fr hw.size
  replace hF := hF.trans hw
  clear hs hF' hw
  refine seqR_nil ?_
  refine HT.ret ?_
  obtain rfl := Option.some.inj hr
  exact ⟨.inr rfl, [R 4], ⟨rfl, trivial⟩, h4, hF⟩
def M_laws_heldRuleSet (fu : Nat) (p0 : T_impl_RuleSet) (p1 : Int) : Option Int :=
  cl true (M_laws_heldRuleS fu p0 p1) fun x2 =>
  bif (decide (x2 < (0 : Int))) then (
    some (-1 : Int)
  ) else (
    some x2
  )
set_option maxRecDepth 100000 in
set_option maxHeartbeats 4000000 in
theorem M_laws_heldRuleSet_ok {fu : Nat} {A0 : Av} {p0 : T_impl_RuleSet} {p1 : Int} {r : Int} (hr : M_laws_heldRuleSet fu p0 p1 = some r) {w : World} {v0 : Value} {v1 : Value} (hA : AvOK A0 w) (h0 : Rep E_impl_RuleSet A0 w v0 p0) (h1 : v1 = .int .i64 p1) :
    Calls Tryd.prog 8 #[v0, v1] w fun e w' => ∃ v, e = .returned v ∧ (v = .int .i64 r ∧ Fr w w') := by
  unfold M_laws_heldRuleSet at hr
  obtain ⟨w0, hw0⟩ : ∃ w0, w0 = w := ⟨_, rfl⟩
  have hF : Fr w0 w := hw0 ▸ Fr.refl _
  have hA0 : ∀ b o, A0 b o → b < w0.heap.size := fun b o h => hw0 ▸ hA b o h
  have hA00 : AvOK A0 w0 := hA0
  rw [show Fr w = Fr w0 from hw0 ▸ rfl]
  clear hw0
  obtain ⟨A, hAe⟩ : ∃ A, A = A0 := ⟨_, rfl⟩
  have hAA : ∀ b o, A0 b o → A b o := fun b o h => hAe ▸ h
  replace hA : AvOK A w := hAe ▸ hA
  have hO : IniOK [] A w := IniOK.nil
  refine calls_of_HT2 [.tmp 4] Tryd.func8 Tryd.ntmps8 (by decide) rfl rfl (Nat.le_of_ble_eq_true rfl) ?_
  intro R hR
  have f_v0 : Rep E_impl_RuleSet A w v0 p0 := hAe ▸ h0
  replace h0 : R 0 = v0 := hR 0 _ rfl
  replace h1 : R 1 = .int .i64 p1 := (hR 1 _ rfl).trans h1
  clear hR hAe
  refine HT.seq ?_
  refine HT.textR [] (⟨_, true, [], some (.box w0.heap.size 24 E_impl_RuleSet p0), true, fun A => .any⟩ :: ⟨_, true, [], none, true, fun A => .raw (.int .i64 (0 : Int))⟩ :: []) (by kernel_rfl) (by kernel_rfl) (Wf.mk' (by kernel_rfl) (UAll.cons ust_any (UAll.cons ust_raw (UAll.nil))) (by kernel_rfl) (by kernel_rfl)) hO hA ?_ ?_
  · exact
      OblsR.cons (OblR.made _ rfl rfl rfl rfl fun A' R' w' ho hd => by have a0 : R' 0 = v0 := (ho.old 0 rfl).trans h0; have ra0 := (f_v0.stp ho.stp).eq a0; exact made_box ra0 (Nat.le_trans hF.size ho.ch.size)) <|
      OblsR.cons (OblR.plain rfl rfl rfl rfl fun A' R' w' ho hd => by exact of_assign rfl) <|
      OblsR.nil
  intro done ρ σ A R w hdn hI
  replace h1 : R 1 = .int .i64 p1 := (hI.reg rfl).trans h1
  obtain ⟨b2_0, e_b2_0⟩ := hI.boxv hdn 0 rfl rfl
  have h2 : R 2 = (.pointer (some ⟨b2_0, 0, none⟩)) := (hI.opvR hdn 0 0 rfl rfl rfl rfl rfl).symm.trans e_b2_0
  replace hAA := hI.low' hAA hA0 (hO.ge (trivial))
  replace hF : Fr w0 w := hF.tr hI.ch (hO.ge (trivial))
  replace hO : IniOK [ob (.pointer (some ⟨b2_0, 0, none⟩)) (.box w0.heap.size 24 E_impl_RuleSet p0)] A w := hI.left hdn [(0, ob (.pointer (some ⟨b2_0, 0, none⟩)) (.box w0.heap.size 24 E_impl_RuleSet p0))] ⟨rfl, rfl, e_b2_0, rfl, rfl, trivial⟩
  replace hA := hI.avok
  clear hI
  refine HT.seq ?_
  obtain ⟨x2, q3, hr⟩ := cl_some hr
  refine HT.text (l := ⟨_, true, .raw (.pointer (some ⟨b2_0, 0, none⟩))⟩ :: ⟨_, true, .rep (eSl E_impl_Rule) A p0⟩ :: ⟨_, true, .raw (.int .i64 p1)⟩ :: ⟨_, true, .raw (.int .i64 x2)⟩ :: ⟨_, true, .raw (.int .i64 x2)⟩ :: []) (tl := []) (by kernel_rfl) (by kernel_rfl) (by kernel_rfl) ?_ ?_
  · exact
      Obls.cons (Obl.plain rfl rfl fun R' w' hw hs hd => by have a0 : R' 2 = (.pointer (some ⟨b2_0, 0, none⟩)) := (hs 2 rfl).trans h2; exact of_fieldAddr_raw a0 ff_24_0 Tryd.sizeOf22 (by decide) rfl) <|
      Obls.cons (Obl.plain rfl rfl fun R' w' hw hs hd => by have a0 : R' 5 = (.pointer (some ⟨b2_0, 0, none⟩)) := hd 0 _ _ _ rfl rfl rfl rfl rfl; exact (of_load_box ((hO.fr hw).ok 0 _ rfl).1 a0 fl_impl_RuleSet_0 rfl Tryd.isAgg22 Tryd.sizeOf22)) <|
      Obls.cons (Obl.plain rfl rfl fun R' w' hw hs hd => by have a0 : R' 1 = .int .i64 p1 := (hs 1 rfl).trans h1; exact of_move a0) <|
      Obls.cons (Obl.plain rfl rfl fun R' w' hw hs hd => by have a0 : Rep (eSl E_impl_Rule) A w' (R' 6) p0 := hd 0 _ _ _ rfl rfl rfl rfl rfl; have a1 : R' 7 = .int .i64 p1 := hd 1 _ _ _ rfl rfl rfl rfl rfl; exact of_call Tryd.call17 (M_laws_heldRuleS_ok (q3 rfl) (hA.fr hw.size) a0 a1)) <|
      Obls.cons (Obl.plain rfl rfl fun R' w' hw hs hd => by have a0 : R' 8 = .int .i64 x2 := hd 0 _ _ _ rfl rfl rfl rfl rfl; exact of_assign a0) <|
      Obls.nil
  intro R w hw hs hF'
  have h1 : R 1 = .int .i64 x2 := hF' 4 _ _ rfl rfl rfl
  replace hO := hO.fr hw
  replace hO : IniOK [] A w := hO.sub [] trivial
  replace hA := hA.fr hw.size
  replace hF := hF.trans hw
  clear hs hF' hw
  refine seqR_nil ?_
  refine HT.seq ?_
  refine HT.seq ?_
  refine HT.text (l := ⟨_, true, .raw (.int .i64 x2)⟩ :: ⟨_, true, .raw (.bool (decide (x2 < (0 : Int))))⟩ :: []) (tl := []) (by kernel_rfl) (by kernel_rfl) (by kernel_rfl) ?_ ?_
  · exact
      Obls.cons (Obl.plain rfl rfl fun R' w' hw hs hd => by have a0 : R' 1 = .int .i64 x2 := (hs 1 rfl).trans h1; exact of_move a0) <|
      Obls.cons (Obl.plain rfl rfl fun R' w' hw hs hd => by have a0 : R' 9 = .int .i64 x2 := hd 0 _ _ _ rfl rfl rfl rfl rfl; exact of_lss a0 rfl) <|
      Obls.nil
  intro R w hw hs hF'
  replace h1 : R 1 = .int .i64 x2 := (hs 1 rfl).trans h1
  have h10 : R 10 = .bool (decide (x2 < (0 : Int))) := hF' 1 _ _ rfl rfl rfl
  replace hO := hO.fr hw
  replace hA := hA.fr hw.size
  replace hF := hF.trans hw
  clear hs hF' hw
  refine seqR_nil ?_
  refine HT.cond (decide (x2 < (0 : Int))) h10 (fun c4 => ?_) (fun c4 => ?_)
  · have hr := cnd_t c4 hr
    refine HT.seq ?_
    refine HT.text (l := ⟨_, true, .raw (.int .i64 (-1 : Int))⟩ :: []) (tl := []) (by kernel_rfl) (by kernel_rfl) (by kernel_rfl) ?_ ?_
    · exact
        Obls.cons (Obl.plain rfl rfl fun R' w' hw hs hd => by exact of_assign rfl) <|
        Obls.nil
    intro R w hw hs hF'
    have h4 : R 4 = .int .i64 (-1 : Int) := hF' 0 _ _ rfl rfl rfl
    replace hO := hO.fr hw
    replace hA := hA.fr hw.size
    replace hF := hF.trans hw
    clear hs hF' hw
    refine seqR_nil ?_
    refine HT.ret ?_
    obtain rfl := Option.some.inj hr
    exact ⟨.inr rfl, [R 4], ⟨rfl, trivial⟩, h4, hF⟩
  · have hr := cnd_f c4 hr
    refine HT.skip ?_
    refine HT.seq ?_
    refine HT.text (l := ⟨_, true, .raw (.int .i64 x2)⟩ :: ⟨_, true, .raw (.int .i64 x2)⟩ :: []) (tl := []) (by kernel_rfl) (by kernel_rfl) (by kernel_rfl) ?_ ?_
    · exact
        Obls.cons (Obl.plain rfl rfl fun R' w' hw hs hd => by have a0 : R' 1 = .int .i64 x2 := (hs 1 rfl).trans h1; exact of_move a0) <|
        Obls.cons (Obl.plain rfl rfl fun R' w' hw hs hd => by have a0 : R' 11 = .int .i64 x2 := hd 0 _ _ _ rfl rfl rfl rfl rfl; exact of_assign a0) <|
        Obls.nil
    intro R w hw hs hF'
    have h4 : R 4 = .int .i64 x2 := hF' 1 _ _ rfl rfl rfl
    replace hO := hO.fr hw
    replace hA := hA.fr hw.size
    replace hF := hF.trans hw
    clear hs hF' hw
    refine seqR_nil ?_
    refine HT.ret ?_
    obtain rfl := Option.some.inj hr
    exact ⟨.inr rfl, [R 4], ⟨rfl, trivial⟩, h4, hF⟩
def M_laws_FnExactParseRules (fu : Nat) (p0 : List UInt8) : Option Bool :=
  bif (decide ((1048576 : Int) < (p0.length : Int))) then (
    some true
  ) else (
    cl true (M_spec_ParseRules fu p0) fun x2 =>
    cl true (M_impl_ParseRules fu p0) fun x7 =>
    cl true (M_laws_eqRuleSet fu x7.1 x2.1) fun x17 =>
    bd ((!x17) || (x7.2 != x2.2)) fun x19 =>
    bif x19 then (
      some false
    ) else (
      cl true (M_laws_markRuleSet fu x7.1 (1 : Int)) fun x24 =>
      cl true (M_laws_heldRuleSet fu x24.2 (1 : Int)) fun x32 =>
      bif (decide (x32 < (0 : Int))) then (
        some false
      ) else (
        bif (x32 != x24.1) then (
          some false
        ) else (
          cl true (M_impl_ParseRules fu p0) fun x36 =>
          cl true (M_laws_eqRuleSet fu x36.1 x2.1) fun x42 =>
          bd ((!x42) || (x36.2 != x2.2)) fun x44 =>
          bif x44 then (
            some false
          ) else (
            cl true (M_laws_heldRuleSet fu x24.2 (1 : Int)) fun x47 =>
            bif (decide (x47 < (0 : Int))) then (
              some false
            ) else (
              bif (x47 != x24.1) then (
                some false
              ) else (
                some true
              )
            )
          )
        )
      )
    )
  )
set_option maxRecDepth 100000 in
set_option maxHeartbeats 4000000 in
theorem M_laws_FnExactParseRules_ok {fu : Nat} {A0 : Av} {p0 : List UInt8} {r : Bool} (hr : M_laws_FnExactParseRules fu p0 = some r) {w : World} {v0 : Value} (hA : AvOK A0 w) (hG : GTab w) (h0 : Rep eStr A0 w v0 p0) :
    Calls Tryd.prog 3 #[v0] w fun e w' => ∃ v, e = .returned v ∧ (v = .bool r ∧ Fr w w') := by
  unfold M_laws_FnExactParseRules at hr
  obtain ⟨w0, hw0⟩ : ∃ w0, w0 = w := ⟨_, rfl⟩
  have hF : Fr w0 w := hw0 ▸ Fr.refl _
  have hA0 : ∀ b o, A0 b o → b < w0.heap.size := fun b o h => hw0 ▸ hA b o h
  have hA00 : AvOK A0 w0 := hA0
  rw [show Fr w = Fr w0 from hw0 ▸ rfl]
  have hG0 : GTab w0 := hw0 ▸ hG
  clear hw0
  obtain ⟨A, hAe⟩ : ∃ A, A = A0 := ⟨_, rfl⟩
  have hAA : ∀ b o, A0 b o → A b o := fun b o h => hAe ▸ h
  replace hA : AvOK A w := hAe ▸ hA
  have hO : IniOK [] A w := IniOK.nil
  refine calls_of_HT2 [.tmp 2] Tryd.func3 Tryd.ntmps3 (by decide) rfl rfl (Nat.le_of_ble_eq_true rfl) ?_
  intro R hR
  have f_v0 : Rep eStr A w v0 p0 := hAe ▸ h0
  replace h0 : R 0 = v0 := hR 0 _ rfl
  clear hR hAe
  refine HT.seq ?_
  refine HT.text (l := ⟨_, true, .raw (.bool false)⟩ :: []) (tl := []) (by kernel_rfl) (by kernel_rfl) (by kernel_rfl) ?_ ?_
  · exact
      Obls.cons (Obl.plain rfl rfl fun R' w' hw hs hd => by exact of_assign rfl) <|
      Obls.nil
  intro R w hw hs hF'
  replace h0 : R 0 = v0 := (hs 0 rfl).trans h0
  replace f_v0 := f_v0.fr hw
  replace hO := hO.fr hw
  replace hA := hA.fr hw.size
  replace hF := hF.trans hw
  clear hs hF' hw
  refine seqR_nil ?_
  refine HT.seq ?_
  refine HT.seq ?_
  refine HT.text (l := ⟨_, true, .raw v0⟩ :: ⟨_, true, .raw (.int .i64 (p0.length : Int))⟩ :: ⟨_, true, .raw (.bool (decide ((1048576 : Int) < (p0.length : Int))))⟩ :: []) (tl := []) (by kernel_rfl) (by kernel_rfl) (by kernel_rfl) ?_ ?_
  · exact
      Obls.cons (Obl.plain rfl rfl fun R' w' hw hs hd => by have a0 : R' 0 = v0 := (hs 0 rfl).trans h0; exact of_move a0) <|
      Obls.cons (Obl.plain rfl rfl fun R' w' hw hs hd => by have a0 : R' 11 = v0 := hd 0 _ _ _ rfl rfl rfl rfl rfl; have ra0 := (f_v0.fr hw).eq a0; exact of_len_str ra0 Tryd.underlying9) <|
      Obls.cons (Obl.plain rfl rfl fun R' w' hw hs hd => by have a0 : R' 12 = .int .i64 (p0.length : Int) := hd 0 _ _ _ rfl rfl rfl rfl rfl; exact of_gtr a0 rfl) <|
      Obls.nil
  intro R w hw hs hF'
  replace h0 : R 0 = v0 := (hs 0 rfl).trans h0
  have h13 : R 13 = .bool (decide ((1048576 : Int) < (p0.length : Int))) := hF' 2 _ _ rfl rfl rfl
  replace f_v0 := f_v0.fr hw
  replace hO := hO.fr hw
  replace hA := hA.fr hw.size
  replace hF := hF.trans hw
  clear hs hF' hw
  refine seqR_nil ?_
  refine HT.cond (decide ((1048576 : Int) < (p0.length : Int))) h13 (fun c1 => ?_) (fun c1 => ?_)
  · have hr := cnd_t c1 hr
    refine HT.seq ?_
    refine HT.text (l := ⟨_, true, .raw (.bool true)⟩ :: []) (tl := []) (by kernel_rfl) (by kernel_rfl) (by kernel_rfl) ?_ ?_
    · exact
        Obls.cons (Obl.plain rfl rfl fun R' w' hw hs hd => by exact of_assign rfl) <|
        Obls.nil
    intro R w hw hs hF'
    have h2 : R 2 = .bool true := hF' 0 _ _ rfl rfl rfl
    replace hO := hO.fr hw
    replace hA := hA.fr hw.size
    replace hF := hF.trans hw
    clear hs hF' hw
    refine seqR_nil ?_
    refine HT.ret ?_
    obtain rfl := Option.some.inj hr
    exact ⟨.inr rfl, [R 2], ⟨rfl, trivial⟩, h2, hF⟩
  · have hr := cnd_f c1 hr
    refine HT.skip ?_
    refine HT.seq ?_
    obtain ⟨x2, q3, hr⟩ := cl_some hr
    refine HT.textR [] (⟨_, true, [], none, true, fun A => .raw v0⟩ :: ⟨_, true, [], none, true, fun A => .tup2 (.rep E_impl_RuleSet A x2.1) (.raw (.bool x2.2))⟩ :: ⟨_, true, [], none, true, fun A => .tup2 (.rep E_impl_RuleSet A x2.1) (.raw (.bool x2.2))⟩ :: ⟨_, true, [], none, true, fun A => .rep E_impl_RuleSet A x2.1⟩ :: ⟨_, true, [], none, true, fun A => .raw (.bool x2.2)⟩ :: ⟨_, true, [], some (.box w0.heap.size 24 E_impl_RuleSet ([] : List T_impl_Rule)), true, fun A => .any⟩ :: ⟨_, true, [5], some (.box w0.heap.size 24 E_impl_RuleSet x2.1), false, fun A => .any⟩ :: ⟨_, true, [], none, true, fun A => .raw (.bool x2.2)⟩ :: []) (by kernel_rfl) (by kernel_rfl) (Wf.mk' (by kernel_rfl) (UAll.cons ust_raw (UAll.cons (ust_tup2 ust_rep ust_raw) (UAll.cons (ust_tup2 ust_rep ust_raw) (UAll.cons ust_rep (UAll.cons ust_raw (UAll.cons ust_any (UAll.cons ust_any (UAll.cons ust_raw (UAll.nil))))))))) (by kernel_rfl) (by kernel_rfl)) hO hA ?_ ?_
    · exact
        OblsR.cons (OblR.plain rfl rfl rfl rfl fun A' R' w' ho hd => by have a0 : R' 0 = v0 := (ho.old 0 rfl).trans h0; exact of_move a0) <|
        OblsR.cons (OblR.plain rfl rfl rfl rfl fun A' R' w' ho hd => by have a0 : R' 15 = v0 := hd 0 _ _ _ rfl rfl rfl rfl rfl; have ra0 := (f_v0.stp ho.stp).eq a0; exact of_call Tryd.call4 (M_spec_ParseRules_ok (q3 rfl) ho.av ra0)) <|
        OblsR.cons (OblR.plain rfl rfl rfl rfl fun A' R' w' ho hd => by have a0 : Fact.ok (.tup2 (.rep E_impl_RuleSet A' x2.1) (.raw (.bool x2.2))) (R' 16) w' := hd 0 _ _ _ rfl rfl rfl rfl rfl; exact of_move a0) <|
        OblsR.cons (OblR.plain rfl rfl rfl rfl fun A' R' w' ho hd => by have a0 : Fact.ok (.tup2 (.rep E_impl_RuleSet A' x2.1) (.raw (.bool x2.2))) (R' 14) w' := hd 0 _ _ _ rfl rfl rfl rfl rfl; exact of_extract2_0 a0) <|
        OblsR.cons (OblR.plain rfl rfl rfl rfl fun A' R' w' ho hd => by have a0 : Fact.ok (.tup2 (.rep E_impl_RuleSet A' x2.1) (.raw (.bool x2.2))) (R' 14) w' := hd 0 _ _ _ rfl rfl rfl rfl rfl; exact of_extract2_1 a0) <|
        OblsR.cons (OblR.made _ rfl rfl rfl rfl fun A' R' w' ho hd => by exact made_alloc Tryd.zeroValue24 (fun A w => rep1_nil) (Nat.le_trans hF.size ho.ch.size)) <|
        OblsR.cons (OblR.took 5 _ _ rfl rfl rfl rfl rfl fun A' R' w' ho hd u hok hav hin hop hds => by have a1 : Rep E_impl_RuleSet A' w' (R' 17) x2.1 := hd 1 _ _ _ rfl rfl rfl rfl rfl; obtain ⟨b, hb, hB', hbx⟩ := hok; have hop' := hop _ _ rfl rfl rfl rfl; exact took_store a1 (hop'.symm.trans hb) hb ⟨b, hb, hB', hbx⟩ hav (FldS.id _) Tryd.sizeOf24 rfl) <|
        OblsR.cons (OblR.plain rfl rfl rfl rfl fun A' R' w' ho hd => by have a0 : R' 18 = .bool x2.2 := hd 0 _ _ _ rfl rfl rfl rfl rfl; exact of_assign a0) <|
        OblsR.nil
    intro done ρ σ A R w hdn hI
    replace h0 : R 0 = v0 := (hI.reg rfl).trans h0
    obtain ⟨b3_3, e_b3_3⟩ := hI.boxv hdn 6 rfl rfl
    have z5 := (hI.opnR hdn 6 6 rfl rfl rfl rfl rfl).symm.trans e_b3_3
    have h3 : R 3 = (.pointer (some ⟨b3_3, 0, none⟩)) := (hI.opvR hdn 5 5 rfl rfl rfl rfl rfl).symm.trans z5
    have h4 : R 4 = .bool x2.2 := hI.fact hdn (i := 7) rfl rfl rfl
    replace f_v0 := f_v0.stp hI.stp
    replace hAA := hI.low' hAA hA0 (hO.ge (trivial))
    replace hF : Fr w0 w := hF.tr hI.ch (hO.ge (trivial))
    replace hO : IniOK [ob (.pointer (some ⟨b3_3, 0, none⟩)) (.box w0.heap.size 24 E_impl_RuleSet x2.1)] A w := hI.left hdn [(6, ob (.pointer (some ⟨b3_3, 0, none⟩)) (.box w0.heap.size 24 E_impl_RuleSet x2.1))] ⟨rfl, rfl, e_b3_3, rfl, rfl, trivial⟩
    replace hA := hI.avok
    clear hI
    refine HT.seq ?_
    refine SG.of ?_
    refine SG.textR [ob (.pointer (some ⟨b3_3, 0, none⟩)) (.box w0.heap.size 24 E_impl_RuleSet x2.1)] (⟨_, true, [], none, true, fun A => .raw v0⟩ :: []) 1 rfl rfl rfl (by kernel_rfl) (by kernel_rfl) (Wf.mk' (by kernel_rfl) (UAll.cons ust_raw (UAll.nil)) (by kernel_rfl) (by kernel_rfl)) hO hA (trivial) ?_ ?_
    · exact
        OblsR.cons (OblR.plain rfl rfl rfl rfl fun A' R' w' ho hd => by have a0 : R' 0 = v0 := (ho.old 0 rfl).trans h0; exact of_move a0) <|
        OblsR.nil
    intro done ρ σ A R w hdn hI
    replace h0 : R 0 = v0 := (hI.reg rfl).trans h0
    replace h3 : R 3 = (.pointer (some ⟨b3_3, 0, none⟩)) := (hI.reg rfl).trans h3
    replace h4 : R 4 = .bool x2.2 := (hI.reg rfl).trans h4
    have z6 := hI.inivR 0 rfl
    have h20 : R 20 = v0 := hI.fact hdn (i := 0) rfl rfl rfl
    replace f_v0 := f_v0.stp hI.stp
    replace hAA := hI.low' hAA hA0 (hO.ge (⟨rfl, trivial⟩))
    replace hF : Fr w0 w := hF.tr hI.ch (hO.ge (⟨rfl, trivial⟩))
    replace hO : IniOK [ob (.pointer (some ⟨b3_3, 0, none⟩)) (.box w0.heap.size 24 E_impl_RuleSet x2.1)] A w := hI.left hdn [(0, ob (.pointer (some ⟨b3_3, 0, none⟩)) (.box w0.heap.size 24 E_impl_RuleSet x2.1))] ⟨rfl, rfl, z6, rfl, rfl, trivial⟩
    replace hA := hI.avok
    clear hI
    obtain ⟨x7, q8, hr⟩ := cl_some hr
    have hFz : w0.heap.size ≤ w.heap.size := hF.size
    refine SG.op 21 rfl rfl rfl rfl (call_run Tryd.call5 (M_impl_ParseRules_ok (q8 rfl) hA (hG0.fr hF) (f_v0.eq h20))) ?_
    rintro v_ w ⟨u9, S10, A, hG1, hv⟩ R hs hd
    obtain ⟨hO2, hst⟩ := GPost.next0 hO hA hG1
    replace hO := hO2
    replace hA := hG1.avok
    replace hAA : ∀ b o, A0 b o → A b o := fun b o h => hG1.low b o (hAA b o h)
    replace hF : Fr w0 w := hF.trans hG1.ch.no
    replace hO := hO.reK (K' := geB w0.heap.size) 0 rfl (fun k hk => Nat.le_trans hFz hk)
    replace hO : IniOK [⟨u9, S10, trR (geB w0.heap.size) (oBx (oSl 32 (oBx (oSl 36 (oRd E_impl_Test))))) x7.1 []⟩, ob (.pointer (some ⟨b3_3, 0, none⟩)) (.box w0.heap.size 24 E_impl_RuleSet x2.1)] A w := hO
    replace h0 : R 0 = v0 := (hs 0 rfl).trans h0
    replace h3 : R 3 = (.pointer (some ⟨b3_3, 0, none⟩)) := (hs 3 rfl).trans h3
    replace h4 : R 4 = .bool x2.2 := (hs 4 rfl).trans h4
    replace h20 : R 20 = v0 := (hs 20 rfl).trans h20
    replace f_v0 := f_v0.stp hst
    have h21 : Fact.ok (.tup2 (.raw u9) (.raw (.bool x7.2))) (R 21) w := hd ▸ hv
    clear hFz hG1 hv hs hd
    refine SG.textR [⟨u9, S10, trR (geB w0.heap.size) (oBx (oSl 32 (oBx (oSl 36 (oRd E_impl_Test))))) x7.1 []⟩, ob (.pointer (some ⟨b3_3, 0, none⟩)) (.box w0.heap.size 24 E_impl_RuleSet x2.1)] (⟨_, true, [], none, true, fun A => .raw v0⟩ :: ⟨_, true, [], none, true, fun A => .tup2 (.raw u9) (.raw (.bool x7.2))⟩ :: ⟨_, true, [], none, true, fun A => .tup2 (.raw u9) (.raw (.bool x7.2))⟩ :: ⟨_, true, [], none, true, fun A => .raw u9⟩ :: ⟨_, true, [], none, true, fun A => .raw (.bool x7.2)⟩ :: ⟨_, true, [], some (trR (geB w0.heap.size) (oPt 24 (oBx (oSl 32 (oBx (oSl 36 (oRd E_impl_Test)))))) ([] : List T_impl_Rule) []), true, fun A => .any⟩ :: ⟨_, true, [7, 0], some (trR (geB w0.heap.size) (oPt 24 (oBx (oSl 32 (oBx (oSl 36 (oRd E_impl_Test)))))) x7.1 []), false, fun A => .any⟩ :: ⟨_, true, [], none, true, fun A => .raw (.bool x7.2)⟩ :: []) 8 rfl rfl rfl (by kernel_rfl) (by kernel_rfl) (Wf.mk' (by kernel_rfl) (UAll.cons ust_raw (UAll.cons (ust_tup2 ust_raw ust_raw) (UAll.cons (ust_tup2 ust_raw ust_raw) (UAll.cons ust_raw (UAll.cons ust_raw (UAll.cons ust_any (UAll.cons ust_any (UAll.cons ust_raw (UAll.nil))))))))) (by kernel_rfl) (by kernel_rfl)) hO hA (⟨⟨rfl, rfl, rfl, h20⟩, ⟨⟨rfl, rfl, rfl, h21⟩, trivial⟩⟩) ?_ ?_
    · exact
        OblsR.cons (OblR.plain rfl rfl rfl rfl fun A' R' w' ho hd => by have a0 : Fact.ok (.tup2 (.raw u9) (.raw (.bool x7.2))) (R' 21) w' := hd 0 _ _ _ rfl rfl rfl rfl rfl; exact of_move a0) <|
        OblsR.cons (OblR.plain rfl rfl rfl rfl fun A' R' w' ho hd => by have a0 : Fact.ok (.tup2 (.raw u9) (.raw (.bool x7.2))) (R' 19) w' := hd 0 _ _ _ rfl rfl rfl rfl rfl; exact of_extract2_0 a0) <|
        OblsR.cons (OblR.plain rfl rfl rfl rfl fun A' R' w' ho hd => by have a0 : Fact.ok (.tup2 (.raw u9) (.raw (.bool x7.2))) (R' 19) w' := hd 0 _ _ _ rfl rfl rfl rfl rfl; exact of_extract2_1 a0) <|
        OblsR.cons (OblR.madeS _ rfl rfl rfl rfl fun A' R' w' ho hd => by exact made_allocT Tryd.zeroValue24 (fun A w => own_nil) (fun k hk => Nat.le_trans (Nat.le_trans hF.size ho.ch.size) hk)) <|
        OblsR.cons (OblR.tookM 7 [0] _ rfl rfl rfl rfl fun A' R' w' ho hd ρ σ hok hav hin hop hds hdd => by have a1 : R' 22 = u9 := hd 1 _ _ _ rfl rfl rfl rfl rfl; have k1 := hok 7 (.head _) _ rfl; exact took_put2 rfl (tr_root k1.2.2).ptr (hok 0 (.tail _ (.head _)) _ rfl).2.2.1 (a1.trans (hin 0 (.tail _ (.head _)) _ rfl).1.symm) (hop 7 (.head _) _ _ rfl rfl rfl rfl).symm hav hdd k1.2.1 (hok 0 (.tail _ (.head _)) _ rfl).2.1 Tryd.sizeOf24 (fun _ _ _ h => h)) <|
        OblsR.cons (OblR.plain rfl rfl rfl rfl fun A' R' w' ho hd => by have a0 : R' 23 = .bool x7.2 := hd 0 _ _ _ rfl rfl rfl rfl rfl; exact of_assign a0) <|
        OblsR.nil
    intro done ρ σ A R w hdn hI
    replace h0 : R 0 = v0 := (hI.reg rfl).trans h0
    replace h3 : R 3 = (.pointer (some ⟨b3_3, 0, none⟩)) := (hI.reg rfl).trans h3
    replace h4 : R 4 = .bool x2.2 := (hI.reg rfl).trans h4
    have z11 := hI.inivR 1 rfl
    obtain ⟨u12, e_u12⟩ : ∃ u, ρ 8 = u := ⟨_, rfl⟩
    have z13 := (hI.opnR hdn 8 6 rfl rfl rfl rfl rfl).symm.trans e_u12
    have h5 : R 5 = u12 := (hI.opvR hdn 7 5 rfl rfl rfl rfl rfl).symm.trans z13
    obtain ⟨S14, eS_u12⟩ : ∃ S, σ 8 = S := ⟨_, rfl⟩
    have h6 : R 6 = .bool x7.2 := hI.fact hdn (i := 7) rfl rfl rfl
    replace f_v0 := f_v0.stp hI.stp
    replace hAA := hI.low' hAA hA0 (hO.ge (⟨fun _ h => h, ⟨rfl, trivial⟩⟩))
    replace hF : Fr w0 w := hF.tr hI.ch (hO.ge (⟨fun _ h => h, ⟨rfl, trivial⟩⟩))
    replace hO : IniOK [ob (.pointer (some ⟨b3_3, 0, none⟩)) (.box w0.heap.size 24 E_impl_RuleSet x2.1), ⟨u12, S14, trR (geB w0.heap.size) (oPt 24 (oBx (oSl 32 (oBx (oSl 36 (oRd E_impl_Test)))))) x7.1 []⟩] A w := hI.left hdn [(1, ob (.pointer (some ⟨b3_3, 0, none⟩)) (.box w0.heap.size 24 E_impl_RuleSet x2.1)), (8, ⟨u12, S14, trR (geB w0.heap.size) (oPt 24 (oBx (oSl 32 (oBx (oSl 36 (oRd E_impl_Test)))))) x7.1 []⟩)] ⟨rfl, rfl, z11, rfl, rfl, ⟨rfl, rfl, e_u12, eS_u12, rfl, trivial⟩⟩
    replace hA := hI.avok
    clear hI
    refine SG.fin rfl ?_
    refine HT.seq ?_
    refine HT.seq ?_
    obtain ⟨h15, l_h15, p_h15⟩ := ((tr_root (hO.own 1 _ rfl).2).ptr).open
    replace hO : IniOK [ob (.pointer (some ⟨b3_3, 0, none⟩)) (.box w0.heap.size 24 E_impl_RuleSet x2.1), ⟨u12, S14, trR (geB w0.heap.size) (oPt 24 (oBx (oSl 32 (oBx (oSl 36 (oRd E_impl_Test)))))) x7.1 [(u12, h15)]⟩] A w := hO.repin 1 rfl (trP.pin p_h15)
    obtain ⟨x17, q18, hr⟩ := cl_some hr
    obtain ⟨x19, q20, hr⟩ := bd_some hr
    refine HT.text (l := ⟨_, true, .raw (Enc.val E_impl_RuleSet h15)⟩ :: ⟨_, true, .rep E_impl_RuleSet A x2.1⟩ :: ⟨_, true, .raw (.bool x17)⟩ :: ⟨_, true, .raw (.bool (!x17))⟩ :: ⟨_, true, .raw (.bool (!x17))⟩ :: ⟨_, (true && ((!x17) == false)), .raw (.bool x7.2)⟩ :: ⟨_, (true && ((!x17) == false)), .raw (.bool x2.2)⟩ :: ⟨_, (true && ((!x17) == false)), .raw (.bool (x7.2 != x2.2))⟩ :: ⟨_, true, .raw (.bool x19)⟩ :: []) (tl := []) (by kernel_rfl) (by kernel_rfl) (by kernel_rfl) ?_ ?_
    · exact
        Obls.cons (Obl.plain rfl rfl fun R' w' hw hs hd => by have a0 : R' 5 = u12 := (hs 5 rfl).trans h5; exact of_load_pinS (F := oBx (oSl 32 (oBx (oSl 36 (oRd E_impl_Test))))) (((hO.fr hw).own 1 _ rfl).2.2 _ (.head _)) l_h15 a0 Tryd.isAgg24 Tryd.sizeOf24) <|
        Obls.cons (Obl.plain rfl rfl fun R' w' hw hs hd => by have a0 : R' 3 = (.pointer (some ⟨b3_3, 0, none⟩)) := (hs 3 rfl).trans h3; exact (of_load_box ((hO.fr hw).ok 0 _ rfl).1 a0 (Fld.id _) rfl Tryd.isAgg24 Tryd.sizeOf24)) <|
        Obls.cons (Obl.plain rfl rfl fun R' w' hw hs hd => by have a0 : R' 24 = (Enc.val E_impl_RuleSet h15) := hd 0 _ _ _ rfl rfl rfl rfl rfl; have ra0 : Rep E_impl_RuleSet A0 w' (R' 24) _ := (vh_rep (((tr_root ((hO.fr hw).own 1 _ rfl).2).ptr).pinS (((hO.fr hw).own 1 _ rfl).2.2 _ (.head _)) l_h15) hAA (fun k o hk ha => Nat.not_lt.2 (((hO.fr hw).own 1 _ rfl).1 k hk) (hA0 k o ha))).eq a0; have a1 : Rep E_impl_RuleSet A w' (R' 25) x2.1 := hd 1 _ _ _ rfl rfl rfl rfl rfl; exact of_call Tryd.call6 (M_laws_eqRuleSet_ok (q18 rfl) (hA00.fr ((Nat.le_trans hF.size hw.size))) ra0 (a1.down hAA))) <|
        Obls.cons (Obl.plain rfl rfl fun R' w' hw hs hd => by have a0 : R' 26 = .bool x17 := hd 0 _ _ _ rfl rfl rfl rfl rfl; exact of_not a0) <|
        Obls.cons (Obl.plain rfl rfl fun R' w' hw hs hd => by have a0 : R' 27 = .bool (!x17) := hd 0 _ _ _ rfl rfl rfl rfl rfl; exact of_move a0) <|
        Obls.cons (Obl.grd 4 false _ _ _ rfl rfl rfl rfl rfl (by kernel_rfl) fun hg R' w' hw hs hd => by have a0 : R' 6 = .bool x7.2 := (hs 6 rfl).trans h6; exact of_move a0) <|
        Obls.cons (Obl.grd 4 false _ _ _ rfl rfl rfl rfl rfl (by kernel_rfl) fun hg R' w' hw hs hd => by have a0 : R' 4 = .bool x2.2 := (hs 4 rfl).trans h4; exact of_move a0) <|
        Obls.cons (Obl.grd 4 false _ _ _ rfl rfl rfl rfl rfl (by kernel_rfl) fun hg R' w' hw hs hd => by have a0 : R' 29 = .bool x7.2 := hd 0 _ _ _ rfl rfl rfl rfl hg; have a1 : R' 30 = .bool x2.2 := hd 1 _ _ _ rfl rfl rfl rfl hg; exact of_bneq Tryd.underlying4 a0 a1) <|
        Obls.cons (Obl.plain rfl rfl fun R' w' hw hs hd => by have a0 : R' 28 = .bool (!x17) := hd 0 _ _ _ rfl rfl rfl rfl rfl; exact of_pick (!x17) a0 (fun hc => by show _ = Value.bool x19; rw [q20, hc]; exact rfl) (fun hc => by have a2 : R' 31 = .bool (x7.2 != x2.2) := hd 1 _ _ _ rfl rfl rfl rfl (g_and rfl (beq_of hc)); show _ = Value.bool x19; rw [q20, hc]; exact a2)) <|
        Obls.nil
    intro R w hw hs hF'
    replace h0 : R 0 = v0 := (hs 0 rfl).trans h0
    replace h3 : R 3 = (.pointer (some ⟨b3_3, 0, none⟩)) := (hs 3 rfl).trans h3
    replace h4 : R 4 = .bool x2.2 := (hs 4 rfl).trans h4
    replace h5 : R 5 = u12 := (hs 5 rfl).trans h5
    have h32 : R 32 = .bool x19 := hF' 8 _ _ rfl rfl rfl
    replace f_v0 := f_v0.fr hw
    replace hO := hO.fr hw
    replace hA := hA.fr hw.size
    replace hF := hF.trans hw
    clear hs hF' hw
    refine seqR_nil ?_
    replace hO : IniOK [ob (.pointer (some ⟨b3_3, 0, none⟩)) (.box w0.heap.size 24 E_impl_RuleSet x2.1), ⟨u12, S14, trR (geB w0.heap.size) (oPt 24 (oBx (oSl 32 (oBx (oSl 36 (oRd E_impl_Test)))))) x7.1 []⟩] A w := hO.repin 1 rfl trP.nopin
    refine HT.cond x19 h32 (fun c21 => ?_) (fun c21 => ?_)
    · have hr := cnd_t c21 hr
      refine HT.seq ?_
      refine HT.text (l := ⟨_, true, .raw (.bool false)⟩ :: []) (tl := []) (by kernel_rfl) (by kernel_rfl) (by kernel_rfl) ?_ ?_
      · exact
          Obls.cons (Obl.plain rfl rfl fun R' w' hw hs hd => by exact of_assign rfl) <|
          Obls.nil
      intro R w hw hs hF'
      have h2 : R 2 = .bool false := hF' 0 _ _ rfl rfl rfl
      replace hO := hO.fr hw
      replace hO : IniOK [] A w := hO.sub [] trivial
      replace hA := hA.fr hw.size
      replace hF := hF.trans hw
      clear hs hF' hw
      refine seqR_nil ?_
      refine HT.ret ?_
      obtain rfl := Option.some.inj hr
      exact ⟨.inr rfl, [R 2], ⟨rfl, trivial⟩, h2, hF⟩
    · have hr := cnd_f c21 hr
      refine HT.skip ?_
      refine HT.seq ?_
      refine HT.text (l := ⟨_, true, .raw (.int .i64 (1 : Int))⟩ :: []) (tl := []) (by kernel_rfl) (by kernel_rfl) (by kernel_rfl) ?_ ?_
      · exact
          Obls.cons (Obl.plain rfl rfl fun R' w' hw hs hd => by exact of_assign rfl) <|
          Obls.nil
      intro R w hw hs hF'
      replace h0 : R 0 = v0 := (hs 0 rfl).trans h0
      replace h3 : R 3 = (.pointer (some ⟨b3_3, 0, none⟩)) := (hs 3 rfl).trans h3
      replace h4 : R 4 = .bool x2.2 := (hs 4 rfl).trans h4
      replace h5 : R 5 = u12 := (hs 5 rfl).trans h5
      have h7 : R 7 = .int .i64 (1 : Int) := hF' 0 _ _ rfl rfl rfl
      replace f_v0 := f_v0.fr hw
      replace hO := hO.fr hw
      replace hA := hA.fr hw.size
      replace hF := hF.trans hw
      clear hs hF' hw
      refine seqR_nil ?_
      refine HT.seq ?_
      obtain ⟨h22, l_h22, p_h22⟩ := ((tr_root (hO.own 1 _ rfl).2).ptr).open
      replace hO : IniOK [ob (.pointer (some ⟨b3_3, 0, none⟩)) (.box w0.heap.size 24 E_impl_RuleSet x2.1), ⟨u12, S14, trR (geB w0.heap.size) (oPt 24 (oBx (oSl 32 (oBx (oSl 36 (oRd E_impl_Test)))))) x7.1 [(u12, h22)]⟩] A w := hO.repin 1 rfl (trP.pin p_h22)
      obtain ⟨x24, q25, hr⟩ := cl_some hr
      refine HT.textR [ob (.pointer (some ⟨b3_3, 0, none⟩)) (.box w0.heap.size 24 E_impl_RuleSet x2.1), ⟨u12, S14, trR (geB w0.heap.size) (oPt 24 (oBx (oSl 32 (oBx (oSl 36 (oRd E_impl_Test)))))) x7.1 [(u12, h22)]⟩] (⟨_, true, [], none, true, fun A => .raw (Enc.val E_impl_RuleSet h22)⟩ :: ⟨_, true, [], none, true, fun A => .raw (.int .i64 (1 : Int))⟩ :: ⟨_, true, [1], some (trR (geB w0.heap.size) (oPt 24 (oBx (oSl 32 (oBx (oSl 36 (oRd E_impl_Test)))))) x24.2 []), false, fun A => .raw (.int .i64 x24.1)⟩ :: ⟨_, true, [], none, true, fun A => .raw (.int .i64 x24.1)⟩ :: []) (by kernel_rfl) (by kernel_rfl) (Wf.mk' (by kernel_rfl) (UAll.cons ust_raw (UAll.cons ust_raw (UAll.cons ust_raw (UAll.cons ust_raw (UAll.nil))))) (by kernel_rfl) (by kernel_rfl)) hO hA ?_ ?_
      · exact
          OblsR.cons (OblR.plain rfl rfl rfl rfl fun A' R' w' ho hd => by have a0 : R' 5 = u12 := (ho.old 5 rfl).trans h5; exact of_load_pinS (F := oBx (oSl 32 (oBx (oSl 36 (oRd E_impl_Test))))) ((ho.rdo 1 _ rfl rfl).2.2 _ (.head _)) l_h22 a0 Tryd.isAgg24 Tryd.sizeOf24) <|
          OblsR.cons (OblR.plain rfl rfl rfl rfl fun A' R' w' ho hd => by have a0 : R' 7 = .int .i64 (1 : Int) := (ho.old 7 rfl).trans h7; exact of_move a0) <|
          OblsR.cons (OblR.tookS 1 _ _ rfl rfl rfl rfl rfl fun A' R' w' ho hd u S hok hown hav hin hop hds => by have a0 : R' 33 = (Enc.val E_impl_RuleSet h22) := hd 0 _ _ _ rfl rfl rfl rfl rfl; have a1 : R' 34 = .int .i64 (1 : Int) := hd 1 _ _ _ rfl rfl rfl rfl rfl; have e0 := (hin _ rfl).1; rw [e0] at hown ⊢; have hu0 : evalR R' (.tmp 33) = (Enc.val E_impl_RuleSet h22) := a0; exact took_callT Tryd.call7 (((tr_root hown.2).ptr).pinS (hown.2.2 _ (.head _)) l_h22) hav hown.1 (fun k hk => Nat.le_trans (Nat.le_trans hF.size ho.ch.size) hk) (fun k hk => SP.lt _ hown.2 hk) (fun S1 hS1 hP => by simp only [List.map, hu0]; exact M_laws_markRuleSet_ok (q25 rfl) (ho.av.subS _) (fun b o h => h.2) hP a1) (fun _ _ _ h => h)) <|
          OblsR.cons (OblR.plain rfl rfl rfl rfl fun A' R' w' ho hd => by have a0 : R' 35 = .int .i64 x24.1 := hd 0 _ _ _ rfl rfl rfl rfl rfl; exact of_assign a0) <|
          OblsR.nil
      intro done ρ σ A R w hdn hI
      replace h0 : R 0 = v0 := (hI.reg rfl).trans h0
      replace h3 : R 3 = (.pointer (some ⟨b3_3, 0, none⟩)) := (hI.reg rfl).trans h3
      replace h4 : R 4 = .bool x2.2 := (hI.reg rfl).trans h4
      replace h5 : R 5 = u12 := (hI.reg rfl).trans h5
      have z26 := hI.inivR 0 rfl
      have z27 := hI.inivR 1 rfl
      have z28 := (hI.opnR hdn 4 2 rfl rfl rfl rfl rfl).trans z27
      obtain ⟨S29, eS_u12⟩ : ∃ S, σ 4 = S := ⟨_, rfl⟩
      have h7 : R 7 = .int .i64 x24.1 := hI.fact hdn (i := 3) rfl rfl rfl
      replace f_v0 := f_v0.stp hI.stp
      replace hAA := hI.low' hAA hA0 (hO.ge (⟨rfl, ⟨fun _ h => h, trivial⟩⟩))
      replace hF : Fr w0 w := hF.tr hI.ch (hO.ge (⟨rfl, ⟨fun _ h => h, trivial⟩⟩))
      replace hO : IniOK [ob (.pointer (some ⟨b3_3, 0, none⟩)) (.box w0.heap.size 24 E_impl_RuleSet x2.1), ⟨u12, S29, trR (geB w0.heap.size) (oPt 24 (oBx (oSl 32 (oBx (oSl 36 (oRd E_impl_Test)))))) x24.2 []⟩] A w := hI.left hdn [(0, ob (.pointer (some ⟨b3_3, 0, none⟩)) (.box w0.heap.size 24 E_impl_RuleSet x2.1)), (4, ⟨u12, S29, trR (geB w0.heap.size) (oPt 24 (oBx (oSl 32 (oBx (oSl 36 (oRd E_impl_Test)))))) x24.2 []⟩)] ⟨rfl, rfl, z26, rfl, rfl, ⟨rfl, rfl, z28, eS_u12, rfl, trivial⟩⟩
      replace hA := hI.avok
      clear hI
      refine HT.seq ?_
      refine HT.text (l := ⟨_, true, .raw (.int .i64 (1 : Int))⟩ :: []) (tl := []) (by kernel_rfl) (by kernel_rfl) (by kernel_rfl) ?_ ?_
      · exact
          Obls.cons (Obl.plain rfl rfl fun R' w' hw hs hd => by exact of_assign rfl) <|
          Obls.nil
      intro R w hw hs hF'
      replace h0 : R 0 = v0 := (hs 0 rfl).trans h0
      replace h3 : R 3 = (.pointer (some ⟨b3_3, 0, none⟩)) := (hs 3 rfl).trans h3
      replace h4 : R 4 = .bool x2.2 := (hs 4 rfl).trans h4
      replace h5 : R 5 = u12 := (hs 5 rfl).trans h5
      replace h7 : R 7 = .int .i64 x24.1 := (hs 7 rfl).trans h7
      have h8 : R 8 = .int .i64 (1 : Int) := hF' 0 _ _ rfl rfl rfl
      replace f_v0 := f_v0.fr hw
      replace hO := hO.fr hw
      replace hA := hA.fr hw.size
      replace hF := hF.trans hw
      clear hs hF' hw
      refine seqR_nil ?_
      refine HT.seq ?_
      obtain ⟨h30, l_h30, p_h30⟩ := ((tr_root (hO.own 1 _ rfl).2).ptr).open
      replace hO : IniOK [ob (.pointer (some ⟨b3_3, 0, none⟩)) (.box w0.heap.size 24 E_impl_RuleSet x2.1), ⟨u12, S29, trR (geB w0.heap.size) (oPt 24 (oBx (oSl 32 (oBx (oSl 36 (oRd E_impl_Test)))))) x24.2 [(u12, h30)]⟩] A w := hO.repin 1 rfl (trP.pin p_h30)
      obtain ⟨x32, q33, hr⟩ := cl_some hr
      refine HT.text (l := ⟨_, true, .raw (Enc.val E_impl_RuleSet h30)⟩ :: ⟨_, true, .raw (.int .i64 (1 : Int))⟩ :: ⟨_, true, .raw (.int .i64 x32)⟩ :: ⟨_, true, .raw (.int .i64 x32)⟩ :: []) (tl := []) (by kernel_rfl) (by kernel_rfl) (by kernel_rfl) ?_ ?_
      · exact
          Obls.cons (Obl.plain rfl rfl fun R' w' hw hs hd => by have a0 : R' 5 = u12 := (hs 5 rfl).trans h5; exact of_load_pinS (F := oBx (oSl 32 (oBx (oSl 36 (oRd E_impl_Test))))) (((hO.fr hw).own 1 _ rfl).2.2 _ (.head _)) l_h30 a0 Tryd.isAgg24 Tryd.sizeOf24) <|
          Obls.cons (Obl.plain rfl rfl fun R' w' hw hs hd => by have a0 : R' 8 = .int .i64 (1 : Int) := (hs 8 rfl).trans h8; exact of_move a0) <|
          Obls.cons (Obl.plain rfl rfl fun R' w' hw hs hd => by have a0 : R' 36 = (Enc.val E_impl_RuleSet h30) := hd 0 _ _ _ rfl rfl rfl rfl rfl; have ra0 : Rep E_impl_RuleSet A0 w' (R' 36) _ := (vh_rep (((tr_root ((hO.fr hw).own 1 _ rfl).2).ptr).pinS (((hO.fr hw).own 1 _ rfl).2.2 _ (.head _)) l_h30) hAA (fun k o hk ha => Nat.not_lt.2 (((hO.fr hw).own 1 _ rfl).1 k hk) (hA0 k o ha))).eq a0; have a1 : R' 37 = .int .i64 (1 : Int) := hd 1 _ _ _ rfl rfl rfl rfl rfl; exact of_call Tryd.call8 (M_laws_heldRuleSet_ok (q33 rfl) (hA00.fr ((Nat.le_trans hF.size hw.size))) ra0 a1)) <|
          Obls.cons (Obl.plain rfl rfl fun R' w' hw hs hd => by have a0 : R' 38 = .int .i64 x32 := hd 0 _ _ _ rfl rfl rfl rfl rfl; exact of_assign a0) <|
          Obls.nil
      intro R w hw hs hF'
      replace h0 : R 0 = v0 := (hs 0 rfl).trans h0
      replace h3 : R 3 = (.pointer (some ⟨b3_3, 0, none⟩)) := (hs 3 rfl).trans h3
      replace h4 : R 4 = .bool x2.2 := (hs 4 rfl).trans h4
      replace h5 : R 5 = u12 := (hs 5 rfl).trans h5
      replace h7 : R 7 = .int .i64 x24.1 := (hs 7 rfl).trans h7
      have h8 : R 8 = .int .i64 x32 := hF' 3 _ _ rfl rfl rfl
      replace f_v0 := f_v0.fr hw
      replace hO := hO.fr hw
      replace hA := hA.fr hw.size
      replace hF := hF.trans hw
      clear hs hF' hw
      refine seqR_nil ?_
      replace hO : IniOK [ob (.pointer (some ⟨b3_3, 0, none⟩)) (.box w0.heap.size 24 E_impl_RuleSet x2.1), ⟨u12, S29, trR (geB w0.heap.size) (oPt 24 (oBx (oSl 32 (oBx (oSl 36 (oRd E_impl_Test)))))) x24.2 []⟩] A w := hO.repin 1 rfl trP.nopin
      refine HT.seq ?_
      refine HT.seq ?_
      refine HT.text (l := ⟨_, true, .raw (.int .i64 x32)⟩ :: ⟨_, true, .raw (.bool (decide (x32 < (0 : Int))))⟩ :: []) (tl := []) (by kernel_rfl) (by kernel_rfl) (by kernel_rfl) ?_ ?_
      · exact
          Obls.cons (Obl.plain rfl rfl fun R' w' hw hs hd => by have a0 : R' 8 = .int .i64 x32 := (hs 8 rfl).trans h8; exact of_move a0) <|
          Obls.cons (Obl.plain rfl rfl fun R' w' hw hs hd => by have a0 : R' 39 = .int .i64 x32 := hd 0 _ _ _ rfl rfl rfl rfl rfl; exact of_lss a0 rfl) <|
          Obls.nil
      intro R w hw hs hF'
      replace h0 : R 0 = v0 := (hs 0 rfl).trans h0
      replace h3 : R 3 = (.pointer (some ⟨b3_3, 0, none⟩)) := (hs 3 rfl).trans h3
      replace h4 : R 4 = .bool x2.2 := (hs 4 rfl).trans h4
      replace h5 : R 5 = u12 := (hs 5 rfl).trans h5
      replace h7 : R 7 = .int .i64 x24.1 := (hs 7 rfl).trans h7
      replace h8 : R 8 = .int .i64 x32 := (hs 8 rfl).trans h8
      have h40 : R 40 = .bool (decide (x32 < (0 : Int))) := hF' 1 _ _ rfl rfl rfl
      replace f_v0 := f_v0.fr hw
      replace hO := hO.fr hw
      replace hA := hA.fr hw.size
      replace hF := hF.trans hw
      clear hs hF' hw
      refine seqR_nil ?_
      refine HT.cond (decide (x32 < (0 : Int))) h40 (fun c34 => ?_) (fun c34 => ?_)
      · have hr := cnd_t c34 hr
        refine HT.seq ?_
        refine HT.text (l := ⟨_, true, .raw (.bool false)⟩ :: []) (tl := []) (by kernel_rfl) (by kernel_rfl) (by kernel_rfl) ?_ ?_
        · exact
            Obls.cons (Obl.plain rfl rfl fun R' w' hw hs hd => by exact of_assign rfl) <|
            Obls.nil
        intro R w hw hs hF'
        have h2 : R 2 = .bool false := hF' 0 _ _ rfl rfl rfl
        replace hO := hO.fr hw
        replace hO : IniOK [] A w := hO.sub [] trivial
        replace hA := hA.fr hw.size
        replace hF := hF.trans hw
        clear hs hF' hw
        refine seqR_nil ?_
        refine HT.ret ?_
        obtain rfl := Option.some.inj hr
        exact ⟨.inr rfl, [R 2], ⟨rfl, trivial⟩, h2, hF⟩
      · have hr := cnd_f c34 hr
        refine HT.skip ?_
        refine HT.seq ?_
        refine HT.seq ?_
        refine HT.text (l := ⟨_, true, .raw (.int .i64 x32)⟩ :: ⟨_, true, .raw (.int .i64 x24.1)⟩ :: ⟨_, true, .raw (.bool (x32 != x24.1))⟩ :: []) (tl := []) (by kernel_rfl) (by kernel_rfl) (by kernel_rfl) ?_ ?_
        · exact
            Obls.cons (Obl.plain rfl rfl fun R' w' hw hs hd => by have a0 : R' 8 = .int .i64 x32 := (hs 8 rfl).trans h8; exact of_move a0) <|
            Obls.cons (Obl.plain rfl rfl fun R' w' hw hs hd => by have a0 : R' 7 = .int .i64 x24.1 := (hs 7 rfl).trans h7; exact of_move a0) <|
            Obls.cons (Obl.plain rfl rfl fun R' w' hw hs hd => by have a0 : R' 41 = .int .i64 x32 := hd 0 _ _ _ rfl rfl rfl rfl rfl; have a1 : R' 42 = .int .i64 x24.1 := hd 1 _ _ _ rfl rfl rfl rfl rfl; exact of_neq a0 a1) <|
            Obls.nil
        intro R w hw hs hF'
        replace h0 : R 0 = v0 := (hs 0 rfl).trans h0
        replace h3 : R 3 = (.pointer (some ⟨b3_3, 0, none⟩)) := (hs 3 rfl).trans h3
        replace h4 : R 4 = .bool x2.2 := (hs 4 rfl).trans h4
        replace h5 : R 5 = u12 := (hs 5 rfl).trans h5
        replace h7 : R 7 = .int .i64 x24.1 := (hs 7 rfl).trans h7
        have h43 : R 43 = .bool (x32 != x24.1) := hF' 2 _ _ rfl rfl rfl
        replace f_v0 := f_v0.fr hw
        replace hO := hO.fr hw
        replace hA := hA.fr hw.size
        replace hF := hF.trans hw
        clear hs hF' hw
        refine seqR_nil ?_
        refine HT.cond (x32 != x24.1) h43 (fun c35 => ?_) (fun c35 => ?_)
        · have hr := cnd_t c35 hr
          refine HT.seq ?_
          refine HT.text (l := ⟨_, true, .raw (.bool false)⟩ :: []) (tl := []) (by kernel_rfl) (by kernel_rfl) (by kernel_rfl) ?_ ?_
          · exact
              Obls.cons (Obl.plain rfl rfl fun R' w' hw hs hd => by exact of_assign rfl) <|
              Obls.nil
          intro R w hw hs hF'
          have h2 : R 2 = .bool false := hF' 0 _ _ rfl rfl rfl
          replace hO := hO.fr hw
          replace hO : IniOK [] A w := hO.sub [] trivial
          replace hA := hA.fr hw.size
          replace hF := hF.trans hw
          clear hs hF' hw
          refine seqR_nil ?_
          refine HT.ret ?_
          obtain rfl := Option.some.inj hr
          exact ⟨.inr rfl, [R 2], ⟨rfl, trivial⟩, h2, hF⟩
        · have hr := cnd_f c35 hr
          refine HT.skip ?_
          refine HT.seq ?_
          obtain ⟨x36, q37, hr⟩ := cl_some hr
          refine HT.textR [ob (.pointer (some ⟨b3_3, 0, none⟩)) (.box w0.heap.size 24 E_impl_RuleSet x2.1), ⟨u12, S29, trR (geB w0.heap.size) (oPt 24 (oBx (oSl 32 (oBx (oSl 36 (oRd E_impl_Test)))))) x24.2 []⟩] (⟨_, true, [], none, true, fun A => .raw v0⟩ :: ⟨_, true, [], none, true, fun A => .tup2 (.rep E_impl_RuleSet A x36.1) (.raw (.bool x36.2))⟩ :: ⟨_, true, [], none, true, fun A => .tup2 (.rep E_impl_RuleSet A x36.1) (.raw (.bool x36.2))⟩ :: ⟨_, true, [], none, true, fun A => .rep E_impl_RuleSet A x36.1⟩ :: ⟨_, true, [], none, true, fun A => .raw (.bool x36.2)⟩ :: ⟨_, true, [], some (.box w0.heap.size 24 E_impl_RuleSet ([] : List T_impl_Rule)), true, fun A => .any⟩ :: ⟨_, true, [7], some (.box w0.heap.size 24 E_impl_RuleSet x36.1), false, fun A => .any⟩ :: ⟨_, true, [], none, true, fun A => .raw (.bool x36.2)⟩ :: []) (by kernel_rfl) (by kernel_rfl) (Wf.mk' (by kernel_rfl) (UAll.cons ust_raw (UAll.cons (ust_tup2 ust_rep ust_raw) (UAll.cons (ust_tup2 ust_rep ust_raw) (UAll.cons ust_rep (UAll.cons ust_raw (UAll.cons ust_any (UAll.cons ust_any (UAll.cons ust_raw (UAll.nil))))))))) (by kernel_rfl) (by kernel_rfl)) hO hA ?_ ?_
          · exact
              OblsR.cons (OblR.plain rfl rfl rfl rfl fun A' R' w' ho hd => by have a0 : R' 0 = v0 := (ho.old 0 rfl).trans h0; exact of_move a0) <|
              OblsR.cons (OblR.plain rfl rfl rfl rfl fun A' R' w' ho hd => by have a0 : R' 45 = v0 := hd 0 _ _ _ rfl rfl rfl rfl rfl; have ra0 := (f_v0.stp ho.stp).eq a0; exact of_call Tryd.call5 (M_impl_ParseRules_okR (q37 rfl) ho.av (hG0.fr (hF.tr ho.ch (hO.ge (⟨rfl, ⟨fun _ h => h, trivial⟩⟩)))) ra0)) <|
              OblsR.cons (OblR.plain rfl rfl rfl rfl fun A' R' w' ho hd => by have a0 : Fact.ok (.tup2 (.rep E_impl_RuleSet A' x36.1) (.raw (.bool x36.2))) (R' 46) w' := hd 0 _ _ _ rfl rfl rfl rfl rfl; exact of_move a0) <|
              OblsR.cons (OblR.plain rfl rfl rfl rfl fun A' R' w' ho hd => by have a0 : Fact.ok (.tup2 (.rep E_impl_RuleSet A' x36.1) (.raw (.bool x36.2))) (R' 44) w' := hd 0 _ _ _ rfl rfl rfl rfl rfl; exact of_extract2_0 a0) <|
              OblsR.cons (OblR.plain rfl rfl rfl rfl fun A' R' w' ho hd => by have a0 : Fact.ok (.tup2 (.rep E_impl_RuleSet A' x36.1) (.raw (.bool x36.2))) (R' 44) w' := hd 0 _ _ _ rfl rfl rfl rfl rfl; exact of_extract2_1 a0) <|
              OblsR.cons (OblR.made _ rfl rfl rfl rfl fun A' R' w' ho hd => by exact made_alloc Tryd.zeroValue24 (fun A w => rep1_nil) (Nat.le_trans hF.size ho.ch.size)) <|
              OblsR.cons (OblR.took 7 _ _ rfl rfl rfl rfl rfl fun A' R' w' ho hd u hok hav hin hop hds => by have a1 : Rep E_impl_RuleSet A' w' (R' 47) x36.1 := hd 1 _ _ _ rfl rfl rfl rfl rfl; obtain ⟨b, hb, hB', hbx⟩ := hok; have hop' := hop _ _ rfl rfl rfl rfl; exact took_store a1 (hop'.symm.trans hb) hb ⟨b, hb, hB', hbx⟩ hav (FldS.id _) Tryd.sizeOf24 rfl) <|
              OblsR.cons (OblR.plain rfl rfl rfl rfl fun A' R' w' ho hd => by have a0 : R' 48 = .bool x36.2 := hd 0 _ _ _ rfl rfl rfl rfl rfl; exact of_assign a0) <|
              OblsR.nil
          intro done ρ σ A R w hdn hI
          replace h3 : R 3 = (.pointer (some ⟨b3_3, 0, none⟩)) := (hI.reg rfl).trans h3
          replace h4 : R 4 = .bool x2.2 := (hI.reg rfl).trans h4
          replace h5 : R 5 = u12 := (hI.reg rfl).trans h5
          replace h7 : R 7 = .int .i64 x24.1 := (hI.reg rfl).trans h7
          have z38 := hI.inivR 0 rfl
          have z39 := hI.inivR 1 rfl
          obtain ⟨b9_39, e_b9_39⟩ := hI.boxv hdn 8 rfl rfl
          have z41 := (hI.opnR hdn 8 6 rfl rfl rfl rfl rfl).symm.trans e_b9_39
          have h9 : R 9 = (.pointer (some ⟨b9_39, 0, none⟩)) := (hI.opvR hdn 7 5 rfl rfl rfl rfl rfl).symm.trans z41
          have eS_u12 := hI.inisR 1 rfl
          have h10 : R 10 = .bool x36.2 := hI.fact hdn (i := 7) rfl rfl rfl
          replace hAA := hI.low' hAA hA0 (hO.ge (⟨rfl, ⟨fun _ h => h, trivial⟩⟩))
          replace hF : Fr w0 w := hF.tr hI.ch (hO.ge (⟨rfl, ⟨fun _ h => h, trivial⟩⟩))
          replace hO : IniOK [ob (.pointer (some ⟨b3_3, 0, none⟩)) (.box w0.heap.size 24 E_impl_RuleSet x2.1), ⟨u12, S29, trR (geB w0.heap.size) (oPt 24 (oBx (oSl 32 (oBx (oSl 36 (oRd E_impl_Test)))))) x24.2 []⟩, ob (.pointer (some ⟨b9_39, 0, none⟩)) (.box w0.heap.size 24 E_impl_RuleSet x36.1)] A w := hI.left hdn [(0, ob (.pointer (some ⟨b3_3, 0, none⟩)) (.box w0.heap.size 24 E_impl_RuleSet x2.1)), (1, ⟨u12, S29, trR (geB w0.heap.size) (oPt 24 (oBx (oSl 32 (oBx (oSl 36 (oRd E_impl_Test)))))) x24.2 []⟩), (8, ob (.pointer (some ⟨b9_39, 0, none⟩)) (.box w0.heap.size 24 E_impl_RuleSet x36.1))] ⟨rfl, rfl, z38, rfl, rfl, ⟨rfl, rfl, z39, eS_u12, rfl, ⟨rfl, rfl, e_b9_39, rfl, rfl, trivial⟩⟩⟩
          replace hA := hI.avok
          clear hI
          refine HT.seq ?_
          refine HT.seq ?_
          obtain ⟨x42, q43, hr⟩ := cl_some hr
          obtain ⟨x44, q45, hr⟩ := bd_some hr
          refine HT.text (l := ⟨_, true, .rep E_impl_RuleSet A x36.1⟩ :: ⟨_, true, .rep E_impl_RuleSet A x2.1⟩ :: ⟨_, true, .raw (.bool x42)⟩ :: ⟨_, true, .raw (.bool (!x42))⟩ :: ⟨_, true, .raw (.bool (!x42))⟩ :: ⟨_, (true && ((!x42) == false)), .raw (.bool x36.2)⟩ :: ⟨_, (true && ((!x42) == false)), .raw (.bool x2.2)⟩ :: ⟨_, (true && ((!x42) == false)), .raw (.bool (x36.2 != x2.2))⟩ :: ⟨_, true, .raw (.bool x44)⟩ :: []) (tl := []) (by kernel_rfl) (by kernel_rfl) (by kernel_rfl) ?_ ?_
          · exact
              Obls.cons (Obl.plain rfl rfl fun R' w' hw hs hd => by have a0 : R' 9 = (.pointer (some ⟨b9_39, 0, none⟩)) := (hs 9 rfl).trans h9; exact (of_load_box ((hO.fr hw).ok 2 _ rfl).1 a0 (Fld.id _) rfl Tryd.isAgg24 Tryd.sizeOf24)) <|
              Obls.cons (Obl.plain rfl rfl fun R' w' hw hs hd => by have a0 : R' 3 = (.pointer (some ⟨b3_3, 0, none⟩)) := (hs 3 rfl).trans h3; exact (of_load_box ((hO.fr hw).ok 0 _ rfl).1 a0 (Fld.id _) rfl Tryd.isAgg24 Tryd.sizeOf24)) <|
              Obls.cons (Obl.plain rfl rfl fun R' w' hw hs hd => by have a0 : Rep E_impl_RuleSet A w' (R' 49) x36.1 := hd 0 _ _ _ rfl rfl rfl rfl rfl; have a1 : Rep E_impl_RuleSet A w' (R' 50) x2.1 := hd 1 _ _ _ rfl rfl rfl rfl rfl; exact of_call Tryd.call6 (M_laws_eqRuleSet_ok (q43 rfl) (hA.fr hw.size) a0 a1)) <|
              Obls.cons (Obl.plain rfl rfl fun R' w' hw hs hd => by have a0 : R' 51 = .bool x42 := hd 0 _ _ _ rfl rfl rfl rfl rfl; exact of_not a0) <|
              Obls.cons (Obl.plain rfl rfl fun R' w' hw hs hd => by have a0 : R' 52 = .bool (!x42) := hd 0 _ _ _ rfl rfl rfl rfl rfl; exact of_move a0) <|
              Obls.cons (Obl.grd 4 false _ _ _ rfl rfl rfl rfl rfl (by kernel_rfl) fun hg R' w' hw hs hd => by have a0 : R' 10 = .bool x36.2 := (hs 10 rfl).trans h10; exact of_move a0) <|
              Obls.cons (Obl.grd 4 false _ _ _ rfl rfl rfl rfl rfl (by kernel_rfl) fun hg R' w' hw hs hd => by have a0 : R' 4 = .bool x2.2 := (hs 4 rfl).trans h4; exact of_move a0) <|
              Obls.cons (Obl.grd 4 false _ _ _ rfl rfl rfl rfl rfl (by kernel_rfl) fun hg R' w' hw hs hd => by have a0 : R' 54 = .bool x36.2 := hd 0 _ _ _ rfl rfl rfl rfl hg; have a1 : R' 55 = .bool x2.2 := hd 1 _ _ _ rfl rfl rfl rfl hg; exact of_bneq Tryd.underlying4 a0 a1) <|
              Obls.cons (Obl.plain rfl rfl fun R' w' hw hs hd => by have a0 : R' 53 = .bool (!x42) := hd 0 _ _ _ rfl rfl rfl rfl rfl; exact of_pick (!x42) a0 (fun hc => by show _ = Value.bool x44; rw [q45, hc]; exact rfl) (fun hc => by have a2 : R' 56 = .bool (x36.2 != x2.2) := hd 1 _ _ _ rfl rfl rfl rfl (g_and rfl (beq_of hc)); show _ = Value.bool x44; rw [q45, hc]; exact a2)) <|
              Obls.nil
          intro R w hw hs hF'
          replace h5 : R 5 = u12 := (hs 5 rfl).trans h5
          replace h7 : R 7 = .int .i64 x24.1 := (hs 7 rfl).trans h7
          have h57 : R 57 = .bool x44 := hF' 8 _ _ rfl rfl rfl
          replace hO := hO.fr hw
          replace hO : IniOK [⟨u12, S29, trR (geB w0.heap.size) (oPt 24 (oBx (oSl 32 (oBx (oSl 36 (oRd E_impl_Test)))))) x24.2 []⟩] A w := hO.sub [(1, ⟨u12, S29, trR (geB w0.heap.size) (oPt 24 (oBx (oSl 32 (oBx (oSl 36 (oRd E_impl_Test)))))) x24.2 []⟩)] ⟨rfl, rfl, trivial⟩
          replace hA := hA.fr hw.size
          replace hF := hF.trans hw
          clear hs hF' hw
          refine seqR_nil ?_
          refine HT.cond x44 h57 (fun c46 => ?_) (fun c46 => ?_)
          · have hr := cnd_t c46 hr
            refine HT.seq ?_
            refine HT.text (l := ⟨_, true, .raw (.bool false)⟩ :: []) (tl := []) (by kernel_rfl) (by kernel_rfl) (by kernel_rfl) ?_ ?_
            · exact
                Obls.cons (Obl.plain rfl rfl fun R' w' hw hs hd => by exact of_assign rfl) <|
                Obls.nil
            intro R w hw hs hF'
            have h2 : R 2 = .bool false := hF' 0 _ _ rfl rfl rfl
            replace hO := hO.fr hw
            replace hO : IniOK [] A w := hO.sub [] trivial
            replace hA := hA.fr hw.size
            replace hF := hF.trans hw
            clear hs hF' hw
            refine seqR_nil ?_
            refine HT.ret ?_
            obtain rfl := Option.some.inj hr
            exact ⟨.inr rfl, [R 2], ⟨rfl, trivial⟩, h2, hF⟩
          · have hr := cnd_f c46 hr
            refine HT.skip ?_
            refine HT.seq ?_
            refine HT.text (l := ⟨_, true, .raw (.int .i64 (1 : Int))⟩ :: []) (tl := []) (by kernel_rfl) (by kernel_rfl) (by kernel_rfl) ?_ ?_
            · exact
                Obls.cons (Obl.plain rfl rfl fun R' w' hw hs hd => by exact of_assign rfl) <|
                Obls.nil
            intro R w hw hs hF'
            replace h5 : R 5 = u12 := (hs 5 rfl).trans h5
            replace h7 : R 7 = .int .i64 x24.1 := (hs 7 rfl).trans h7
            have h8 : R 8 = .int .i64 (1 : Int) := hF' 0 _ _ rfl rfl rfl
            replace hO := hO.fr hw
            replace hA := hA.fr hw.size
            replace hF := hF.trans hw
            clear hs hF' hw
            refine seqR_nil ?_
            refine HT.seq ?_
            obtain ⟨x47, q48, hr⟩ := cl_some hr
            refine HT.textR [⟨u12, S29, trR (geB w0.heap.size) (oPt 24 (oBx (oSl 32 (oBx (oSl 36 (oRd E_impl_Test)))))) x24.2 []⟩] (⟨_, true, [0], some (.nul), false, fun A => .rep E_impl_RuleSet A x24.2⟩ :: ⟨_, true, [], none, true, fun A => .raw (.int .i64 (1 : Int))⟩ :: ⟨_, true, [], none, true, fun A => .raw (.int .i64 x47)⟩ :: ⟨_, true, [], none, true, fun A => .raw (.int .i64 x47)⟩ :: []) (by kernel_rfl) (by kernel_rfl) (Wf.mk' (by kernel_rfl) (UAll.cons ust_rep (UAll.cons ust_raw (UAll.cons ust_raw (UAll.cons ust_raw (UAll.nil))))) (by kernel_rfl) (by kernel_rfl)) hO hA ?_ ?_
            · exact
                OblsR.cons (OblR.tookS 0 .nul _ rfl rfl rfl rfl rfl fun A' R' w' ho hd u S hok hown hav hin hop hds => by have a0 : R' 5 = u12 := (ho.old 5 rfl).trans h5; exact frz_loadT hown.2 (a0.trans (hin _ rfl).1.symm) hav Tryd.isAgg24 Tryd.sizeOf24) <|
                OblsR.cons (OblR.plain rfl rfl rfl rfl fun A' R' w' ho hd => by have a0 : R' 8 = .int .i64 (1 : Int) := (ho.old 8 rfl).trans h8; exact of_move a0) <|
                OblsR.cons (OblR.plain rfl rfl rfl rfl fun A' R' w' ho hd => by have a0 : Rep E_impl_RuleSet A' w' (R' 58) x24.2 := hd 0 _ _ _ rfl rfl rfl rfl rfl; have a1 : R' 59 = .int .i64 (1 : Int) := hd 1 _ _ _ rfl rfl rfl rfl rfl; exact of_call Tryd.call8 (M_laws_heldRuleSet_ok (q48 rfl) ho.av a0 a1)) <|
                OblsR.cons (OblR.plain rfl rfl rfl rfl fun A' R' w' ho hd => by have a0 : R' 60 = .int .i64 x47 := hd 0 _ _ _ rfl rfl rfl rfl rfl; exact of_assign a0) <|
                OblsR.nil
            intro done ρ σ A R w hdn hI
            replace h7 : R 7 = .int .i64 x24.1 := (hI.reg rfl).trans h7
            have h8 : R 8 = .int .i64 x47 := hI.fact hdn (i := 3) rfl rfl rfl
            replace hAA := hI.low' hAA hA0 (hO.ge (⟨fun _ h => h, trivial⟩))
            replace hF : Fr w0 w := hF.tr hI.ch (hO.ge (⟨fun _ h => h, trivial⟩))
            replace hO : IniOK [] A w := hI.left hdn [] trivial
            replace hA := hI.avok
            clear hI
            refine HT.seq ?_
            refine HT.seq ?_
            refine HT.text (l := ⟨_, true, .raw (.int .i64 x47)⟩ :: ⟨_, true, .raw (.bool (decide (x47 < (0 : Int))))⟩ :: []) (tl := []) (by kernel_rfl) (by kernel_rfl) (by kernel_rfl) ?_ ?_
            · exact
                Obls.cons (Obl.plain rfl rfl fun R' w' hw hs hd => by have a0 : R' 8 = .int .i64 x47 := (hs 8 rfl).trans h8; exact of_move a0) <|
                Obls.cons (Obl.plain rfl rfl fun R' w' hw hs hd => by have a0 : R' 61 = .int .i64 x47 := hd 0 _ _ _ rfl rfl rfl rfl rfl; exact of_lss a0 rfl) <|
                Obls.nil
            intro R w hw hs hF'
            replace h7 : R 7 = .int .i64 x24.1 := (hs 7 rfl).trans h7
            replace h8 : R 8 = .int .i64 x47 := (hs 8 rfl).trans h8
            have h62 : R 62 = .bool (decide (x47 < (0 : Int))) := hF' 1 _ _ rfl rfl rfl
            replace hO := hO.fr hw
            replace hA := hA.fr hw.size
            replace hF := hF.trans hw
            clear hs hF' hw
            refine seqR_nil ?_
            refine HT.cond (decide (x47 < (0 : Int))) h62 (fun c49 => ?_) (fun c49 => ?_)
            · have hr := cnd_t c49 hr
              refine HT.seq ?_
              refine HT.text (l := ⟨_, true, .raw (.bool false)⟩ :: []) (tl := []) (by kernel_rfl) (by kernel_rfl) (by kernel_rfl) ?_ ?_
              · exact
                  Obls.cons (Obl.plain rfl rfl fun R' w' hw hs hd => by exact of_assign rfl) <|
                  Obls.nil
              intro R w hw hs hF'
              have h2 : R 2 = .bool false := hF' 0 _ _ rfl rfl rfl
              replace hO := hO.fr hw
              replace hA := hA.fr hw.size
              replace hF := hF.trans hw
              clear hs hF' hw
              refine seqR_nil ?_
              refine HT.ret ?_
              obtain rfl := Option.some.inj hr
              exact ⟨.inr rfl, [R 2], ⟨rfl, trivial⟩, h2, hF⟩
            · have hr := cnd_f c49 hr
              refine HT.skip ?_
              refine HT.seq ?_
              refine HT.seq ?_
              refine HT.text (l := ⟨_, true, .raw (.int .i64 x47)⟩ :: ⟨_, true, .raw (.int .i64 x24.1)⟩ :: ⟨_, true, .raw (.bool (x47 != x24.1))⟩ :: []) (tl := []) (by kernel_rfl) (by kernel_rfl) (by kernel_rfl) ?_ ?_
              · exact
                  Obls.cons (Obl.plain rfl rfl fun R' w' hw hs hd => by have a0 : R' 8 = .int .i64 x47 := (hs 8 rfl).trans h8; exact of_move a0) <|
                  Obls.cons (Obl.plain rfl rfl fun R' w' hw hs hd => by have a0 : R' 7 = .int .i64 x24.1 := (hs 7 rfl).trans h7; exact of_move a0) <|
                  Obls.cons (Obl.plain rfl rfl fun R' w' hw hs hd => by have a0 : R' 63 = .int .i64 x47 := hd 0 _ _ _ rfl rfl rfl rfl rfl; have a1 : R' 64 = .int .i64 x24.1 := hd 1 _ _ _ rfl rfl rfl rfl rfl; exact of_neq a0 a1) <|
                  Obls.nil
              intro R w hw hs hF'
              have h65 : R 65 = .bool (x47 != x24.1) := hF' 2 _ _ rfl rfl rfl
              replace hO := hO.fr hw
              replace hA := hA.fr hw.size
              replace hF := hF.trans hw
              clear hs hF' hw
              refine seqR_nil ?_
              refine HT.cond (x47 != x24.1) h65 (fun c50 => ?_) (fun c50 => ?_)
              · have hr := cnd_t c50 hr
                refine HT.seq ?_
                refine HT.text (l := ⟨_, true, .raw (.bool false)⟩ :: []) (tl := []) (by kernel_rfl) (by kernel_rfl) (by kernel_rfl) ?_ ?_
                · exact
                    Obls.cons (Obl.plain rfl rfl fun R' w' hw hs hd => by exact of_assign rfl) <|
                    Obls.nil
                intro R w hw hs hF'
                have h2 : R 2 = .bool false := hF' 0 _ _ rfl rfl rfl
                replace hO := hO.fr hw
                replace hA := hA.fr hw.size
                replace hF := hF.trans hw
                clear hs hF' hw
                refine seqR_nil ?_
                refine HT.ret ?_
                obtain rfl := Option.some.inj hr
                exact ⟨.inr rfl, [R 2], ⟨rfl, trivial⟩, h2, hF⟩
              · have hr := cnd_f c50 hr
                refine HT.skip ?_
                refine HT.seq ?_
                refine HT.text (l := ⟨_, true, .raw (.bool true)⟩ :: []) (tl := []) (by kernel_rfl) (by kernel_rfl) (by kernel_rfl) ?_ ?_
                · exact
                    Obls.cons (Obl.plain rfl rfl fun R' w' hw hs hd => by exact of_assign rfl) <|
                    Obls.nil
                intro R w hw hs hF'
                have h2 : R 2 = .bool true := hF' 0 _ _ rfl rfl rfl
                replace hO := hO.fr hw
                replace hA := hA.fr hw.size
                replace hF := hF.trans hw
                clear hs hF' hw
                refine seqR_nil ?_
                refine HT.ret ?_
                obtain rfl := Option.some.inj hr
                exact ⟨.inr rfl, [R 2], ⟨rfl, trivial⟩, h2, hF⟩
end Go.Proofs.YtpneepiboheldaaDoor
/- The last of the printed texts. No statement of the seat is proved here. -/
/- Words of the plain part: the printed functions' own words computed, loops that look for something. No program in sight. No statement of the seat is proved here. -/
namespace Go.Proofs.YtpneepiboheldaaDoor
open Go.RowKit
set_option linter.unusedVariables false

theorem cl_true {α β : Type} [Inhabited α] {x : α} {k : α → Option β} : cl true (some x) k = k x := rfl
theorem cl_false {α β : Type} [Inhabited α] {o : Option α} {k : α → Option β} : cl false o k = k default := rfl
theorem cl_if {α β : Type} [Inhabited α] {g : Bool} {x : α} {k : α → Option β} : cl g (some x) k = k (bif g then x else default) := by cases g <;> rfl
theorem bd_eq {α β : Type} {e : α} {k : α → Option β} : bd e k = k e := rfl
theorem ck_t {α : Type} {b : Bool} {k : Option α} (h : b = true) : ck b k = k := by rw [h]; rfl
theorem ck_tt {α : Type} {k : Option α} : ck true k = k := rfl
theorem exM_ret {ρ σ γ : Type} {r : ρ} {f : ρ → Option γ} {g : σ → Option γ} : exM (.ret r) f g = f r := rfl
theorem exM_go' {ρ σ γ : Type} {s : σ} {f : ρ → Option γ} {g : σ → Option γ} : exM (.go s) f g = g s := rfl
theorem inR_t {i : Nat} {n : Nat} (h : i < n) : inR (i : Int) n = true := inR_iff.2 ⟨by omega, by omega⟩
theorem i64B_t {x : Int} (h0 : -9223372036854775808 ≤ x) (h1 : x ≤ 9223372036854775807) : i64B x = true := by simp [i64B, h0, h1]
theorem gtD_get {α : Type} [Inhabited α] {xs : List α} {i : Nat} {x : α} (h : xs[i]? = some x) : gtD xs (i : Int) = x := by
  unfold gtD
  rw [Int.toNat_natCast, List.getD_eq_getElem?_getD, h]
  rfl
end Go.Proofs.YtpneepiboheldaaDoor
/- Plain words: loops of the laws' own helpers, orders, sorted lists. No program in sight. No statement of the seat is proved here. -/
namespace Go.Proofs.YtpneepiboheldaaDoor
open Go.RowKit
set_option linter.unusedVariables false

/-! ### loops -/
theorem lenOK_t {n : Nat} (h : n ≤ 4294967296) : lenOK n = true := Nat.ble_eq_true_of_le h
/-! ### the order of strings -/
/-! ### sorted lists -/
end Go.Proofs.YtpneepiboheldaaDoor
/- Plain words for the laws' own helpers: sizes, copies, comparisons, marks. No program in sight. No statement of the seat is proved here. -/
namespace Go.Proofs.YtpneepiboheldaaDoor
open Go.RowKit
set_option linter.unusedVariables false

theorem lt_t {i n : Nat} (h : i < n) : decide ((i : Int) < (n : Int)) = true := by simpa using h
theorem lt_f (n : Nat) : decide ((n : Int) < (n : Int)) = false := decide_eq_false (Int.lt_irrefl _)
theorem i64B_n {i : Nat} (hn : i ≤ 4294967296) : i64B ((i : Int) + 1) = true := i64B_t (by omega) (by omega)
theorem at_lt {α : Type} {xs : List α} {i : Nat} {x : α} (h : xs[i]? = some x) : i < xs.length := (List.getElem?_eq_some_iff.1 h).1
theorem at_mem {α : Type} {xs : List α} {i : Nat} {x : α} (h : xs[i]? = some x) : x ∈ xs := List.mem_of_getElem? h
theorem succ_i (i : Nat) : (i : Int) + 1 = ((i + 1 : Nat) : Int) := rfl
theorem set_nat {α : Type} (xs : List α) (i : Nat) (x : α) : xs.set ((i : Nat) : Int).toNat x = xs.set i x := by rw [Int.toNat_natCast]
theorem gtD_set {α : Type} [Inhabited α] {xs : List α} {i : Nat} (h : i < xs.length) (x : α) : gtD (xs.set i x) (i : Int) = x := gtD_get (List.getElem?_set_self h)
/-! ### sizes -/
def wL {α : Type} (f : α → Nat) (xs : List α) : Nat := xs.length + (xs.map f).sum
theorem drop_cons {α : Type} {xs : List α} {i : Nat} {x : α} (h : xs[i]? = some x) : xs.drop i = x :: xs.drop (i + 1) := by
  obtain ⟨h1, rfl⟩ := List.getElem?_eq_some_iff.1 h
  exact List.drop_eq_getElem_cons h1
theorem sz_mem {α : Type} {f : α → Nat} {x : α} : ∀ {xs : List α}, x ∈ xs → f x ≤ (xs.map f).sum
  | y :: ys, h => by
    rw [List.map_cons, List.sum_cons]
    rcases List.mem_cons.1 h with rfl | h
    · omega
    · have := sz_mem (f := f) h
      omega
/-! ### copies -/
/-! ### comparisons -/
theorem loop_eq {α : Type} [BEq α] {xs ys : List α} (hl : xs.length = ys.length) {L : Nat → Int → Option (Ex Bool Unit)}
    (hs : ∀ k (i : Nat) x y, xs[i]? = some x → ys[i]? = some y → L (k + 1) (i : Int) = bif !(x == y) then some (.ret false) else L k ((i + 1 : Nat) : Int))
    (he : ∀ k, L (k + 1) (xs.length : Int) = some (.go ())) :
    ∀ m i k, i + m = xs.length → m < k → L k ((i : Nat) : Int) = some (bif xs.drop i == ys.drop i then .go () else .ret false) := by
  intro m
  induction m with
  | zero =>
    intro i k hi hk
    obtain ⟨k, rfl⟩ : ∃ q, k = q + 1 := ⟨k - 1, by omega⟩
    obtain rfl : i = xs.length := by omega
    rw [he, List.drop_length, hl, List.drop_length]
    rfl
  | succ m ih =>
    intro i k hi hk
    obtain ⟨k, rfl⟩ : ∃ q, k = q + 1 := ⟨k - 1, by omega⟩
    have hx := List.getElem?_eq_getElem (show i < xs.length by omega)
    have hy := List.getElem?_eq_getElem (show i < ys.length by omega)
    rw [hs k i _ _ hx hy, drop_cons hx, drop_cons hy, List.cons_beq_cons]
    cases xs[i] == ys[i]
    · rfl
    · rw [Bool.not_true, cond_false, Bool.true_and]
      exact ih (i + 1) k (by omega) (by omega)
theorem beq_len {α : Type} [BEq α] : ∀ {xs ys : List α}, xs.length ≠ ys.length → (xs == ys) = false
  | [], [], h => absurd rfl h
  | [], _ :: _, _ => rfl
  | _ :: _, [], _ => rfl
  | x :: xs, y :: ys, h => by
    rw [List.cons_beq_cons, beq_len (xs := xs) (ys := ys) (fun e => h (by simp [e])), Bool.and_false]
theorem eq_list {α : Type} [BEq α] {xs ys : List α} {L : Nat → Int → Option (Ex Bool Unit)} {fu : Nat} (hf : xs.length < fu)
    (hs : ∀ k (i : Nat) x y, xs.length = ys.length → xs[i]? = some x → ys[i]? = some y → L (k + 1) (i : Int) = bif !(x == y) then some (.ret false) else L k ((i + 1 : Nat) : Int))
    (he : ∀ k, L (k + 1) (xs.length : Int) = some (.go ())) :
    (bif ((xs.length : Int) != (ys.length : Int)) then some false else cl true (L fu (0 : Int)) fun rl => exM rl (fun r => some r) fun s => some true) = some (xs == ys) := by
  by_cases hl : xs.length = ys.length
  · have h1 : ((xs.length : Int) != (ys.length : Int)) = false := by simp [hl]
    have := loop_eq hl (fun k i x y => hs k i x y hl) he xs.length 0 fu (by omega) (by omega)
    rw [show ((0 : Nat) : Int) = 0 from rfl, List.drop_zero, List.drop_zero] at this
    rw [h1, cond_false, this, cl_true]
    cases xs == ys <;> rfl
  · have h1 : ((xs.length : Int) != (ys.length : Int)) = true := by simp; omega
    rw [h1, cond_true, beq_len hl]
/-! ### marks -/
def cW {α : Type} (c : α → Int) (xs : List α) : Int := (xs.map c).sum
theorem cW_cons {α : Type} {c : α → Int} {x : α} {xs : List α} : cW c (x :: xs) = c x + cW c xs := by simp [cW]
theorem cW_nonneg {α : Type} {c : α → Int} (hc : ∀ x, 0 ≤ c x) : ∀ xs : List α, 0 ≤ cW c xs
  | [] => Int.le_refl _
  | x :: xs => by rw [cW_cons]; have := hc x; have := cW_nonneg hc xs; omega
theorem cw_list {α : Type} {c : α → Int} {f : α → Nat} (h : ∀ x, c x ≤ 8 * (f x : Int) + 8) : ∀ xs : List α, cW c xs ≤ 8 * (wL f xs : Int)
  | [] => by simp [cW, wL]
  | x :: xs => by
    have h1 := cw_list h xs
    have h2 := h x
    rw [cW_cons]
    unfold wL at h1 ⊢
    simp only [List.length_cons, List.map_cons, List.sum_cons]
    omega
def mkW {α : Type} (f : α → Int → α) (c : α → Int) : List α → Int → List α
  | [], _ => []
  | x :: xs, k => f x k :: mkW f c xs (k + c x)
theorem mkW_length {α : Type} {f : α → Int → α} {c : α → Int} : ∀ {xs : List α} {k : Int}, (mkW f c xs k).length = xs.length
  | [], _ => rfl
  | x :: xs, k => by simp [mkW, mkW_length]
theorem loop_mk {α : Type} {f : α → Int → α} {c : α → Int} {Bd : α → Prop} {n : Nat} {lim : Int} {L : Nat → Int → Int → List α → Option (Int × List α)} (hc : ∀ x, 0 ≤ c x)
    (hs : ∀ k y (i : Nat) ys x, i < n → ys.length = n → ys[i]? = some x → 0 < y → y + c x ≤ lim → Bd x → L (k + 1) y (i : Int) ys = L k (y + c x) ((i + 1 : Nat) : Int) (ys.set i (f x y)))
    (he : ∀ k y ys, ys.length = n → L (k + 1) y (n : Int) ys = some (y, ys)) :
    ∀ m i k y ys, i + m = n → m < k → ys.length = n → 0 < y → y + cW c (ys.drop i) ≤ lim → (∀ x ∈ ys.drop i, Bd x) → L k y ((i : Nat) : Int) ys = some (y + cW c (ys.drop i), ys.take i ++ mkW f c (ys.drop i) y) := by
  intro m
  induction m with
  | zero =>
    intro i k y ys hi hk hl h0 h1 hb
    obtain ⟨k, rfl⟩ : ∃ q, k = q + 1 := ⟨k - 1, by omega⟩
    obtain rfl : i = n := by omega
    rw [he k y ys hl, List.drop_of_length_le (by omega), List.take_of_length_le (by omega)]
    simp [cW, mkW]
  | succ m ih =>
    intro i k y ys hi hk hl h0 h1 hb
    obtain ⟨k, rfl⟩ : ∃ q, k = q + 1 := ⟨k - 1, by omega⟩
    have hlt : i < ys.length := by omega
    have hx := List.getElem?_eq_getElem hlt
    rw [drop_cons hx] at h1 hb ⊢
    rw [cW_cons] at h1 ⊢
    have hc1 := hc ys[i]
    have hc2 := cW_nonneg hc (ys.drop (i + 1))
    have hd : (ys.set i (f ys[i] y)).drop (i + 1) = ys.drop (i + 1) := List.drop_set_of_lt (by omega)
    have ht : (ys.set i (f ys[i] y)).take (i + 1) = ys.take i ++ [f ys[i] y] := by
      rw [List.take_add_one, List.take_set_of_le (Nat.le_refl _), List.getElem?_set_self hlt]
      rfl
    rw [hs k y i ys _ (by omega) hl hx h0 (by omega) (hb _ (List.mem_cons_self ..)), ih (i + 1) k _ _ (by omega) (by omega) (by rw [List.length_set]; exact hl) (by omega) (by rw [hd]; omega) (by rw [hd]; exact fun x hx => hb x (List.mem_cons_of_mem _ hx)), hd, ht, mkW, List.append_assoc, Int.add_assoc]
    rfl
theorem mark_list {α : Type} {f : α → Int → α} {c : α → Int} {Bd : α → Prop} {lim : Int} {L : Nat → Int → Int → List α → Option (Int × List α)} {xs : List α} {k : Int} {fu : Nat} (hc : ∀ x, 0 ≤ c x) (hf : xs.length < fu) (hk : 0 < k) (h1 : k + cW c xs ≤ lim) (hb : ∀ x ∈ xs, Bd x)
    (hs : ∀ k y (i : Nat) ys x, i < xs.length → ys.length = xs.length → ys[i]? = some x → 0 < y → y + c x ≤ lim → Bd x → L (k + 1) y (i : Int) ys = L k (y + c x) ((i + 1 : Nat) : Int) (ys.set i (f x y)))
    (he : ∀ k y ys, ys.length = xs.length → L (k + 1) y (xs.length : Int) ys = some (y, ys)) :
    (cl true (L fu k (0 : Int) xs) fun s => some (s.1, s.2)) = some (k + cW c xs, mkW f c xs k) := by
  have := loop_mk hc hs he xs.length 0 fu k xs (by omega) (by omega) rfl hk (by rw [List.drop_zero]; exact h1) (by rw [List.drop_zero]; exact hb)
  rw [show ((0 : Nat) : Int) = 0 from rfl, List.drop_zero] at this
  rw [this]
  rfl
theorem mkW_head {α : Type} {f : α → Int → α} {c : α → Int} {zs : List α} {i : Nat} {x : α} {xs : List α} {k : Int} (h : zs.drop i = mkW f c (x :: xs) k) : zs[i]? = some (f x k) ∧ zs.drop (i + 1) = mkW f c xs (k + c x) := by
  have h1 : (zs.drop i)[0]? = some (f x k) := by rw [h]; rfl
  rw [List.getElem?_drop, Nat.add_zero] at h1
  refine ⟨h1, ?_⟩
  have h2 := drop_cons h1
  rw [h] at h2
  injection h2 with _ h2
  exact h2.symm
theorem loop_hd {α : Type} {f : α → Int → α} {c : α → Int} {Bd : α → Prop} {zs : List α} {lim : Int} {L : Nat → Int → Int → Option (Ex Int Int)} (hc : ∀ x, 0 ≤ c x)
    (hs : ∀ k y (i : Nat) x, zs[i]? = some (f x y) → 0 < y → y + c x ≤ lim → Bd x → L (k + 1) y (i : Int) = L k (y + c x) ((i + 1 : Nat) : Int))
    (he : ∀ k y, L (k + 1) y (zs.length : Int) = some (.go y)) :
    ∀ xs i k y, i + xs.length = zs.length → xs.length < k → 0 < y → y + cW c xs ≤ lim → (∀ x ∈ xs, Bd x) → zs.drop i = mkW f c xs y → L k y ((i : Nat) : Int) = some (.go (y + cW c xs)) := by
  intro xs
  induction xs with
  | nil =>
    intro i k y hi hk h0 h1 hb hz
    obtain ⟨k, rfl⟩ : ∃ q, k = q + 1 := ⟨k - 1, by omega⟩
    obtain rfl : i = zs.length := by simpa using hi
    rw [he]
    simp [cW]
  | cons x xs ih =>
    intro i k y hi hk h0 h1 hb hz
    obtain ⟨k, rfl⟩ : ∃ q, k = q + 1 := ⟨k - 1, by omega⟩
    obtain ⟨hx, hz'⟩ := mkW_head hz
    rw [cW_cons] at h1 ⊢
    simp only [List.length_cons] at hi hk
    have hc1 := hc x
    have hc2 := cW_nonneg hc xs
    rw [hs k y i x hx h0 (by omega) (hb _ (List.mem_cons_self ..)), ih (i + 1) k _ (by omega) (by omega) (by omega) (by omega) (fun x hx => hb x (List.mem_cons_of_mem _ hx)) hz', Int.add_assoc]
theorem held_list {α : Type} {f : α → Int → α} {c : α → Int} {Bd : α → Prop} {lim : Int} {L : Nat → Int → Int → Option (Ex Int Int)} {xs zs : List α} {k : Int} {fu : Nat} (hz : zs = mkW f c xs k) (hc : ∀ x, 0 ≤ c x) (hf : xs.length < fu) (hk : 0 < k) (h1 : k + cW c xs ≤ lim) (hb : ∀ x ∈ xs, Bd x)
    (hs : ∀ k y (i : Nat) x, zs[i]? = some (f x y) → 0 < y → y + c x ≤ lim → Bd x → L (k + 1) y (i : Int) = L k (y + c x) ((i + 1 : Nat) : Int))
    (he : ∀ k y, L (k + 1) y (zs.length : Int) = some (.go y)) :
    (cl true (L fu k (0 : Int)) fun rl => exM rl (fun r => some r) fun s => some s) = some (k + cW c xs) := by
  have := loop_hd hc hs he xs 0 fu k (by rw [hz, mkW_length]; omega) (by omega) hk h1 hb (by rw [List.drop_zero]; exact hz)
  rw [show ((0 : Nat) : Int) = 0 from rfl] at this
  rw [this]
  rfl
end Go.Proofs.YtpneepiboheldaaDoor
/- Printed by genh.py: the laws' own helpers computed. No program in sight. No statement of the seat is proved here. -/
namespace Go.Proofs.YtpneepiboheldaaDoor
open Go.RowKit
set_option linter.unusedVariables false
set_option linter.unusedSimpArgs false

def w_Test (x : (Int) × (Int) × (Bool)) : Nat := 0
def w_TestS (x : List ((Int) × (Int) × (Bool))) : Nat := wL w_Test x
def w_Rule (x : (List ((Int) × (Int) × (Bool)))) : Nat := w_TestS x
def w_RuleS (x : List ((List ((Int) × (Int) × (Bool))))) : Nat := wL w_Rule x
def w_RuleSet (x : (List ((List ((Int) × (Int) × (Bool)))))) : Nat := w_RuleS x
theorem eq_Test {fu : Nat} {x y : (Int) × (Int) × (Bool)} (hw : w_Test x ≤ 1048576) (hf : 1048577 ≤ fu) : M_laws_eqTest fu x y = some (x == y) := by
  obtain ⟨x0, x1, x2⟩ := x
  obtain ⟨y0, y1, y2⟩ := y
  unfold w_Test at hw
  try simp only [] at hw
  unfold M_laws_eqTest
  rw [show (((x0, x1, x2) : (Int) × (Int) × (Bool)) == (y0, y1, y2)) = ((x0 == y0) && ((x1 == y1) && (x2 == y2))) from rfl]
  simp only []
  try simp only [bne]
  cases h0 : (x0 == y0) <;> cases h1 : (x1 == y1) <;> cases h2 : (x2 == y2) <;> rfl
theorem eq_TestS {fu : Nat} {x y : List ((Int) × (Int) × (Bool))} (hw : w_TestS x ≤ 1048576) (hf : 1048577 ≤ fu) : M_laws_eqTestS fu x y = some (x == y) := by
  have hw' := hw
  unfold w_TestS wL at hw'
  unfold M_laws_eqTestS
  refine eq_list (by omega) (L := M_laws_eqTestS_L0 fu x y) (fun k i z z' hl hz hz' => ?_) (fun k => by rw [M_laws_eqTestS_L0, lt_f]; rfl)
  have hi := at_lt hz
  have hm := sz_mem (f := w_Test) (at_mem hz)
  rw [M_laws_eqTestS_L0, lt_t hi, cond_true, ck_t (inR_t hi), ck_t (inR_t (at_lt hz')), ck_t (i64B_n (by omega)), gtD_get hz, gtD_get hz', eq_Test (by omega) hf, cl_true, succ_i]
theorem eq_Rule {fu : Nat} {x y : (List ((Int) × (Int) × (Bool)))} (hw : w_Rule x ≤ 1048576) (hf : 1048577 ≤ fu) : M_laws_eqRule fu x y = some (x == y) := by
  obtain ⟨x0, hx0⟩ : ∃ z, z = x := ⟨_, rfl⟩
  obtain ⟨y0, hy0⟩ : ∃ z, z = y := ⟨_, rfl⟩
  subst hx0 hy0
  unfold w_Rule at hw
  unfold M_laws_eqRule
  rw [eq_TestS (by omega) hf, cl_true]
  try simp only [bne]
  cases h0 : (x0 == y0) <;> rfl
theorem eq_RuleS {fu : Nat} {x y : List ((List ((Int) × (Int) × (Bool))))} (hw : w_RuleS x ≤ 1048576) (hf : 1048577 ≤ fu) : M_laws_eqRuleS fu x y = some (x == y) := by
  have hw' := hw
  unfold w_RuleS wL at hw'
  unfold M_laws_eqRuleS
  refine eq_list (by omega) (L := M_laws_eqRuleS_L0 fu x y) (fun k i z z' hl hz hz' => ?_) (fun k => by rw [M_laws_eqRuleS_L0, lt_f]; rfl)
  have hi := at_lt hz
  have hm := sz_mem (f := w_Rule) (at_mem hz)
  rw [M_laws_eqRuleS_L0, lt_t hi, cond_true, ck_t (inR_t hi), ck_t (inR_t (at_lt hz')), ck_t (i64B_n (by omega)), gtD_get hz, gtD_get hz', eq_Rule (by omega) hf, cl_true, succ_i]
theorem eq_RuleSet {fu : Nat} {x y : (List ((List ((Int) × (Int) × (Bool)))))} (hw : w_RuleSet x ≤ 1048576) (hf : 1048577 ≤ fu) : M_laws_eqRuleSet fu x y = some (x == y) := by
  obtain ⟨x0, hx0⟩ : ∃ z, z = x := ⟨_, rfl⟩
  obtain ⟨y0, hy0⟩ : ∃ z, z = y := ⟨_, rfl⟩
  subst hx0 hy0
  unfold w_RuleSet at hw
  unfold M_laws_eqRuleSet
  rw [eq_RuleS (by omega) hf, cl_true]
  try simp only [bne]
  cases h0 : (x0 == y0) <;> rfl
def fe_TestS (x : (Int) × (Int) × (Bool)) (k : Int) : (Int) × (Int) × (Bool) := (k, k + 1, ((k + 1 + 1).tmod 3 == 0))
def ce_TestS (x : (Int) × (Int) × (Bool)) : Int := 1 + 1 + 1
theorem ce0_TestS (x : (Int) × (Int) × (Bool)) : 0 ≤ ce_TestS x := by
  unfold ce_TestS
  omega
def f_TestS (x : List ((Int) × (Int) × (Bool))) (k : Int) : List ((Int) × (Int) × (Bool)) := mkW fe_TestS ce_TestS x k
def c_TestS (x : List ((Int) × (Int) × (Bool))) : Int := cW ce_TestS x
theorem c0_TestS (x : List ((Int) × (Int) × (Bool))) : 0 ≤ c_TestS x := cW_nonneg ce0_TestS x
theorem cw_TestS (x : List ((Int) × (Int) × (Bool))) : c_TestS x ≤ 8 * (w_TestS x : Int) := by
  unfold c_TestS w_TestS
  refine cw_list (fun x => ?_) x
  unfold ce_TestS w_Test
  omega
def fe_RuleS (x : (List ((Int) × (Int) × (Bool)))) (k : Int) : (List ((Int) × (Int) × (Bool))) := f_TestS x (k)
def ce_RuleS (x : (List ((Int) × (Int) × (Bool)))) : Int := c_TestS x
theorem ce0_RuleS (x : (List ((Int) × (Int) × (Bool)))) : 0 ≤ ce_RuleS x := by
  unfold ce_RuleS
  have := c0_TestS (x)
  omega
def f_RuleS (x : List ((List ((Int) × (Int) × (Bool))))) (k : Int) : List ((List ((Int) × (Int) × (Bool)))) := mkW fe_RuleS ce_RuleS x k
def c_RuleS (x : List ((List ((Int) × (Int) × (Bool))))) : Int := cW ce_RuleS x
theorem c0_RuleS (x : List ((List ((Int) × (Int) × (Bool))))) : 0 ≤ c_RuleS x := cW_nonneg ce0_RuleS x
theorem cw_RuleS (x : List ((List ((Int) × (Int) × (Bool))))) : c_RuleS x ≤ 8 * (w_RuleS x : Int) := by
  unfold c_RuleS w_RuleS
  refine cw_list (fun x => ?_) x
  unfold ce_RuleS w_Rule
  have := cw_TestS (x)
  omega
def f_RuleSet (x : (List ((List ((Int) × (Int) × (Bool)))))) (k : Int) : (List ((List ((Int) × (Int) × (Bool))))) := f_RuleS x (k)
def c_RuleSet (x : (List ((List ((Int) × (Int) × (Bool)))))) : Int := c_RuleS x
theorem cw_RuleSet (x : (List ((List ((Int) × (Int) × (Bool)))))) : c_RuleSet x ≤ 8 * (w_RuleSet x : Int) := by
  unfold c_RuleSet w_RuleSet
  have := cw_RuleS (x)
  omega
theorem c0_RuleSet (x : (List ((List ((Int) × (Int) × (Bool)))))) : 0 ≤ c_RuleSet x := by
  unfold c_RuleSet
  have := c0_RuleS (x)
  omega
theorem mark_TestS {fu : Nat} {x : List ((Int) × (Int) × (Bool))} {k : Int} (hw : w_TestS x ≤ 1048576) (hk : 0 < k) (h1 : k + c_TestS x ≤ 4294967296) (hf : 1048577 ≤ fu) : M_laws_markTestS fu x k = some (k + c_TestS x, f_TestS x k) := by
  have hw' := hw
  unfold w_TestS wL at hw'
  unfold M_laws_markTestS
  have hb : ∀ z ∈ x, w_Test z ≤ 1048576 := fun z hz => Nat.le_trans (sz_mem (f := w_Test) hz) (by omega)
  refine mark_list (f := fe_TestS) (c := ce_TestS) (Bd := (fun z : (Int) × (Int) × (Bool) => w_Test z ≤ 1048576)) (lim := 4294967296) (L := M_laws_markTestS_L0 fu) ce0_TestS (by omega) hk h1 hb (fun k y i ys z hi hl hz hy hyl hbz => ?_) (fun k y ys hl => by rw [M_laws_markTestS_L0, hl, lt_f]; rfl)
  have hil : i < ys.length := by omega
  unfold ce_TestS at hyl
  rw [M_laws_markTestS_L0, lt_t hil, cond_true]
  have b0 : i64B (y + 1) = true := i64B_t (by omega) (by omega)
  have b1 : i64B (y + 1 + 1) = true := i64B_t (by omega) (by omega)
  have b2 : i64B (y + 1 + 1 + 1) = true := i64B_t (by omega) (by omega)
  have b : i64B ((i : Int) + 1) = true := i64B_n (by omega)
  have b' : i64B ((i + 1 : Nat) : Int) = true := b
  simp only [List.length_set, set_nat, List.set_set, inR_t hil, ck_tt, cl_true, succ_i, gtD_set hil, gtD_get hz, b0, b1, b2, b, b', cond_true, cond_false, Bool.not_true, beq_self_eq_true, bne_self_eq_false']
  try simp only [fe_TestS, ce_TestS, Int.add_assoc]
  try rfl
theorem mark_RuleS {fu : Nat} {x : List ((List ((Int) × (Int) × (Bool))))} {k : Int} (hw : w_RuleS x ≤ 1048576) (hk : 0 < k) (h1 : k + c_RuleS x ≤ 4294967296) (hf : 1048577 ≤ fu) : M_laws_markRuleS fu x k = some (k + c_RuleS x, f_RuleS x k) := by
  have hw' := hw
  unfold w_RuleS wL at hw'
  unfold M_laws_markRuleS
  have hb : ∀ z ∈ x, w_Rule z ≤ 1048576 := fun z hz => Nat.le_trans (sz_mem (f := w_Rule) hz) (by omega)
  refine mark_list (f := fe_RuleS) (c := ce_RuleS) (Bd := (fun z : (List ((Int) × (Int) × (Bool))) => w_Rule z ≤ 1048576)) (lim := 4294967296) (L := M_laws_markRuleS_L0 fu) ce0_RuleS (by omega) hk h1 hb (fun k y i ys z hi hl hz hy hyl hbz => ?_) (fun k y ys hl => by rw [M_laws_markRuleS_L0, hl, lt_f]; rfl)
  have hil : i < ys.length := by omega
  unfold ce_RuleS at hyl
  have hc0 := c0_TestS (z)
  have hbz' : w_Rule z ≤ 1048576 := hbz
  unfold w_Rule at hbz'
  rw [M_laws_markRuleS_L0, lt_t hil, cond_true]
  have m0 := mark_TestS (x := z) (k := y) (by omega) (by omega) (by omega) hf
  have b : i64B ((i : Int) + 1) = true := i64B_n (by omega)
  have b' : i64B ((i + 1 : Nat) : Int) = true := b
  simp only [List.length_set, set_nat, List.set_set, inR_t hil, ck_tt, cl_true, succ_i, gtD_set hil, gtD_get hz, m0, b, b', cond_true, cond_false, Bool.not_true, beq_self_eq_true, bne_self_eq_false']
  try simp only [fe_RuleS, ce_RuleS, Int.add_assoc]
  try rfl
theorem mark_RuleSet {fu : Nat} {x : (List ((List ((Int) × (Int) × (Bool)))))} {k : Int} (hw : w_RuleSet x ≤ 1048576) (hk : 0 < k) (h1 : k + c_RuleSet x ≤ 4294967296) (hf : 1048577 ≤ fu) : M_laws_markRuleSet fu x k = some (k + c_RuleSet x, f_RuleSet x k) := by
  unfold w_RuleSet at hw
  unfold c_RuleSet at h1 ⊢
  unfold M_laws_markRuleSet
  have c0 := c0_RuleS (x)
  rw [mark_RuleS (by omega) (by omega) (by omega) hf, cl_true]
  unfold f_RuleSet
  rfl
theorem held_TestS {fu : Nat} {x z : List ((Int) × (Int) × (Bool))} {k : Int} (hz : z = f_TestS x k) (hw : w_TestS x ≤ 1048576) (hk : 0 < k) (h1 : k + c_TestS x ≤ 4294967296) (hf : 1048577 ≤ fu) : M_laws_heldTestS fu z k = some (k + c_TestS x) := by
  have hw' := hw
  unfold w_TestS wL at hw'
  unfold M_laws_heldTestS
  have hb : ∀ z ∈ x, w_Test z ≤ 1048576 := fun z hz => Nat.le_trans (sz_mem (f := w_Test) hz) (by omega)
  have hzl : z.length = x.length := by rw [hz]; exact mkW_length
  refine held_list (f := fe_TestS) (c := ce_TestS) (Bd := (fun z : (Int) × (Int) × (Bool) => w_Test z ≤ 1048576)) (lim := 4294967296) (L := M_laws_heldTestS_L0 fu z) hz ce0_TestS (by omega) hk h1 hb (fun k y i u hu hy hyl hbz => ?_) (fun k y => by rw [M_laws_heldTestS_L0, lt_f]; rfl)
  have hi := at_lt hu
  unfold ce_TestS at hyl
  rw [M_laws_heldTestS_L0, lt_t hi, cond_true]
  have b0 : i64B (y + 1) = true := i64B_t (by omega) (by omega)
  have b1 : i64B (y + 1 + 1) = true := i64B_t (by omega) (by omega)
  have b2 : i64B (y + 1 + 1 + 1) = true := i64B_t (by omega) (by omega)
  have b : i64B ((i : Int) + 1) = true := i64B_n (by omega)
  have b' : i64B ((i + 1 : Nat) : Int) = true := b
  simp only [inR_t hi, ck_tt, cl_true, succ_i, gtD_get hu, fe_TestS, b0, b1, b2, b, b', cond_true, cond_false, Bool.not_true, beq_self_eq_true, bne_self_eq_false']
  try simp only [fe_TestS, ce_TestS, Int.add_assoc]
  try rfl
theorem held_RuleS {fu : Nat} {x z : List ((List ((Int) × (Int) × (Bool))))} {k : Int} (hz : z = f_RuleS x k) (hw : w_RuleS x ≤ 1048576) (hk : 0 < k) (h1 : k + c_RuleS x ≤ 4294967296) (hf : 1048577 ≤ fu) : M_laws_heldRuleS fu z k = some (k + c_RuleS x) := by
  have hw' := hw
  unfold w_RuleS wL at hw'
  unfold M_laws_heldRuleS
  have hb : ∀ z ∈ x, w_Rule z ≤ 1048576 := fun z hz => Nat.le_trans (sz_mem (f := w_Rule) hz) (by omega)
  have hzl : z.length = x.length := by rw [hz]; exact mkW_length
  refine held_list (f := fe_RuleS) (c := ce_RuleS) (Bd := (fun z : (List ((Int) × (Int) × (Bool))) => w_Rule z ≤ 1048576)) (lim := 4294967296) (L := M_laws_heldRuleS_L0 fu z) hz ce0_RuleS (by omega) hk h1 hb (fun k y i u hu hy hyl hbz => ?_) (fun k y => by rw [M_laws_heldRuleS_L0, lt_f]; rfl)
  have hi := at_lt hu
  unfold ce_RuleS at hyl
  have hc0 := c0_TestS (u)
  have hbz' : w_Rule u ≤ 1048576 := hbz
  unfold w_Rule at hbz'
  rw [M_laws_heldRuleS_L0, lt_t hi, cond_true]
  have m0 := held_TestS (x := u) (z := f_TestS u (y)) (k := y) rfl (by omega) (by omega) (by omega) hf
  have d0 : decide (y + c_TestS u < 0) = false := decide_eq_false (by omega)
  have b : i64B ((i : Int) + 1) = true := i64B_n (by omega)
  have b' : i64B ((i + 1 : Nat) : Int) = true := b
  simp only [inR_t hi, ck_tt, cl_true, succ_i, gtD_get hu, fe_RuleS, d0, m0, b, b', cond_true, cond_false, Bool.not_true, beq_self_eq_true, bne_self_eq_false']
  try simp only [fe_RuleS, ce_RuleS, Int.add_assoc]
  try rfl
theorem held_RuleSet {fu : Nat} {x z : (List ((List ((Int) × (Int) × (Bool)))))} {k : Int} (hz : z = f_RuleSet x k) (hw : w_RuleSet x ≤ 1048576) (hk : 0 < k) (h1 : k + c_RuleSet x ≤ 4294967296) (hf : 1048577 ≤ fu) : M_laws_heldRuleSet fu z k = some (k + c_RuleSet x) := by
  unfold w_RuleSet at hw
  unfold c_RuleSet at h1 ⊢
  unfold M_laws_heldRuleSet
  have c0 := c0_RuleS (x)
  rw [held_RuleS (x := x) (z := z) (by rw [hz]; rfl) (by omega) (by omega) (by omega) hf, cl_true, decide_eq_false (by omega), cond_false]
  try rfl
theorem law_ParseRules {fu : Nat} {a0 : List UInt8} (hf : 1048577 ≤ fu) (h0 : qB a0)
    (hs : a0.length ≤ 1048576 → ∃ r : ((List ((List ((Int) × (Int) × (Bool)))))) × (Bool), M_spec_ParseRules fu a0 = some r ∧ M_impl_ParseRules fu a0 = some r ∧ w_RuleSet r.1 ≤ 1048576) : M_laws_FnExactParseRules fu a0 = some true := by
  unfold M_laws_FnExactParseRules
  by_cases s0 : ¬ a0.length ≤ 1048576
  · rw [show decide ((1048576 : Int) < (a0.length : Int)) = true from decide_eq_true (by omega), cond_true]
  replace s0 := Classical.not_not.1 s0
  rw [show decide ((1048576 : Int) < (a0.length : Int)) = false from decide_eq_false (by omega), cond_false]
  obtain ⟨r, e1, e2, v0⟩ := hs s0
  have p0 : M_laws_eqRuleSet fu r.1 r.1 = some (r.1 == r.1) := eq_RuleSet (by omega) hf
  have cr0 := c0_RuleSet r.1
  have dr0 := cw_RuleSet r.1
  have mr0 : M_laws_markRuleSet fu r.1 (1) = some (1 + c_RuleSet r.1, f_RuleSet r.1 (1)) := mark_RuleSet (by omega) (by omega) (by omega) hf
  have hr0 : M_laws_heldRuleSet fu (f_RuleSet r.1 (1)) (1) = some (1 + c_RuleSet r.1) := held_RuleSet rfl (by omega) (by omega) (by omega) hf
  have kr0 : decide (1 + c_RuleSet r.1 < 0) = false := decide_eq_false (by omega)
  simp only [e1, e2, cl_true, bd_eq, beq_self_eq_true, bne_self_eq_false', Bool.not_true, Bool.not_false, cond_false, cond_true, Bool.true_and, Bool.and_true, Bool.false_or, Bool.or_false, Bool.true_or, Bool.false_and, p0, mr0, hr0, kr0, show (false == false) = true from rfl, show (true == false) = false from rfl, show (false == true) = false from rfl]
end Go.Proofs.YtpneepiboheldaaDoor
/- Plain words: common loops over a list. No program in sight. No statement of the seat is proved here. -/
namespace Go.Proofs.YtpneepiboheldaaDoor
open Go.RowKit
set_option linter.unusedVariables false

/-- a loop that ends early at the first element with p -/
theorem loop_any {α ρ : Type} {xs : List α} {p : α → Bool} {r : ρ} {L : Nat → Int → Option (Ex ρ Unit)}
    (hs : ∀ k (i : Nat) x, xs[i]? = some x → L (k + 1) (i : Int) = bif p x then some (.ret r) else L k ((i + 1 : Nat) : Int)) (he : ∀ k, L (k + 1) (xs.length : Int) = some (.go ())) {fu : Nat} (hf : xs.length < fu) :
    L fu (0 : Int) = some (bif xs.any p then .ret r else .go ()) := by
  have key : ∀ m i k, i + m = xs.length → m < k → L k ((i : Nat) : Int) = some (bif (xs.drop i).any p then .ret r else .go ()) := by
    intro m
    induction m with
    | zero =>
      intro i k hi hk
      obtain ⟨k, rfl⟩ : ∃ q, k = q + 1 := ⟨k - 1, by omega⟩
      obtain rfl : i = xs.length := by omega
      rw [he, List.drop_length]
      rfl
    | succ m ih =>
      intro i k hi hk
      obtain ⟨k, rfl⟩ : ∃ q, k = q + 1 := ⟨k - 1, by omega⟩
      have hx := List.getElem?_eq_getElem (show i < xs.length by omega)
      rw [hs k i _ hx, drop_cons hx, List.any_cons]
      cases p xs[i]
      · exact ih (i + 1) k (by omega) (by omega)
      · rfl
  have := key xs.length 0 fu (by omega) hf
  rwa [show ((0 : Nat) : Int) = 0 from rfl, List.drop_zero] at this
/-- the same, with the element before it in sight -/
def adjB {α : Type} (b : α → α → Bool) : α → List α → Bool
  | _, [] => false
  | p, x :: xs => b p x || adjB b x xs
def adjAny {α : Type} (b0 : α → Bool) (b : α → α → Bool) : List α → Bool
  | [] => false
  | x :: xs => b0 x || adjB b x xs
theorem loop_adj {α ρ : Type} {xs : List α} {b0 : α → Bool} {b : α → α → Bool} {r : ρ} {L : Nat → Int → Option (Ex ρ Unit)}
    (h0 : ∀ k x, xs[0]? = some x → L (k + 1) (0 : Int) = bif b0 x then some (.ret r) else L k ((1 : Nat) : Int))
    (hs : ∀ k (i : Nat) q x, xs[i]? = some q → xs[i + 1]? = some x → L (k + 1) ((i + 1 : Nat) : Int) = bif b q x then some (.ret r) else L k ((i + 1 + 1 : Nat) : Int))
    (he : ∀ k, L (k + 1) (xs.length : Int) = some (.go ())) {fu : Nat} (hf : xs.length < fu) :
    L fu (0 : Int) = some (bif adjAny b0 b xs then .ret r else .go ()) := by
  have key : ∀ m i k q, i + 1 + m = xs.length → m < k → xs[i]? = some q → L k ((i + 1 : Nat) : Int) = some (bif adjB b q (xs.drop (i + 1)) then .ret r else .go ()) := by
    intro m
    induction m with
    | zero =>
      intro i k q hi hk hq
      obtain ⟨k, rfl⟩ : ∃ q, k = q + 1 := ⟨k - 1, by omega⟩
      have e : i + 1 = xs.length := by omega
      rw [e, he, List.drop_length]
      rfl
    | succ m ih =>
      intro i k q hi hk hq
      obtain ⟨k, rfl⟩ : ∃ q, k = q + 1 := ⟨k - 1, by omega⟩
      have hx := List.getElem?_eq_getElem (show i + 1 < xs.length by omega)
      rw [hs k i q _ hq hx, drop_cons hx, adjB]
      cases b q xs[i + 1]
      · exact ih (i + 1) k _ (by omega) (by omega) hx
      · rfl
  obtain ⟨k, rfl⟩ : ∃ q, fu = q + 1 := ⟨fu - 1, by omega⟩
  cases xs with
  | nil => exact he k
  | cons x xs =>
    rw [h0 k x rfl, adjAny]
    cases b0 x
    · have := key xs.length 0 k x (by simp; omega) (by simp at hf; omega) rfl
      exact this
    · rfl
/-- .. with its index -/
def ixI : Nat → List Bool → Option Nat
  | _, [] => none
  | i, b :: bs => bif b then some i else ixI (i + 1) bs
theorem loop_ix {α : Type} {xs : List α} {p : α → Bool} {L : Nat → Int → Option (Ex Int Unit)}
    (hs : ∀ k (i : Nat) x, xs[i]? = some x → L (k + 1) (i : Int) = bif p x then some (.ret (i : Int)) else L k ((i + 1 : Nat) : Int)) (he : ∀ k, L (k + 1) (xs.length : Int) = some (.go ())) {fu : Nat} (hf : xs.length < fu) :
    L fu (0 : Int) = some (match ixI 0 (xs.map p) with | some i => .ret (i : Int) | none => .go ()) := by
  have key : ∀ m i k, i + m = xs.length → m < k → L k ((i : Nat) : Int) = some (match ixI i ((xs.drop i).map p) with | some i => .ret (i : Int) | none => .go ()) := by
    intro m
    induction m with
    | zero =>
      intro i k hi hk
      obtain ⟨k, rfl⟩ : ∃ q, k = q + 1 := ⟨k - 1, by omega⟩
      obtain rfl : i = xs.length := by omega
      rw [he, List.drop_length]
      rfl
    | succ m ih =>
      intro i k hi hk
      obtain ⟨k, rfl⟩ : ∃ q, k = q + 1 := ⟨k - 1, by omega⟩
      have hx := List.getElem?_eq_getElem (show i < xs.length by omega)
      rw [hs k i _ hx, drop_cons hx, List.map_cons, ixI]
      cases p xs[i]
      · exact ih (i + 1) k (by omega) (by omega)
      · rfl
  have := key xs.length 0 fu (by omega) hf
  rwa [show ((0 : Nat) : Int) = 0 from rfl, List.drop_zero] at this
theorem i64B_c {i : Nat} (hn : i ≤ 4294967296) : i64B ((i + 1 : Nat) : Int) = true := i64B_t (by omega) (by omega)
theorem i64B_i (i : Nat) (hn : i ≤ 4294967296) : i64B (i : Int) = true := i64B_t (by omega) (by omega)
theorem lt_0 {n : Nat} (h : 0 < n) : decide ((0 : Int) < (n : Int)) = true := decide_eq_true (by omega)
theorem inR_0 {n : Nat} (h : 0 < n) : inR (0 : Int) n = true := inR_t (i := 0) h
theorem gtD_0 {α : Type} [Inhabited α] {xs : List α} {x : α} (h : xs[0]? = some x) : gtD xs (0 : Int) = x := gtD_get (i := 0) h
theorem one_i : (0 : Int) + 1 = ((1 : Nat) : Int) := rfl
theorem i64B_1 : i64B ((1 : Nat) : Int) = true := rfl
theorem no_00 : decide ((0 : Int) < (0 : Int)) = false := rfl
theorem pred_i (i : Nat) : ((i + 1 : Nat) : Int) - 1 = (i : Int) := by omega
theorem pos_i (i : Nat) : decide ((0 : Int) < ((i + 1 : Nat) : Int)) = true := decide_eq_true (by omega)
end Go.Proofs.YtpneepiboheldaaDoor
/- Plain: numbers in decimal, the features' names, program and reference alike. No statement of the seat is proved here. -/
namespace Go.Proofs.YtpneepiboheldaaDoor
open Go.RowKit
set_option linter.unusedVariables false
set_option linter.unusedSimpArgs false

theorem dig_t : ∀ d : Nat, d < 10 → strB [IntKind.u8.wrap ((48 : Int) + (d : Int))] = [UInt8.ofNat (48 + d)] := by
  intro d hd
  have : ∀ d : Fin 10, strB [IntKind.u8.wrap ((48 : Int) + ((d.val : Nat) : Int))] = [UInt8.ofNat (48 + d.val)] := by decide
  exact this ⟨d, hd⟩
theorem tmod_abs (n : Int) : (if n.tmod 10 < 0 then 0 - n.tmod 10 else n.tmod 10) = ((n.natAbs % 10 : Nat) : Int) ∧ (n.tdiv 10).natAbs = n.natAbs / 10 := by
  cases n with
  | ofNat u =>
    have h1 : (Int.ofNat u).tmod 10 = ((u % 10 : Nat) : Int) := rfl
    have h2 : (Int.ofNat u).tdiv 10 = ((u / 10 : Nat) : Int) := rfl
    rw [h1, h2]
    refine ⟨?_, ?_⟩
    · rw [if_neg (by omega)]; rfl
    · rw [Int.natAbs_natCast]; rfl
  | negSucc u =>
    have h1 : (Int.negSucc u).tmod 10 = -(((u + 1) % 10 : Nat) : Int) := rfl
    have h2 : (Int.negSucc u).tdiv 10 = -(((u + 1) / 10 : Nat) : Int) := rfl
    rw [h1, h2, show (Int.negSucc u).natAbs = u + 1 from rfl]
    refine ⟨?_, ?_⟩
    · split <;> omega
    · rw [Int.natAbs_neg, Int.natAbs_natCast]
def decT (u : Nat) : List UInt8 := if u = 0 then [] else Lib.decDigits u
theorem decT_step (u : Nat) (h : u ≠ 0) : decT u = decT (u / 10) ++ [UInt8.ofNat (48 + u % 10)] := by
  unfold decT
  rw [if_neg h, Lib.decDigits]
  by_cases h10 : u < 10
  · rw [dif_pos h10, if_pos (by omega), List.nil_append, Nat.mod_eq_of_lt h10]
  · rw [dif_neg h10, if_neg (by omega)]
theorem decT_len (k u : Nat) (h : u < 10 ^ (k + 1)) : (decT u).length ≤ k + 1 := by
  unfold decT
  split
  · simp
  · exact decDigits_le k u h
theorem spec_digits {fu : Nat} : ∀ (k : Nat) (n : Int) (acc : List UInt8), n.natAbs < 10 ^ k → n.natAbs ≤ 9223372036854775808 → acc.length + k ≤ 1000 → ∀ q, k < q → M_spec_FormatInt_L0 fu q n acc = some (decT n.natAbs ++ acc)
  | 0, n, acc, h, hn, hl, q, hq => by
    obtain ⟨q, rfl⟩ : ∃ z, q = z + 1 := ⟨q - 1, by omega⟩
    have : n = 0 := by rw [Nat.pow_zero] at h; omega
    subst this
    rw [M_spec_FormatInt_L0]
    rfl
  | k + 1, n, acc, h, hn, hl, q, hq => by
    obtain ⟨q, rfl⟩ : ∃ z, q = z + 1 := ⟨q - 1, by omega⟩
    by_cases h0 : n = 0
    · subst h0
      rw [M_spec_FormatInt_L0]
      rfl
    · obtain ⟨h1, h2⟩ := tmod_abs n
      have hm : n.natAbs % 10 < 10 := Nat.mod_lt _ (by omega)
      have hu : n.natAbs ≠ 0 := by omega
      have hd := dig_t (n.natAbs % 10) hm
      have ih := spec_digits (fu := fu) k (n.tdiv 10) ([UInt8.ofNat (48 + n.natAbs % 10)] ++ acc) (by rw [h2]; rw [Nat.pow_succ] at h; omega) (by rw [h2]; omega) (by simp; omega) q (by omega)
      have hr : -9223372036854775808 ≤ n.tdiv 10 ∧ n.tdiv 10 ≤ 9223372036854775807 := by
        generalize n.tdiv 10 = z at h2
        omega
      have hlen : lenOK (([UInt8.ofNat (48 + n.natAbs % 10)] : List UInt8) ++ acc).length = true := lenOK_t (by simp; omega)
      have fin : decT (n.tdiv 10).natAbs ++ ([UInt8.ofNat (48 + n.natAbs % 10)] ++ acc) = decT n.natAbs ++ acc := by rw [h2, decT_step _ hu, List.append_assoc]
      rw [M_spec_FormatInt_L0, show (n != (0 : Int)) = true from by simpa using h0, cond_true, ck_t (show ((10 : Int) != 0) = true from rfl)]
      by_cases ht : n.tmod 10 < 0
      · rw [if_pos ht] at h1
        rw [decide_eq_true ht, cond_true, h1, ck_t (i64B_t (by omega) (by omega)), ck_t (i64B_t (by omega) (by omega)), hd, ck_t hlen, ck_t (show ((10 : Int) != 0) = true from rfl), ck_t (i64B_t hr.1 hr.2), ih, fin]
      · rw [if_neg ht] at h1
        rw [decide_eq_false ht, cond_false, h1, ck_t (i64B_t (by omega) (by omega)), hd, ck_t hlen, ck_t (show ((10 : Int) != 0) = true from rfl), ck_t (i64B_t hr.1 hr.2), ih, fin]
theorem specFI_t {fu : Nat} {n : Int} (hf : 1048577 ≤ fu) (h0 : -9223372036854775808 ≤ n) (h1 : n ≤ 9223372036854775807) : M_spec_FormatInt fu n = some (Lib.itoa n) := by
  unfold M_spec_FormatInt
  by_cases hz : n = 0
  · subst hz
    rw [show ((0 : Int) == 0) = true from rfl, cond_true]
    unfold Lib.itoa
    rw [if_neg (by decide), show (0 : Int).toNat = 0 from rfl, Lib.decDigits, dif_pos (by decide)]
    rfl
  · have hd := spec_digits (fu := fu) 20 n [] (by omega) (by omega) (by simp) fu (by omega)
    have hl := decT_len 19 n.natAbs (by omega)
    rw [List.append_nil] at hd
    have hu : n.natAbs ≠ 0 := by omega
    have e : decT n.natAbs = Lib.decDigits n.natAbs := if_neg hu
    rw [show (n == (0 : Int)) = false from by simpa using hz, cond_false, hd, cl_true]
    unfold Lib.itoa
    by_cases hneg : n < 0
    · rw [decide_eq_true hneg, cond_true, if_pos hneg, ck_t (lenOK_t (by simp; omega)), e]
      rfl
    · rw [decide_eq_false hneg, cond_false, if_neg hneg, e, show n.natAbs = n.toNat from by omega]
theorem implFI_t {fu : Nat} {n : Int} (h0 : -9223372036854775808 ≤ n) (h1 : n ≤ 9223372036854775807) : M_impl_FormatInt fu n = some (Lib.itoa n) := by
  unfold M_impl_FormatInt M_itoa
  rw [ck_t (i64B_t h0 h1)]
  rfl
theorem specName_t {fu : Nat} {n : Int} (h0 : 0 ≤ n) (h1 : n ≤ 5) : M_spec_FeatureName fu n = some (gtD featL n) := by
  unfold M_spec_FeatureName
  rw [show M_spec_l1In fu n 0 5 = some (decide (0 ≤ n) && decide (n ≤ 5)) from rfl, cl_true, decide_eq_true h0, decide_eq_true h1, Bool.and_self, Bool.not_true, cond_false, ck_t (inR_iff.2 ⟨h0, by show n < 6; omega⟩)]
  rfl
theorem featIn {n : Int} (h0 : 0 ≤ n) (h1 : n ≤ 5) : inR n featL.length = true := inR_iff.2 ⟨h0, by show n < 6; omega⟩
theorem feat_len (n : Int) : (gtD featL n).length ≤ 6 := by
  unfold gtD
  have : ∀ k : Nat, (featL.getD k default).length ≤ 6 := fun k => by
    match k with
    | 0 => decide
    | 1 => decide
    | 2 => decide
    | 3 => decide
    | 4 => decide
    | 5 => decide
    | k + 6 => rw [List.getD_eq_getElem?_getD, List.getElem?_eq_none (by show 6 ≤ k + 6; omega)]; decide
  exact this _
theorem lenOK_s {l : List UInt8} (h : l.length ≤ 1000000) : lenOK l.length = true := lenOK_t (by omega)
/-- sep between the elements, as a loop lays it -/
def jn (sep : List UInt8) : List (List UInt8) → List UInt8
  | [] => []
  | x :: xs => x ++ (xs.map (sep ++ ·)).flatten
theorem jn_join (sep : List UInt8) (xs : List (List UInt8)) : joinL sep xs = jn sep xs := by
  unfold joinL Lib.join
  cases xs with
  | nil => rfl
  | cons x xs =>
    unfold jn
    induction xs generalizing x with
    | nil => simp [List.intercalate]
    | cons y ys ih =>
      have := ih y
      simp only [List.intercalate, List.intersperse] at this ⊢
      simp only [List.flatten_cons, List.map_cons] at this ⊢
      rw [this]
      simp
theorem jn_snoc (sep : List UInt8) (xs : List (List UInt8)) (x : List UInt8) (h : xs ≠ []) : jn sep (xs ++ [x]) = jn sep xs ++ sep ++ x := by
  cases xs with
  | nil => exact (h rfl).elim
  | cons y ys => simp [jn, List.append_assoc]
theorem jn_one (sep x : List UInt8) : jn sep [x] = x := by simp [jn]
theorem jn_len (sep : List UInt8) (m : Nat) : ∀ (xs : List (List UInt8)), (∀ x ∈ xs, x.length ≤ m) → (jn sep xs).length ≤ xs.length * (m + sep.length)
  | [], h => by simp [jn]
  | x :: xs, h => by
    unfold jn
    have hx := h x List.mem_cons_self
    have key : ∀ ys : List (List UInt8), (∀ y ∈ ys, y.length ≤ m) → ((ys.map (sep ++ ·)).flatten).length ≤ ys.length * (m + sep.length) := by
      intro ys hy
      induction ys with
      | nil => simp
      | cons y ys ih =>
        have h1 := hy y List.mem_cons_self
        have h2 := ih fun z hz => hy z (List.mem_cons_of_mem _ hz)
        rw [List.map_cons, List.flatten_cons, List.length_append, List.length_append, List.length_cons, Nat.add_mul, Nat.one_mul]
        omega
    have := key xs fun z hz => h z (List.mem_cons_of_mem _ hz)
    rw [List.length_append, List.length_cons, Nat.add_mul, Nat.one_mul]
    omega
theorem join_t {fu : Nat} {xs : List (List UInt8)} {sep : List UInt8} (h1 : xs.length ≤ 1000000) (h2 : (jn sep xs).length ≤ 1000000) : M_join fu xs sep = some (jn sep xs) := by
  unfold M_join
  rw [jn_join, ck_t (by rw [lenOK_t (by omega), lenOK_t (by omega)]; rfl)]
theorem itoa_le {n : Int} (h0 : -9223372036854775808 ≤ n) (h1 : n ≤ 9223372036854775807) : (Lib.itoa n).length ≤ 21 := itoa_len h0 h1
end Go.Proofs.YtpneepiboheldaaDoor
/- Plain: sets of tokens, program and reference alike. No statement of the seat is proved here. -/
namespace Go.Proofs.YtpneepiboheldaaDoor
open Go.RowKit
set_option linter.unusedVariables false
set_option linter.unusedSimpArgs false

/-! the reference's way -/
end Go.Proofs.YtpneepiboheldaaDoor
/- Plain: indexes of sets, program and reference alike. No statement of the seat is proved here. -/
namespace Go.Proofs.YtpneepiboheldaaDoor
open Go.RowKit
set_option linter.unusedVariables false
set_option linter.unusedSimpArgs false

def inI (x lo hi : Int) : Bool := decide (lo ≤ x) && decide (x ≤ hi)
theorem l1In_t {fu : Nat} {x lo hi : Int} : M_spec_l1In fu x lo hi = some (inI x lo hi) := rfl
end Go.Proofs.YtpneepiboheldaaDoor
/- Plain: rules, program and reference alike. No statement of the seat is proved here. -/
namespace Go.Proofs.YtpneepiboheldaaDoor
open Go.RowKit
set_option linter.unusedVariables false
set_option linter.unusedSimpArgs false

abbrev TTst := Int × Int × Bool
def tstX (t : TTst) : Bool := !(inI t.1 0 5) || !(inI t.2.1 1 1000)
def tstsB (l : List TTst) : Bool := !(adjAny tstX (fun p x => tstX x || decide (x.1 ≤ p.1)) l)
def ruleB (l : List TTst) : Bool := inI (l.length : Int) 1 3 && tstsB l
def rsB (r : List (List TTst)) : Bool := inI (r.length : Int) 1 3 && !(r.any fun l => !(ruleB l))
def RsOK (r : List (List TTst)) : Prop := r.length ≤ 1048576 ∧ ∀ l ∈ r, l.length ≤ 1048576
theorem specTsts_t {fu : Nat} {r : List (List TTst)} {l : List TTst} {i : Nat} (hl : r[i]? = some l) (hf : 1048577 ≤ fu) (hn : l.length ≤ 1048576) : M_spec_IsValidRules_L1 fu r (i : Int) fu (0 : Int) = some (bif tstsB l then .go () else .ret false) := by
  have h := loop_adj (xs := l) (b0 := tstX) (b := fun p x => tstX x || decide (x.1 ≤ p.1)) (r := false) (L := M_spec_IsValidRules_L1 fu r (i : Int)) (fun k x hx => by
    have hi := at_lt hx
    rw [M_spec_IsValidRules_L1, gtD_get hl, lt_0 hi, cond_true]
    simp only [inR_0 hi, gtD_0 hx, one_i, i64B_1, no_00, bd_eq, l1In_t, cl_if, Bool.or_true, ck_tt, tstX]
    cases inI x.1 0 5 <;> cases inI x.2.1 1 1000 <;> rfl) (fun k j q x hq hx => by
    have hi := at_lt hx
    have hi' := at_lt hq
    rw [M_spec_IsValidRules_L1, gtD_get hl, lt_t hi, cond_true]
    simp only [inR_t hi, inR_t hi', gtD_get hx, pred_i, gtD_get hq, pos_i, bd_eq, l1In_t, cl_if, i64B_i j (by omega), Bool.or_true, ck_tt, i64B_c (show j + 1 ≤ 4294967296 by omega), succ_i, tstX]
    cases inI x.1 0 5 <;> cases inI x.2.1 1 1000 <;> cases decide (x.1 ≤ q.1) <;> rfl) (fun k => by rw [M_spec_IsValidRules_L1, gtD_get hl, lt_f]; rfl) (show l.length < fu by omega)
  rw [h]
  unfold tstsB
  cases adjAny tstX (fun p x => tstX x || decide (x.1 ≤ p.1)) l <;> rfl
theorem implTsts_t {fu : Nat} {r : List (List TTst)} {l : List TTst} {i : Nat} (hl : r[i]? = some l) (hf : 1048577 ≤ fu) (hn : l.length ≤ 1048576) : M_impl_IsValidRules_L1 fu r (i : Int) fu (0 : Int) = some (bif tstsB l then .go () else .ret false) := by
  have h1 : ∀ x : Int, M_impl_isFeature fu x = some (inI x 0 5) := fun x => rfl
  have h2 : ∀ x : Int, M_impl_isThreshold fu x = some (inI x 1 1000) := fun x => rfl
  have h := loop_adj (xs := l) (b0 := tstX) (b := fun p x => tstX x || decide (x.1 ≤ p.1)) (r := false) (L := M_impl_IsValidRules_L1 fu r (i : Int)) (fun k x hx => by
    have hi := at_lt hx
    rw [M_impl_IsValidRules_L1, gtD_get hl, lt_0 hi, cond_true]
    simp only [inR_0 hi, gtD_0 hx, one_i, i64B_1, no_00, bd_eq, h1, h2, cl_if, Bool.or_true, ck_tt, tstX]
    cases inI x.1 0 5 <;> cases inI x.2.1 1 1000 <;> rfl) (fun k j q x hq hx => by
    have hi := at_lt hx
    have hi' := at_lt hq
    rw [M_impl_IsValidRules_L1, gtD_get hl, lt_t hi, cond_true]
    simp only [inR_t hi, inR_t hi', gtD_get hx, pred_i, gtD_get hq, pos_i, bd_eq, h1, h2, cl_if, i64B_i j (by omega), Bool.or_true, ck_tt, i64B_c (show j + 1 ≤ 4294967296 by omega), succ_i, tstX]
    cases inI x.1 0 5 <;> cases inI x.2.1 1 1000 <;> cases decide (x.1 ≤ q.1) <;> rfl) (fun k => by rw [M_impl_IsValidRules_L1, gtD_get hl, lt_f]; rfl) (show l.length < fu by omega)
  rw [h]
  unfold tstsB
  cases adjAny tstX (fun p x => tstX x || decide (x.1 ≤ p.1)) l <;> rfl
theorem specRs_t {fu : Nat} {r : List (List TTst)} (hf : 1048577 ≤ fu) (hr : RsOK r) : M_spec_IsValidRules fu r = some (rsB r) := by
  unfold M_spec_IsValidRules
  have h := loop_any (xs := r) (p := fun l => !(ruleB l)) (r := false) (L := M_spec_IsValidRules_L0 fu r) (fun k i l hl => by
    have hi := at_lt hl
    have hn := hr.1
    rw [M_spec_IsValidRules_L0, lt_t hi, cond_true, specTsts_t hl hf (hr.2 l (at_mem hl)), gtD_get hl]
    simp only [inR_t hi, ck_tt, cl_true, l1In_t, i64B_c (show i ≤ 4294967296 by omega), succ_i, ruleB]
    cases tstsB l <;> cases inI (l.length : Int) 1 3 <;> rfl) (fun k => by rw [M_spec_IsValidRules_L0, lt_f]; rfl) (show r.length < fu by have := hr.1; omega)
  rw [h, cl_true]
  unfold rsB
  cases r.any fun l => !(ruleB l)
  · rw [cond_false, exM_go', l1In_t, cl_true, Bool.not_false, Bool.and_true]
  · rw [cond_true, exM_ret, Bool.not_true, Bool.and_false]
theorem implRs_t {fu : Nat} {r : List (List TTst)} (hf : 1048577 ≤ fu) (hr : RsOK r) : M_impl_IsValidRules fu r = some (rsB r) := by
  unfold M_impl_IsValidRules
  have h1 : ∀ x lo hi : Int, M_impl_within fu x lo hi = some (inI x lo hi) := fun _ _ _ => rfl
  have h := loop_any (xs := r) (p := fun l => !(ruleB l)) (r := false) (L := M_impl_IsValidRules_L0 fu r) (fun k i l hl => by
    have hi := at_lt hl
    have hn := hr.1
    rw [M_impl_IsValidRules_L0, lt_t hi, cond_true, implTsts_t hl hf (hr.2 l (at_mem hl)), gtD_get hl]
    simp only [inR_t hi, ck_tt, cl_true, h1, i64B_c (show i ≤ 4294967296 by omega), succ_i, ruleB]
    cases tstsB l <;> cases inI (l.length : Int) 1 3 <;> rfl) (fun k => by rw [M_impl_IsValidRules_L0, lt_f]; rfl) (show r.length < fu by have := hr.1; omega)
  rw [h, cl_true]
  unfold rsB
  cases r.any fun l => !(ruleB l)
  · rw [cond_false, exM_go', h1, cl_true, Bool.not_false, Bool.and_true]
  · rw [cond_true, exM_ret, Bool.not_true, Bool.and_false]
theorem inI_iff {x lo hi : Int} : inI x lo hi = true ↔ lo ≤ x ∧ x ≤ hi := by simp [inI]
theorem adjAny_false {α : Type} {b0 : α → Bool} {b : α → α → Bool} (hb : ∀ p x, b p x = false → b0 x = false) {l : List α} (h : adjAny b0 b l = false) : ∀ x ∈ l, b0 x = false := by
  have key : ∀ (l : List α) (p : α), adjB b p l = false → ∀ x ∈ l, b0 x = false := by
    intro l
    induction l with
    | nil => intro p h x hx; cases hx
    | cons y l ih =>
      intro p h x hx
      unfold adjB at h
      rw [Bool.or_eq_false_iff] at h
      rcases List.mem_cons.1 hx with rfl | hx
      · exact hb _ _ h.1
      · exact ih y h.2 x hx
  cases l with
  | nil => intro x hx; cases hx
  | cons y l =>
    unfold adjAny at h
    rw [Bool.or_eq_false_iff] at h
    intro x hx
    rcases List.mem_cons.1 hx with rfl | hx
    · exact h.1
    · exact key l y h.2 x hx
theorem rsB_len {r : List (List TTst)} (h : rsB r = true) : r.length ≤ 3 ∧ ∀ l ∈ r, l.length ≤ 3 ∧ ∀ t ∈ l, (0 ≤ t.1 ∧ t.1 ≤ 5) ∧ 1 ≤ t.2.1 ∧ t.2.1 ≤ 1000 := by
  unfold rsB at h
  rw [Bool.and_eq_true, inI_iff] at h
  obtain ⟨⟨_, h1⟩, h2⟩ := h
  refine ⟨by omega, fun l hl => ?_⟩
  have h3 : ruleB l = true := by
    cases hb : ruleB l
    · have : (r.any fun l => !(ruleB l)) = true := List.any_eq_true.2 ⟨l, hl, by rw [hb]; rfl⟩
      rw [this] at h2
      cases h2
    · rfl
  unfold ruleB at h3
  rw [Bool.and_eq_true, inI_iff] at h3
  refine ⟨by omega, fun t ht => ?_⟩
  have h4 := h3.2
  unfold tstsB at h4
  rw [Bool.not_eq_true'] at h4
  have h5 := adjAny_false (b0 := tstX) (b := fun p x => tstX x || decide (x.1 ≤ p.1)) (fun p x h => (Bool.or_eq_false_iff.1 h).1) h4 t ht
  unfold tstX at h5
  rw [Bool.or_eq_false_iff, Bool.not_eq_false', Bool.not_eq_false', inI_iff, inI_iff] at h5
  exact h5
end Go.Proofs.YtpneepiboheldaaDoor
/- Plain: what the law FormatRules asks. No statement of the seat is proved here. -/
namespace Go.Proofs.YtpneepiboheldaaDoor
open Go.RowKit
set_option linter.unusedVariables false
set_option linter.unusedSimpArgs false

def testT (t : TTst) : List UInt8 := gtD featL t.1 ++ (bif t.2.2 then [60] else [62, 61]) ++ Lib.itoa t.2.1
theorem testT_len {t : TTst} (h : (0 ≤ t.1 ∧ t.1 ≤ 5) ∧ 1 ≤ t.2.1 ∧ t.2.1 ≤ 1000) : (testT t).length ≤ 30 := by
  have e2 := itoa_le (n := t.2.1) (by omega) (by omega)
  have e5 := feat_len t.1
  unfold testT
  cases t.2.2 <;> simp <;> omega
def ruleT (l : List TTst) : List UInt8 := jn [44] (l.map testT)
theorem ruleT_len {l : List TTst} (h3 : l.length ≤ 3) (hb : ∀ t ∈ l, (0 ≤ t.1 ∧ t.1 ≤ 5) ∧ 1 ≤ t.2.1 ∧ t.2.1 ≤ 1000) : (ruleT l).length ≤ 93 := by
  have := jn_len [44] 30 (l.map testT) (fun x hx => by
    obtain ⟨t, ht, rfl⟩ := List.mem_map.1 hx
    exact testT_len (hb t ht))
  rw [List.length_map] at this
  unfold ruleT
  simp at this
  omega
theorem implTT_t {fu : Nat} {t : TTst} (h : (0 ≤ t.1 ∧ t.1 ≤ 5) ∧ 1 ≤ t.2.1 ∧ t.2.1 ≤ 1000) : M_impl_testText fu t = some (testT t) := by
  unfold M_impl_testText testT
  have e2 := itoa_le (n := t.2.1) (by omega) (by omega)
  have e5 := feat_len t.1
  rw [ck_t (featIn h.1.1 h.1.2), ck_t (lenOK_s (by simp only [List.length_append, List.length_cons, List.length_nil]; omega)), implFI_t (by omega) (by omega), cl_true, ck_t (lenOK_s (by simp only [List.length_append, List.length_cons, List.length_nil]; omega)), ck_t (lenOK_s (by simp only [List.length_append, List.length_cons, List.length_nil]; omega)), cl_true, ck_t (featIn h.1.1 h.1.2), ck_t (lenOK_s (by simp only [List.length_append, List.length_cons, List.length_nil]; omega))]
  cases t.2.2 <;> rfl
theorem specIn1_t {fu : Nat} {r : List (List TTst)} {l : List TTst} {i : Nat} {acc : List UInt8} (hl : r[i]? = some l) (hf : 1048577 ≤ fu) (h3 : l.length ≤ 3) (hb : ∀ t ∈ l, (0 ≤ t.1 ∧ t.1 ≤ 5) ∧ 1 ≤ t.2.1 ∧ t.2.1 ≤ 1000) (ha : acc.length ≤ 1000) :
    M_spec_FormatRules_L1 fu r (i : Int) fu acc (0 : Int) = some (acc ++ jn [44] (l.map testT)) := by
  have hi := at_lt hl
  have hg := gtD_get hl
  have key : ∀ m j k (a : List UInt8), j + m = l.length → m < k → a = acc ++ jn [44] ((l.map testT).take j) → a.length ≤ 1000 + 40 * j → M_spec_FormatRules_L1 fu r (i : Int) k a (j : Int) = some (acc ++ jn [44] (l.map testT)) := by
    intro m
    induction m with
    | zero =>
      intro j k a hj hk he hal
      obtain ⟨k, rfl⟩ : ∃ q, k = q + 1 := ⟨k - 1, by omega⟩
      obtain rfl : j = l.length := by omega
      rw [M_spec_FormatRules_L1, ck_t (inR_t hi), hg, lt_f, cond_false, he, List.take_of_length_le (by simp)]
    | succ m ih =>
      intro j k a hj hk he hal
      obtain ⟨k, rfl⟩ : ∃ q, k = q + 1 := ⟨k - 1, by omega⟩
      have hlt : j < l.length := by omega
      have hgj : gtD l (j : Int) = l[j] := gtD_get (List.getElem?_eq_getElem hlt)
      have hq := hb l[j] (List.getElem_mem hlt)
      have e2 := itoa_le (n := l[j].2.1) (by omega) (by omega)
      have e5 := feat_len l[j].1
      have ht : (l.map testT).take (j + 1) = (l.map testT).take j ++ [testT l[j]] := by rw [List.take_add_one, List.getElem?_map, List.getElem?_eq_getElem hlt]; rfl
      rw [M_spec_FormatRules_L1, ck_t (inR_t hi), hg, lt_t hlt, cond_true, ck_t (inR_t hi), ck_t (inR_t hlt), hgj, specFI_t hf (by omega) (by omega), specName_t (by omega) (by omega)]
      rcases Nat.eq_zero_or_pos j with rfl | hp
      · have h0 : a = acc := by rw [he]; simp [jn]
        subst h0
        rw [show decide ((0 : Int) < ((0 : Nat) : Int)) = false from rfl, cond_false, cl_true, ck_t (lenOK_s (by simp only [List.length_append, List.length_cons, List.length_nil]; omega))]
        have nx : M_spec_FormatRules_L1 fu r (i : Int) k (a ++ testT l[0]) ((0 + 1 : Nat) : Int) = some (a ++ jn [44] (l.map testT)) := by
          refine ih 1 k _ (by omega) (by omega) ?_ (by unfold testT; cases l[0].2.2 <;> simp <;> omega)
          rw [ht, List.take_zero, List.nil_append, jn_one]
        rw [← nx]
        unfold testT
        cases l[0].2.2
        · rw [cond_false, ck_t (lenOK_s (by simp only [List.length_append, List.length_cons, List.length_nil]; omega)), cl_true, ck_t (lenOK_s (by simp only [List.length_append, List.length_cons, List.length_nil]; omega)), ck_t (i64B_n (by omega)), succ_i]
          simp only [List.append_assoc, cond_false]
        · rw [cond_true, ck_t (lenOK_s (by simp only [List.length_append, List.length_cons, List.length_nil]; omega)), cl_true, ck_t (lenOK_s (by simp only [List.length_append, List.length_cons, List.length_nil]; omega)), ck_t (i64B_n (by omega)), succ_i]
          simp only [List.append_assoc, cond_true]
      · rw [show decide ((0 : Int) < (j : Int)) = true from decide_eq_true (by omega), cond_true, ck_t (lenOK_s (by simp only [List.length_append, List.length_cons, List.length_nil]; omega)), cl_true, ck_t (lenOK_s (by simp only [List.length_append, List.length_cons, List.length_nil]; omega))]
        have nx : M_spec_FormatRules_L1 fu r (i : Int) k (a ++ [44] ++ testT l[j]) ((j + 1 : Nat) : Int) = some (acc ++ jn [44] (l.map testT)) := by
          refine ih (j + 1) k _ (by omega) (by omega) ?_ (by unfold testT; cases l[j].2.2 <;> simp <;> omega)
          rw [ht, jn_snoc _ _ _ (by
            intro hz
            have := congrArg List.length hz
            rw [List.length_take, List.length_map, List.length_nil] at this
            omega), he]
          simp only [List.append_assoc]
        rw [← nx]
        unfold testT
        cases l[j].2.2
        · rw [cond_false, ck_t (lenOK_s (by simp only [List.length_append, List.length_cons, List.length_nil]; omega)), cl_true, ck_t (lenOK_s (by simp only [List.length_append, List.length_cons, List.length_nil]; omega)), ck_t (i64B_n (by omega)), succ_i]
          simp only [List.append_assoc, cond_false]
        · rw [cond_true, ck_t (lenOK_s (by simp only [List.length_append, List.length_cons, List.length_nil]; omega)), cl_true, ck_t (lenOK_s (by simp only [List.length_append, List.length_cons, List.length_nil]; omega)), ck_t (i64B_n (by omega)), succ_i]
          simp only [List.append_assoc, cond_true]
  have := key l.length 0 fu acc (by omega) (by omega) (by simp [jn]) (by omega)
  rwa [show ((0 : Nat) : Int) = 0 from rfl] at this
theorem specIn2_t {fu : Nat} {r : List (List TTst)} {l : List TTst} {i : Nat} {acc : List UInt8} (hl : r[i]? = some l) (hf : 1048577 ≤ fu) (h3 : l.length ≤ 3) (hb : ∀ t ∈ l, (0 ≤ t.1 ∧ t.1 ≤ 5) ∧ 1 ≤ t.2.1 ∧ t.2.1 ≤ 1000) (ha : acc.length ≤ 1000) :
    M_spec_FormatRules_L2 fu r (i : Int) fu acc (0 : Int) = some (acc ++ jn [44] (l.map testT)) := by
  have hi := at_lt hl
  have hg := gtD_get hl
  have key : ∀ m j k (a : List UInt8), j + m = l.length → m < k → a = acc ++ jn [44] ((l.map testT).take j) → a.length ≤ 1000 + 40 * j → M_spec_FormatRules_L2 fu r (i : Int) k a (j : Int) = some (acc ++ jn [44] (l.map testT)) := by
    intro m
    induction m with
    | zero =>
      intro j k a hj hk he hal
      obtain ⟨k, rfl⟩ : ∃ q, k = q + 1 := ⟨k - 1, by omega⟩
      obtain rfl : j = l.length := by omega
      rw [M_spec_FormatRules_L2, ck_t (inR_t hi), hg, lt_f, cond_false, he, List.take_of_length_le (by simp)]
    | succ m ih =>
      intro j k a hj hk he hal
      obtain ⟨k, rfl⟩ : ∃ q, k = q + 1 := ⟨k - 1, by omega⟩
      have hlt : j < l.length := by omega
      have hgj : gtD l (j : Int) = l[j] := gtD_get (List.getElem?_eq_getElem hlt)
      have hq := hb l[j] (List.getElem_mem hlt)
      have e2 := itoa_le (n := l[j].2.1) (by omega) (by omega)
      have e5 := feat_len l[j].1
      have ht : (l.map testT).take (j + 1) = (l.map testT).take j ++ [testT l[j]] := by rw [List.take_add_one, List.getElem?_map, List.getElem?_eq_getElem hlt]; rfl
      rw [M_spec_FormatRules_L2, ck_t (inR_t hi), hg, lt_t hlt, cond_true, ck_t (inR_t hi), ck_t (inR_t hlt), hgj, specFI_t hf (by omega) (by omega), specName_t (by omega) (by omega)]
      rcases Nat.eq_zero_or_pos j with rfl | hp
      · have h0 : a = acc := by rw [he]; simp [jn]
        subst h0
        rw [show decide ((0 : Int) < ((0 : Nat) : Int)) = false from rfl, cond_false, cl_true, ck_t (lenOK_s (by simp only [List.length_append, List.length_cons, List.length_nil]; omega))]
        have nx : M_spec_FormatRules_L2 fu r (i : Int) k (a ++ testT l[0]) ((0 + 1 : Nat) : Int) = some (a ++ jn [44] (l.map testT)) := by
          refine ih 1 k _ (by omega) (by omega) ?_ (by unfold testT; cases l[0].2.2 <;> simp <;> omega)
          rw [ht, List.take_zero, List.nil_append, jn_one]
        rw [← nx]
        unfold testT
        cases l[0].2.2
        · rw [cond_false, ck_t (lenOK_s (by simp only [List.length_append, List.length_cons, List.length_nil]; omega)), cl_true, ck_t (lenOK_s (by simp only [List.length_append, List.length_cons, List.length_nil]; omega)), ck_t (i64B_n (by omega)), succ_i]
          simp only [List.append_assoc, cond_false]
        · rw [cond_true, ck_t (lenOK_s (by simp only [List.length_append, List.length_cons, List.length_nil]; omega)), cl_true, ck_t (lenOK_s (by simp only [List.length_append, List.length_cons, List.length_nil]; omega)), ck_t (i64B_n (by omega)), succ_i]
          simp only [List.append_assoc, cond_true]
      · rw [show decide ((0 : Int) < (j : Int)) = true from decide_eq_true (by omega), cond_true, ck_t (lenOK_s (by simp only [List.length_append, List.length_cons, List.length_nil]; omega)), cl_true, ck_t (lenOK_s (by simp only [List.length_append, List.length_cons, List.length_nil]; omega))]
        have nx : M_spec_FormatRules_L2 fu r (i : Int) k (a ++ [44] ++ testT l[j]) ((j + 1 : Nat) : Int) = some (acc ++ jn [44] (l.map testT)) := by
          refine ih (j + 1) k _ (by omega) (by omega) ?_ (by unfold testT; cases l[j].2.2 <;> simp <;> omega)
          rw [ht, jn_snoc _ _ _ (by
            intro hz
            have := congrArg List.length hz
            rw [List.length_take, List.length_map, List.length_nil] at this
            omega), he]
          simp only [List.append_assoc]
        rw [← nx]
        unfold testT
        cases l[j].2.2
        · rw [cond_false, ck_t (lenOK_s (by simp only [List.length_append, List.length_cons, List.length_nil]; omega)), cl_true, ck_t (lenOK_s (by simp only [List.length_append, List.length_cons, List.length_nil]; omega)), ck_t (i64B_n (by omega)), succ_i]
          simp only [List.append_assoc, cond_false]
        · rw [cond_true, ck_t (lenOK_s (by simp only [List.length_append, List.length_cons, List.length_nil]; omega)), cl_true, ck_t (lenOK_s (by simp only [List.length_append, List.length_cons, List.length_nil]; omega)), ck_t (i64B_n (by omega)), succ_i]
          simp only [List.append_assoc, cond_true]
  have := key l.length 0 fu acc (by omega) (by omega) (by simp [jn]) (by omega)
  rwa [show ((0 : Nat) : Int) = 0 from rfl] at this
theorem specFR_t {fu : Nat} {r : List (List TTst)} (hf : 1048577 ≤ fu) (hr : RsOK r) : M_spec_FormatRules fu r = some (bif rsB r then jn [32, 111, 114, 32] (r.map ruleT) else []) := by
  unfold M_spec_FormatRules
  rw [specRs_t hf hr, cl_true]
  cases hv : rsB r
  · rfl
  · obtain ⟨h3, hb⟩ := rsB_len hv
    have key : ∀ m i k (a : List UInt8), i + m = r.length → m < k → a = jn [32, 111, 114, 32] ((r.map ruleT).take i) → a.length ≤ 100 * i → M_spec_FormatRules_L0 fu r k a (i : Int) = some (jn [32, 111, 114, 32] (r.map ruleT)) := by
      intro m
      induction m with
      | zero =>
        intro i k a hi hk he hal
        obtain ⟨k, rfl⟩ : ∃ q, k = q + 1 := ⟨k - 1, by omega⟩
        obtain rfl : i = r.length := by omega
        rw [M_spec_FormatRules_L0, lt_f, cond_false, he, List.take_of_length_le (by simp)]
      | succ m ih =>
        intro i k a hi hk he hal
        obtain ⟨k, rfl⟩ : ∃ q, k = q + 1 := ⟨k - 1, by omega⟩
        have hlt : i < r.length := by omega
        have hg := List.getElem?_eq_getElem hlt
        obtain ⟨hl3, hlb⟩ := hb r[i] (List.getElem_mem hlt)
        have hrl := ruleT_len hl3 hlb
        have ht : (r.map ruleT).take (i + 1) = (r.map ruleT).take i ++ [ruleT r[i]] := by rw [List.take_add_one, List.getElem?_map, hg]; rfl
        rw [M_spec_FormatRules_L0, lt_t hlt, cond_true]
        rcases Nat.eq_zero_or_pos i with rfl | hp
        · have h0 : a = [] := by rw [he]; rfl
          subst h0
          rw [show decide ((0 : Int) < ((0 : Nat) : Int)) = false from rfl, cond_false, specIn2_t hg hf hl3 hlb (by simp), cl_true, ck_t (i64B_n (by omega)), succ_i]
          refine ih 1 k _ (by omega) (by omega) ?_ (by rw [List.nil_append]; exact Nat.le_trans hrl (by omega))
          rw [ht, List.take_zero, List.nil_append, List.nil_append, jn_one]
          rfl
        · rw [show decide ((0 : Int) < (i : Int)) = true from decide_eq_true (by omega), cond_true, ck_t (lenOK_s (by simp only [List.length_append, List.length_cons, List.length_nil]; omega)), specIn1_t hg hf hl3 hlb (by simp; omega), cl_true, ck_t (i64B_n (by omega)), succ_i]
          refine ih (i + 1) k _ (by omega) (by omega) ?_ (by
            have : (jn [44] (r[i].map testT)).length ≤ 93 := hrl
            simp; omega)
          rw [ht, jn_snoc _ _ _ (by
            intro hz
            have := congrArg List.length hz
            rw [List.length_take, List.length_map, List.length_nil] at this
            omega), he]
          rfl
    have := key r.length 0 fu [] (by omega) (by omega) rfl (Nat.le_refl _)
    rw [show ((0 : Nat) : Int) = 0 from rfl] at this
    rw [Bool.not_true, cond_false, this, cl_true]
    rfl
theorem implFR_t {fu : Nat} {r : List (List TTst)} (hf : 1048577 ≤ fu) (hr : RsOK r) : M_impl_FormatRules fu r = some (bif rsB r then jn [32, 111, 114, 32] (r.map ruleT) else []) := by
  unfold M_impl_FormatRules
  rw [implRs_t hf hr, cl_true]
  cases hv : rsB r
  · rfl
  · obtain ⟨h3, hb⟩ := rsB_len hv
    have inn : ∀ (i : Nat) (l : List TTst), r[i]? = some l → l.length ≤ 3 → (∀ t ∈ l, (0 ≤ t.1 ∧ t.1 ≤ 5) ∧ 1 ≤ t.2.1 ∧ t.2.1 ≤ 1000) → M_impl_FormatRules_L1 fu r (i : Int) fu (0 : Int) [] = some (l.map testT) := by
      intro i l hg hl3 hlb
      have hgg := gtD_get hg
      have key : ∀ m j k, j + m = l.length → m < k → M_impl_FormatRules_L1 fu r (i : Int) k (j : Int) ((l.map testT).take j) = some (l.map testT) := by
        intro m
        induction m with
        | zero =>
          intro j k hj hk
          obtain ⟨k, rfl⟩ : ∃ q, k = q + 1 := ⟨k - 1, by omega⟩
          obtain rfl : j = l.length := by omega
          rw [M_impl_FormatRules_L1, hgg, lt_f, cond_false, List.take_of_length_le (by simp)]
        | succ m ih =>
          intro j k hj hk
          obtain ⟨k, rfl⟩ : ∃ q, k = q + 1 := ⟨k - 1, by omega⟩
          have hlt : j < l.length := by omega
          have ht : (l.map testT).take (j + 1) = (l.map testT).take j ++ [testT l[j]] := by rw [List.take_add_one, List.getElem?_map, List.getElem?_eq_getElem hlt]; rfl
          rw [M_impl_FormatRules_L1, hgg, lt_t hlt, cond_true, ck_t (inR_t hlt), gtD_get (List.getElem?_eq_getElem hlt), implTT_t (hlb _ (List.getElem_mem hlt)), cl_true, ck_t (lenOK_t (by simp; omega)), ck_t (i64B_n (by omega)), succ_i, ← ht]
          exact ih (j + 1) k (by omega) (by omega)
      have := key l.length 0 fu (by omega) (by omega)
      rwa [show ((0 : Nat) : Int) = 0 from rfl, List.take_zero] at this
    have key : ∀ m i k, i + m = r.length → m < k → M_impl_FormatRules_L0 fu r k (i : Int) ((r.map ruleT).take i) = some (r.map ruleT) := by
      intro m
      induction m with
      | zero =>
        intro i k hi hk
        obtain ⟨k, rfl⟩ : ∃ q, k = q + 1 := ⟨k - 1, by omega⟩
        obtain rfl : i = r.length := by omega
        rw [M_impl_FormatRules_L0, lt_f, cond_false, List.take_of_length_le (by simp)]
      | succ m ih =>
        intro i k hi hk
        obtain ⟨k, rfl⟩ : ∃ q, k = q + 1 := ⟨k - 1, by omega⟩
        have hlt : i < r.length := by omega
        have hg := List.getElem?_eq_getElem hlt
        obtain ⟨hl3, hlb⟩ := hb r[i] (List.getElem_mem hlt)
        have hrl : (jn [44] (r[i].map testT)).length ≤ 93 := ruleT_len hl3 hlb
        have ht : (r.map ruleT).take (i + 1) = (r.map ruleT).take i ++ [ruleT r[i]] := by rw [List.take_add_one, List.getElem?_map, hg]; rfl
        rw [M_impl_FormatRules_L0, lt_t hlt, cond_true, ck_t (inR_t hlt), inn i _ hg hl3 hlb, cl_true, join_t (by simp; omega) (by omega), cl_true, ck_t (lenOK_t (by simp; omega)), ck_t (i64B_n (by omega)), succ_i, show [jn [44] (r[i].map testT)] = [ruleT r[i]] from rfl, ← ht]
        exact ih (i + 1) k (by omega) (by omega)
    have hk := key r.length 0 fu (by omega) (by omega)
    rw [show ((0 : Nat) : Int) = 0 from rfl, List.take_zero] at hk
    have hj := jn_len [32, 111, 114, 32] 93 (r.map ruleT) (fun x hx => by
      obtain ⟨l, hl, rfl⟩ := List.mem_map.1 hx
      obtain ⟨hl3, hlb⟩ := hb l hl
      exact ruleT_len hl3 hlb)
    rw [List.length_map] at hj
    rw [Bool.not_true, cond_false, hk, cl_true, join_t (by simp; omega) (by simp at hj; omega)]
    rfl
end Go.Proofs.YtpneepiboheldaaDoor
