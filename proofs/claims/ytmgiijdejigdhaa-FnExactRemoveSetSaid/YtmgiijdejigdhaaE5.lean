/- Printed by dec.py: plain functions and the proofs that the code computes them. No statement of the seat is proved here. -/
import Derived.Test.YtmgiijdejigdhaaE4
namespace Go.Proofs.Ytmgiijdejigdhaa
open Go.RowKit
set_option linter.unusedVariables false
def M_laws_FnExactRemoveSet (fu : Nat) (p0 : T_laws_SetIndex) (p1 : Int) : Option Bool :=
  cl true (M_laws_szSetIndex fu p0 (1048576 : Int)) fun x2 =>
  bif (decide (x2 < (0 : Int))) then (
    some true
  ) else (
    cl true (M_laws_toSetIndex fu p0) fun x5 =>
    cl true (M_spec_RemoveSet fu x5 p1) fun x7 =>
    cl true (M_laws_toSetIndex fu p0) fun x12 =>
    cl true (M_impl_RemoveSet fu x12 p1) fun x20 =>
    cl true (M_laws_eqSetIndex fu x20.1 x7.1) fun x32 =>
    bd ((!x32) || (x20.2 != x7.2)) fun x34 =>
    bif x34 then (
      some false
    ) else (
      cl true (M_laws_toSetIndex fu p0) fun x39 =>
      cl true (M_laws_eqSetIndex fu x12 x39) fun x41 =>
      bif (!x41) then (
        some false
      ) else (
        cl true (M_laws_markSetIndex fu x12 (1 : Int)) fun x46 =>
        cl (true && ((decide (x46.1 < (0 : Int))) == false)) (M_laws_eqSetIndex fu x20.1 x7.1) fun x56 =>
        bd ((decide (x46.1 < (0 : Int))) || (!x56)) fun x58 =>
        bd (x58 || (x20.2 != x7.2)) fun x60 =>
        bif x60 then (
          some false
        ) else (
          cl true (M_laws_markSetIndex fu x20.1 (1 : Int)) fun x65 =>
          cl true (M_laws_heldSetIndex fu x65.2 (1 : Int)) fun x74 =>
          bif (decide (x74 < (0 : Int))) then (
            some false
          ) else (
            bif (x74 != x65.1) then (
              some false
            ) else (
              cl true (M_laws_toSetIndex fu p0) fun x78 =>
              cl true (M_impl_RemoveSet fu x78 p1) fun x80 =>
              cl true (M_laws_eqSetIndex fu x80.1 x7.1) fun x87 =>
              bd ((!x87) || (x80.2 != x7.2)) fun x89 =>
              bif x89 then (
                some false
              ) else (
                cl true (M_laws_heldSetIndex fu x65.2 (1 : Int)) fun x92 =>
                bif (decide (x92 < (0 : Int))) then (
                  some false
                ) else (
                  bif (x92 != x65.1) then (
                    some false
                  ) else (
                    some true
                  )
                )
              )
            )
          )
        )
      )
    )
  )
set_option maxRecDepth 100000 in
set_option maxHeartbeats 4000000 in
theorem M_laws_FnExactRemoveSet_ok {fu : Nat} {A0 : Av} {p0 : T_laws_SetIndex} {p1 : Int} {r : Bool} (hr : M_laws_FnExactRemoveSet fu p0 p1 = some r) {w : World} {v0 : Value} {v1 : Value} (hA : AvOK A0 w) (h0 : Rep E_laws_SetIndex A0 w v0 p0) (h1 : v1 = .int .i64 p1) :
    Calls Try.prog 3 #[v0, v1] w fun e w' => ∃ v, e = .returned v ∧ (v = .bool r ∧ Fr w w') := by
  unfold M_laws_FnExactRemoveSet at hr
  obtain ⟨w0, hw0⟩ : ∃ w0, w0 = w := ⟨_, rfl⟩
  have hF : Fr w0 w := hw0 ▸ Fr.refl _
  have hA0 : ∀ b o, A0 b o → b < w0.heap.size := fun b o h => hw0 ▸ hA b o h
  have hA00 : AvOK A0 w0 := hA0
  rw [show Fr w = Fr w0 from hw0 ▸ rfl]
  clear hw0
  obtain ⟨A, hAe⟩ : ∃ A, A = A0 := ⟨_, rfl⟩
  have hAA : ∀ b o, A0 b o → A b o := fun b o h => hAe ▸ h
  replace hA : AvOK A w := hAe ▸ hA
  have hO : IniOK [] A w := IniOK.nil
  refine calls_of_HT2 [.tmp 4] Try.func3 Try.ntmps3 (by decide) rfl rfl (Nat.le_of_ble_eq_true rfl) ?_
  intro R hR
  have f_v0 : Rep E_laws_SetIndex A w v0 p0 := hAe ▸ h0
  replace h0 : R 0 = v0 := hR 0 _ rfl
  replace h1 : R 1 = .int .i64 p1 := (hR 1 _ rfl).trans h1
  clear hR hAe
  refine HT.seq ?_
  refine HT.textR [] (⟨_, true, [], some (.box w0.heap.size 25 E_laws_SetIndex p0), true, fun A => .any⟩ :: ⟨_, true, [], none, true, fun A => .raw (.bool false)⟩ :: []) (by kernel_rfl) (by kernel_rfl) (Wf.mk' (by kernel_rfl) (UAll.cons ust_any (UAll.cons ust_raw (UAll.nil))) (by kernel_rfl) (by kernel_rfl)) hO hA ?_ ?_
  · exact
      OblsR.cons (OblR.made _ rfl rfl rfl rfl fun A' R' w' ho hd => by have a0 : R' 0 = v0 := (ho.old 0 rfl).trans h0; have ra0 := (f_v0.stp ho.stp).eq a0; exact made_box ra0 (Nat.le_trans hF.size ho.ch.size)) <|
      OblsR.cons (OblR.plain rfl rfl rfl rfl fun A' R' w' ho hd => by exact of_assign rfl) <|
      OblsR.nil
  intro done ρ σ A R w hdn hI
  replace h1 : R 1 = .int .i64 p1 := (hI.reg rfl).trans h1
  obtain ⟨b2_0, e_b2_0⟩ := hI.boxv hdn 0 rfl rfl
  have h2 : R 2 = (.pointer (some ⟨b2_0, 0, none⟩)) := (hI.opvR hdn 0 0 rfl rfl rfl rfl rfl).symm.trans e_b2_0
  replace hAA := hI.low' hAA hA0 (hO.ge (trivial))
  replace hF : Fr w0 w := hF.tr hI.ch (hO.ge (trivial))
  replace hO : IniOK [ob (.pointer (some ⟨b2_0, 0, none⟩)) (.box w0.heap.size 25 E_laws_SetIndex p0)] A w := hI.left hdn [(0, ob (.pointer (some ⟨b2_0, 0, none⟩)) (.box w0.heap.size 25 E_laws_SetIndex p0))] ⟨rfl, rfl, e_b2_0, rfl, rfl, trivial⟩
  replace hA := hI.avok
  clear hI
  refine HT.seq ?_
  refine HT.text (l := ⟨_, true, .raw (.int .i64 (1048576 : Int))⟩ :: []) (tl := []) (by kernel_rfl) (by kernel_rfl) (by kernel_rfl) ?_ ?_
  · exact
      Obls.cons (Obl.plain rfl rfl fun R' w' hw hs hd => by exact of_assign rfl) <|
      Obls.nil
  intro R w hw hs hF'
  replace h1 : R 1 = .int .i64 p1 := (hs 1 rfl).trans h1
  replace h2 : R 2 = (.pointer (some ⟨b2_0, 0, none⟩)) := (hs 2 rfl).trans h2
  have h5 : R 5 = .int .i64 (1048576 : Int) := hF' 0 _ _ rfl rfl rfl
  replace hO := hO.fr hw
  replace hA := hA.fr hw.size
  replace hF := hF.trans hw
  clear hs hF' hw
  refine seqR_nil ?_
  refine HT.seq ?_
  obtain ⟨x2, q3, hr⟩ := cl_some hr
  refine HT.text (l := ⟨_, true, .rep E_laws_SetIndex A p0⟩ :: ⟨_, true, .raw (.int .i64 (1048576 : Int))⟩ :: ⟨_, true, .raw (.int .i64 x2)⟩ :: ⟨_, true, .raw (.int .i64 x2)⟩ :: []) (tl := []) (by kernel_rfl) (by kernel_rfl) (by kernel_rfl) ?_ ?_
  · exact
      Obls.cons (Obl.plain rfl rfl fun R' w' hw hs hd => by have a0 : R' 2 = (.pointer (some ⟨b2_0, 0, none⟩)) := (hs 2 rfl).trans h2; exact (of_load_box ((hO.fr hw).ok 0 _ rfl).1 a0 (Fld.id _) rfl Try.isAgg25 Try.sizeOf25)) <|
      Obls.cons (Obl.plain rfl rfl fun R' w' hw hs hd => by have a0 : R' 5 = .int .i64 (1048576 : Int) := (hs 5 rfl).trans h5; exact of_move a0) <|
      Obls.cons (Obl.plain rfl rfl fun R' w' hw hs hd => by have a0 : Rep E_laws_SetIndex A w' (R' 16) p0 := hd 0 _ _ _ rfl rfl rfl rfl rfl; have a1 : R' 17 = .int .i64 (1048576 : Int) := hd 1 _ _ _ rfl rfl rfl rfl rfl; exact of_call Try.call5 (M_laws_szSetIndex_ok (q3 rfl) (hA.fr hw.size) a0 a1)) <|
      Obls.cons (Obl.plain rfl rfl fun R' w' hw hs hd => by have a0 : R' 18 = .int .i64 x2 := hd 0 _ _ _ rfl rfl rfl rfl rfl; exact of_assign a0) <|
      Obls.nil
  intro R w hw hs hF'
  replace h1 : R 1 = .int .i64 p1 := (hs 1 rfl).trans h1
  replace h2 : R 2 = (.pointer (some ⟨b2_0, 0, none⟩)) := (hs 2 rfl).trans h2
  have h5 : R 5 = .int .i64 x2 := hF' 3 _ _ rfl rfl rfl
  replace hO := hO.fr hw
  replace hA := hA.fr hw.size
  replace hF := hF.trans hw
  clear hs hF' hw
  refine seqR_nil ?_
  refine HT.seq ?_
  refine HT.seq ?_
  refine HT.text (l := ⟨_, true, .raw (.int .i64 x2)⟩ :: ⟨_, true, .raw (.bool (decide (x2 < (0 : Int))))⟩ :: []) (tl := []) (by kernel_rfl) (by kernel_rfl) (by kernel_rfl) ?_ ?_
  · exact
      Obls.cons (Obl.plain rfl rfl fun R' w' hw hs hd => by have a0 : R' 5 = .int .i64 x2 := (hs 5 rfl).trans h5; exact of_move a0) <|
      Obls.cons (Obl.plain rfl rfl fun R' w' hw hs hd => by have a0 : R' 19 = .int .i64 x2 := hd 0 _ _ _ rfl rfl rfl rfl rfl; exact of_lss a0 rfl) <|
      Obls.nil
  intro R w hw hs hF'
  replace h1 : R 1 = .int .i64 p1 := (hs 1 rfl).trans h1
  replace h2 : R 2 = (.pointer (some ⟨b2_0, 0, none⟩)) := (hs 2 rfl).trans h2
  have h20 : R 20 = .bool (decide (x2 < (0 : Int))) := hF' 1 _ _ rfl rfl rfl
  replace hO := hO.fr hw
  replace hA := hA.fr hw.size
  replace hF := hF.trans hw
  clear hs hF' hw
  refine seqR_nil ?_
  refine HT.cond (decide (x2 < (0 : Int))) h20 (fun c4 => ?_) (fun c4 => ?_)
  · have hr := cnd_t c4 hr
    refine HT.seq ?_
    refine HT.text (l := ⟨_, true, .raw (.bool true)⟩ :: []) (tl := []) (by kernel_rfl) (by kernel_rfl) (by kernel_rfl) ?_ ?_
    · exact
        Obls.cons (Obl.plain rfl rfl fun R' w' hw hs hd => by exact of_assign rfl) <|
        Obls.nil
    intro R w hw hs hF'
    have h4 : R 4 = .bool true := hF' 0 _ _ rfl rfl rfl
    replace hO := hO.fr hw
    replace hO : IniOK [] A w := hO.sub [] trivial
    replace hA := hA.fr hw.size
    replace hF := hF.trans hw
    clear hs hF' hw
    refine seqR_nil ?_
    refine HT.ret ?_
    obtain rfl := Option.some.inj hr
    exact ⟨.inr rfl, [R 4], ⟨rfl, trivial⟩, h4, hF⟩
  · have hr := cnd_f c4 hr
    refine HT.skip ?_
    refine HT.seq ?_
    obtain ⟨x5, q6, hr⟩ := cl_some hr
    obtain ⟨x7, q8, hr⟩ := cl_some hr
    refine HT.textR [ob (.pointer (some ⟨b2_0, 0, none⟩)) (.box w0.heap.size 25 E_laws_SetIndex p0)] (⟨_, true, [], none, true, fun A => .rep E_laws_SetIndex A p0⟩ :: ⟨_, true, [], none, true, fun A => .rep E_impl_SetIndex A x5⟩ :: ⟨_, true, [], none, true, fun A => .raw (.int .i64 p1)⟩ :: ⟨_, true, [], none, true, fun A => .tup2 (.rep E_impl_SetIndex A x7.1) (.raw (.bool x7.2))⟩ :: ⟨_, true, [], none, true, fun A => .tup2 (.rep E_impl_SetIndex A x7.1) (.raw (.bool x7.2))⟩ :: ⟨_, true, [], none, true, fun A => .rep E_impl_SetIndex A x7.1⟩ :: ⟨_, true, [], none, true, fun A => .raw (.bool x7.2)⟩ :: ⟨_, true, [], some (.box w0.heap.size 30 E_impl_SetIndex ((0 : Int), (([] : List T_impl_TokenCount), ([] : List T_impl_IndexedSet)))), true, fun A => .any⟩ :: ⟨_, true, [8], some (.box w0.heap.size 30 E_impl_SetIndex x7.1), false, fun A => .any⟩ :: ⟨_, true, [], none, true, fun A => .raw (.bool x7.2)⟩ :: []) (by kernel_rfl) (by kernel_rfl) (Wf.mk' (by kernel_rfl) (UAll.cons ust_rep (UAll.cons ust_rep (UAll.cons ust_raw (UAll.cons (ust_tup2 ust_rep ust_raw) (UAll.cons (ust_tup2 ust_rep ust_raw) (UAll.cons ust_rep (UAll.cons ust_raw (UAll.cons ust_any (UAll.cons ust_any (UAll.cons ust_raw (UAll.nil))))))))))) (by kernel_rfl) (by kernel_rfl)) hO hA ?_ ?_
    · exact
        OblsR.cons (OblR.plain rfl rfl rfl rfl fun A' R' w' ho hd => by have a0 : R' 2 = (.pointer (some ⟨b2_0, 0, none⟩)) := (ho.old 2 rfl).trans h2; exact (of_load_box (ho.rd 0 _ rfl rfl) a0 (Fld.id _) rfl Try.isAgg25 Try.sizeOf25)) <|
        OblsR.cons (OblR.plain rfl rfl rfl rfl fun A' R' w' ho hd => by have a0 : Rep E_laws_SetIndex A' w' (R' 22) p0 := hd 0 _ _ _ rfl rfl rfl rfl rfl; exact of_call Try.call7 (M_laws_toSetIndex_okR (q6 rfl) ho.av a0)) <|
        OblsR.cons (OblR.plain rfl rfl rfl rfl fun A' R' w' ho hd => by have a0 : R' 1 = .int .i64 p1 := (ho.old 1 rfl).trans h1; exact of_move a0) <|
        OblsR.cons (OblR.plain rfl rfl rfl rfl fun A' R' w' ho hd => by have a0 : Rep E_impl_SetIndex A' w' (R' 23) x5 := hd 0 _ _ _ rfl rfl rfl rfl rfl; have a1 : R' 24 = .int .i64 p1 := hd 1 _ _ _ rfl rfl rfl rfl rfl; exact of_call Try.call6 (M_spec_RemoveSet_ok (q8 rfl) ho.av a0 a1)) <|
        OblsR.cons (OblR.plain rfl rfl rfl rfl fun A' R' w' ho hd => by have a0 : Fact.ok (.tup2 (.rep E_impl_SetIndex A' x7.1) (.raw (.bool x7.2))) (R' 25) w' := hd 0 _ _ _ rfl rfl rfl rfl rfl; exact of_move a0) <|
        OblsR.cons (OblR.plain rfl rfl rfl rfl fun A' R' w' ho hd => by have a0 : Fact.ok (.tup2 (.rep E_impl_SetIndex A' x7.1) (.raw (.bool x7.2))) (R' 21) w' := hd 0 _ _ _ rfl rfl rfl rfl rfl; exact of_extract2_0 a0) <|
        OblsR.cons (OblR.plain rfl rfl rfl rfl fun A' R' w' ho hd => by have a0 : Fact.ok (.tup2 (.rep E_impl_SetIndex A' x7.1) (.raw (.bool x7.2))) (R' 21) w' := hd 0 _ _ _ rfl rfl rfl rfl rfl; exact of_extract2_1 a0) <|
        OblsR.cons (OblR.made _ rfl rfl rfl rfl fun A' R' w' ho hd => by exact made_alloc Try.zeroValue30 (fun A w => rep_pr rep1_int (rep_pr rep1_nil rep1_nil)) (Nat.le_trans hF.size ho.ch.size)) <|
        OblsR.cons (OblR.took 8 _ _ rfl rfl rfl rfl rfl fun A' R' w' ho hd u hok hav hin hop hds => by have a1 : Rep E_impl_SetIndex A' w' (R' 26) x7.1 := hd 1 _ _ _ rfl rfl rfl rfl rfl; obtain ⟨b, hb, hB', hbx⟩ := hok; have hop' := hop _ _ rfl rfl rfl rfl; exact took_store a1 (hop'.symm.trans hb) hb ⟨b, hb, hB', hbx⟩ hav (FldS.id _) Try.sizeOf30 rfl) <|
        OblsR.cons (OblR.plain rfl rfl rfl rfl fun A' R' w' ho hd => by have a0 : R' 27 = .bool x7.2 := hd 0 _ _ _ rfl rfl rfl rfl rfl; exact of_assign a0) <|
        OblsR.nil
    intro done ρ σ A R w hdn hI
    replace h1 : R 1 = .int .i64 p1 := (hI.reg rfl).trans h1
    replace h2 : R 2 = (.pointer (some ⟨b2_0, 0, none⟩)) := (hI.reg rfl).trans h2
    have z9 := hI.inivR 0 rfl
    obtain ⟨b6_9, e_b6_9⟩ := hI.boxv hdn 9 rfl rfl
    have z11 := (hI.opnR hdn 9 8 rfl rfl rfl rfl rfl).symm.trans e_b6_9
    have h6 : R 6 = (.pointer (some ⟨b6_9, 0, none⟩)) := (hI.opvR hdn 8 7 rfl rfl rfl rfl rfl).symm.trans z11
    have h7 : R 7 = .bool x7.2 := hI.fact hdn (i := 9) rfl rfl rfl
    replace hAA := hI.low' hAA hA0 (hO.ge (⟨rfl, trivial⟩))
    replace hF : Fr w0 w := hF.tr hI.ch (hO.ge (⟨rfl, trivial⟩))
    replace hO : IniOK [ob (.pointer (some ⟨b2_0, 0, none⟩)) (.box w0.heap.size 25 E_laws_SetIndex p0), ob (.pointer (some ⟨b6_9, 0, none⟩)) (.box w0.heap.size 30 E_impl_SetIndex x7.1)] A w := hI.left hdn [(0, ob (.pointer (some ⟨b2_0, 0, none⟩)) (.box w0.heap.size 25 E_laws_SetIndex p0)), (9, ob (.pointer (some ⟨b6_9, 0, none⟩)) (.box w0.heap.size 30 E_impl_SetIndex x7.1))] ⟨rfl, rfl, z9, rfl, rfl, ⟨rfl, rfl, e_b6_9, rfl, rfl, trivial⟩⟩
    replace hA := hI.avok
    clear hI
    refine HT.seq ?_
    obtain ⟨x12, q13, hr⟩ := cl_some hr
    refine HT.textR [ob (.pointer (some ⟨b2_0, 0, none⟩)) (.box w0.heap.size 25 E_laws_SetIndex p0), ob (.pointer (some ⟨b6_9, 0, none⟩)) (.box w0.heap.size 30 E_impl_SetIndex x7.1)] (⟨_, true, [], none, true, fun A => .rep E_laws_SetIndex A p0⟩ :: ⟨_, true, [], some (trR (geB w0.heap.size) (oPr (oRd (eInt .i64)) (oPr (oSl 70 (oRd E_impl_TokenCount)) (oSl 55 (oPr (oRd (eInt .i64)) (oSl 9 (oRd eStr)))))) x12 []), true, fun A => .any⟩ :: ⟨_, true, [], some (trR (geB w0.heap.size) (oPt 30 (oPr (oRd (eInt .i64)) (oPr (oSl 70 (oRd E_impl_TokenCount)) (oSl 55 (oPr (oRd (eInt .i64)) (oSl 9 (oRd eStr))))))) ((0 : Int), (([] : List T_impl_TokenCount), ([] : List T_impl_IndexedSet))) []), true, fun A => .any⟩ :: ⟨_, true, [4, 3], some (trR (geB w0.heap.size) (oPt 30 (oPr (oRd (eInt .i64)) (oPr (oSl 70 (oRd E_impl_TokenCount)) (oSl 55 (oPr (oRd (eInt .i64)) (oSl 9 (oRd eStr))))))) x12 []), false, fun A => .any⟩ :: []) (by kernel_rfl) (by kernel_rfl) (Wf.mk' (by kernel_rfl) (UAll.cons ust_rep (UAll.cons ust_any (UAll.cons ust_any (UAll.cons ust_any (UAll.nil))))) (by kernel_rfl) (by kernel_rfl)) hO hA ?_ ?_
    · exact
        OblsR.cons (OblR.plain rfl rfl rfl rfl fun A' R' w' ho hd => by have a0 : R' 2 = (.pointer (some ⟨b2_0, 0, none⟩)) := (ho.old 2 rfl).trans h2; exact (of_load_box (ho.rd 0 _ rfl rfl) a0 (Fld.id _) rfl Try.isAgg25 Try.sizeOf25)) <|
        OblsR.cons (OblR.madeS _ rfl rfl rfl rfl fun A' R' w' ho hd => by have a0 : Rep E_laws_SetIndex A' w' (R' 28) p0 := hd 0 _ _ _ rfl rfl rfl rfl rfl; exact made_callT Try.call7 (M_laws_toSetIndex_ok (q13 rfl) ho.av a0) (fun k hk => Nat.le_trans (Nat.le_trans hF.size ho.ch.size) hk)) <|
        OblsR.cons (OblR.madeS _ rfl rfl rfl rfl fun A' R' w' ho hd => by exact made_allocT Try.zeroValue30 (fun A w => own_pr (own_rd rep1_int) (own_pr own_nil own_nil)) (fun k hk => Nat.le_trans (Nat.le_trans hF.size ho.ch.size) hk)) <|
        OblsR.cons (OblR.tookM 4 [3] _ rfl rfl rfl rfl fun A' R' w' ho hd ρ σ hok hav hin hop hds hdd => by have k1 := hok 4 (.head _) _ rfl; exact took_put2 rfl (tr_root k1.2.2).ptr (hok 3 (.tail _ (.head _)) _ rfl).2.2.1 (hop 3 (.tail _ (.head _)) _ _ rfl rfl rfl rfl).symm (hop 4 (.head _) _ _ rfl rfl rfl rfl).symm hav hdd k1.2.1 (hok 3 (.tail _ (.head _)) _ rfl).2.1 Try.sizeOf30 (fun _ _ _ h => h)) <|
        OblsR.nil
    intro done ρ σ A R w hdn hI
    replace h1 : R 1 = .int .i64 p1 := (hI.reg rfl).trans h1
    replace h2 : R 2 = (.pointer (some ⟨b2_0, 0, none⟩)) := (hI.reg rfl).trans h2
    replace h6 : R 6 = (.pointer (some ⟨b6_9, 0, none⟩)) := (hI.reg rfl).trans h6
    replace h7 : R 7 = .bool x7.2 := (hI.reg rfl).trans h7
    have z14 := hI.inivR 0 rfl
    have z15 := hI.inivR 1 rfl
    obtain ⟨u16, e_u16⟩ : ∃ u, ρ 5 = u := ⟨_, rfl⟩
    have z17 := (hI.opnR hdn 5 3 rfl rfl rfl rfl rfl).symm.trans e_u16
    have h8 : R 8 = u16 := (hI.opvR hdn 4 2 rfl rfl rfl rfl rfl).symm.trans z17
    obtain ⟨S18, eS_u16⟩ : ∃ S, σ 5 = S := ⟨_, rfl⟩
    replace hAA := hI.low' hAA hA0 (hO.ge (⟨rfl, ⟨rfl, trivial⟩⟩))
    replace hF : Fr w0 w := hF.tr hI.ch (hO.ge (⟨rfl, ⟨rfl, trivial⟩⟩))
    replace hO : IniOK [ob (.pointer (some ⟨b2_0, 0, none⟩)) (.box w0.heap.size 25 E_laws_SetIndex p0), ob (.pointer (some ⟨b6_9, 0, none⟩)) (.box w0.heap.size 30 E_impl_SetIndex x7.1), ⟨u16, S18, trR (geB w0.heap.size) (oPt 30 (oPr (oRd (eInt .i64)) (oPr (oSl 70 (oRd E_impl_TokenCount)) (oSl 55 (oPr (oRd (eInt .i64)) (oSl 9 (oRd eStr))))))) x12 []⟩] A w := hI.left hdn [(0, ob (.pointer (some ⟨b2_0, 0, none⟩)) (.box w0.heap.size 25 E_laws_SetIndex p0)), (1, ob (.pointer (some ⟨b6_9, 0, none⟩)) (.box w0.heap.size 30 E_impl_SetIndex x7.1)), (5, ⟨u16, S18, trR (geB w0.heap.size) (oPt 30 (oPr (oRd (eInt .i64)) (oPr (oSl 70 (oRd E_impl_TokenCount)) (oSl 55 (oPr (oRd (eInt .i64)) (oSl 9 (oRd eStr))))))) x12 []⟩)] ⟨rfl, rfl, z14, rfl, rfl, ⟨rfl, rfl, z15, rfl, rfl, ⟨rfl, rfl, e_u16, eS_u16, rfl, trivial⟩⟩⟩
    replace hA := hI.avok
    clear hI
    refine HT.seq ?_
    refine SG.of ?_
    refine SG.op 31 rfl rfl rfl rfl (of_loadA0 (A0 := A0) (hO.own 2 _ rfl).2 h8 hAA (fun k o hk ha => Nat.not_lt.2 ((hO.own 2 _ rfl).1 k hk) (hA0 k o ha)) Try.isAgg30 Try.sizeOf30) ?_
    rintro u19 w1 ⟨hw_, f_u19⟩ R hs hd
    obtain rfl : w = w1 := hw_.symm
    have hst : Stp A A w w := (Fr.refl w).stp A
    replace h1 : R 1 = .int .i64 p1 := (hs 1 rfl).trans h1
    replace h2 : R 2 = (.pointer (some ⟨b2_0, 0, none⟩)) := (hs 2 rfl).trans h2
    replace h6 : R 6 = (.pointer (some ⟨b6_9, 0, none⟩)) := (hs 6 rfl).trans h6
    replace h7 : R 7 = .bool x7.2 := (hs 7 rfl).trans h7
    replace h8 : R 8 = u16 := (hs 8 rfl).trans h8
    have h31 : R 31 = u19 := hd
    clear hs hd hst
    refine SG.op 32 rfl rfl rfl rfl (of_move (f := .raw (.int .i64 p1)) (h1 : evalR R (.tmp 1) = _)) ?_
    rintro v_ w ⟨hv_, hfr⟩ R hs hd
    have hst := hfr.stp A
    replace hF : Fr w0 w := hF.trans hfr
    replace hA := hA.fr hfr.size
    replace hO := hO.fr hfr
    replace h1 : R 1 = .int .i64 p1 := (hs 1 rfl).trans h1
    replace h2 : R 2 = (.pointer (some ⟨b2_0, 0, none⟩)) := (hs 2 rfl).trans h2
    replace h6 : R 6 = (.pointer (some ⟨b6_9, 0, none⟩)) := (hs 6 rfl).trans h6
    replace h7 : R 7 = .bool x7.2 := (hs 7 rfl).trans h7
    replace h8 : R 8 = u16 := (hs 8 rfl).trans h8
    replace h31 : R 31 = u19 := (hs 31 rfl).trans h31
    replace f_u19 := f_u19.fr hfr
    have h32 : R 32 = .int .i64 p1 := hd.trans hv_
    clear hs hd hst hfr hv_
    obtain ⟨x20, q21, hr⟩ := cl_some hr
    have hFz : w0.heap.size ≤ w.heap.size := hF.size
    refine SG.op 33 rfl rfl rfl rfl (call_run Try.call8 (M_impl_RemoveSet_ok (q21 rfl) (hA00.fr hF.size) (f_u19.eq h31) h32)) ?_
    rintro v_ w ⟨u22, S23, A1, hG1, hv⟩ R hs hd
    obtain ⟨A, hA2, hO2, hst, hA3⟩ := GPost.next0P hO hA hG1 ⟨obpure_tr (pure_pr (pure_rd (fun _ _ _ _ _ h => h)) (pure_pr (pure_sl (pure_rd (fun _ _ _ _ _ h => h))) (pure_sl (pure_pr (pure_rd (fun _ _ _ _ _ h => h)) (pure_sl (pure_rd (fun _ _ _ _ _ h => h))))))), trivial⟩
    replace hO := hO2
    replace hA := hA3
    replace hAA : ∀ b o, A0 b o → A b o := fun b o h => hA2 b o (hAA b o h)
    replace hF : Fr w0 w := hF.trans hG1.ch.no
    replace hO := hO.reK (K' := geB w0.heap.size) 0 rfl (fun k hk => Nat.le_trans hFz hk)
    replace hO : IniOK [⟨u22, S23, trR (geB w0.heap.size) (oPr (oRd (eInt .i64)) (oPr (oSl 70 (oRd E_impl_TokenCount)) (oSl 55 (oPr (oRd (eInt .i64)) (oSl 9 (oRd eStr)))))) x20.1 []⟩, ob (.pointer (some ⟨b2_0, 0, none⟩)) (.box w0.heap.size 25 E_laws_SetIndex p0), ob (.pointer (some ⟨b6_9, 0, none⟩)) (.box w0.heap.size 30 E_impl_SetIndex x7.1), ⟨u16, S18, trR (geB w0.heap.size) (oPt 30 (oPr (oRd (eInt .i64)) (oPr (oSl 70 (oRd E_impl_TokenCount)) (oSl 55 (oPr (oRd (eInt .i64)) (oSl 9 (oRd eStr))))))) x12 []⟩] A w := hO
    replace h1 : R 1 = .int .i64 p1 := (hs 1 rfl).trans h1
    replace h2 : R 2 = (.pointer (some ⟨b2_0, 0, none⟩)) := (hs 2 rfl).trans h2
    replace h6 : R 6 = (.pointer (some ⟨b6_9, 0, none⟩)) := (hs 6 rfl).trans h6
    replace h7 : R 7 = .bool x7.2 := (hs 7 rfl).trans h7
    replace h8 : R 8 = u16 := (hs 8 rfl).trans h8
    replace h32 : R 32 = .int .i64 p1 := (hs 32 rfl).trans h32
    have h33 : Fact.ok (.tup2 (.raw u22) (.raw (.bool x20.2))) (R 33) w := hd ▸ hv
    clear hFz hG1 hv hs hd
    refine SG.textR [⟨u22, S23, trR (geB w0.heap.size) (oPr (oRd (eInt .i64)) (oPr (oSl 70 (oRd E_impl_TokenCount)) (oSl 55 (oPr (oRd (eInt .i64)) (oSl 9 (oRd eStr)))))) x20.1 []⟩, ob (.pointer (some ⟨b2_0, 0, none⟩)) (.box w0.heap.size 25 E_laws_SetIndex p0), ob (.pointer (some ⟨b6_9, 0, none⟩)) (.box w0.heap.size 30 E_impl_SetIndex x7.1), ⟨u16, S18, trR (geB w0.heap.size) (oPt 30 (oPr (oRd (eInt .i64)) (oPr (oSl 70 (oRd E_impl_TokenCount)) (oSl 55 (oPr (oRd (eInt .i64)) (oSl 9 (oRd eStr))))))) x12 []⟩] (⟨_, true, [], none, true, fun A => .any⟩ :: ⟨_, true, [], none, true, fun A => .raw (.int .i64 p1)⟩ :: ⟨_, true, [], none, true, fun A => .tup2 (.raw u22) (.raw (.bool x20.2))⟩ :: ⟨_, true, [], none, true, fun A => .tup2 (.raw u22) (.raw (.bool x20.2))⟩ :: ⟨_, true, [], none, true, fun A => .raw u22⟩ :: ⟨_, true, [], none, true, fun A => .raw (.bool x20.2)⟩ :: ⟨_, true, [], some (trR (geB w0.heap.size) (oPt 30 (oPr (oRd (eInt .i64)) (oPr (oSl 70 (oRd E_impl_TokenCount)) (oSl 55 (oPr (oRd (eInt .i64)) (oSl 9 (oRd eStr))))))) ((0 : Int), (([] : List T_impl_TokenCount), ([] : List T_impl_IndexedSet))) []), true, fun A => .any⟩ :: ⟨_, true, [10, 0], some (trR (geB w0.heap.size) (oPt 30 (oPr (oRd (eInt .i64)) (oPr (oSl 70 (oRd E_impl_TokenCount)) (oSl 55 (oPr (oRd (eInt .i64)) (oSl 9 (oRd eStr))))))) x20.1 []), false, fun A => .any⟩ :: ⟨_, true, [], none, true, fun A => .raw (.bool x20.2)⟩ :: []) 9 rfl rfl rfl (by kernel_rfl) (by kernel_rfl) (Wf.mk' (by kernel_rfl) (UAll.cons ust_any (UAll.cons ust_raw (UAll.cons (ust_tup2 ust_raw ust_raw) (UAll.cons (ust_tup2 ust_raw ust_raw) (UAll.cons ust_raw (UAll.cons ust_raw (UAll.cons ust_any (UAll.cons ust_any (UAll.cons ust_raw (UAll.nil)))))))))) (by kernel_rfl) (by kernel_rfl)) hO hA (⟨⟨rfl, rfl, rfl, trivial⟩, ⟨⟨rfl, rfl, rfl, h32⟩, ⟨⟨rfl, rfl, rfl, h33⟩, trivial⟩⟩⟩) ?_ ?_
    · exact
        OblsR.cons (OblR.plain rfl rfl rfl rfl fun A' R' w' ho hd => by have a0 : Fact.ok (.tup2 (.raw u22) (.raw (.bool x20.2))) (R' 33) w' := hd 0 _ _ _ rfl rfl rfl rfl rfl; exact of_move a0) <|
        OblsR.cons (OblR.plain rfl rfl rfl rfl fun A' R' w' ho hd => by have a0 : Fact.ok (.tup2 (.raw u22) (.raw (.bool x20.2))) (R' 30) w' := hd 0 _ _ _ rfl rfl rfl rfl rfl; exact of_extract2_0 a0) <|
        OblsR.cons (OblR.plain rfl rfl rfl rfl fun A' R' w' ho hd => by have a0 : Fact.ok (.tup2 (.raw u22) (.raw (.bool x20.2))) (R' 30) w' := hd 0 _ _ _ rfl rfl rfl rfl rfl; exact of_extract2_1 a0) <|
        OblsR.cons (OblR.madeS _ rfl rfl rfl rfl fun A' R' w' ho hd => by exact made_allocT Try.zeroValue30 (fun A w => own_pr (own_rd rep1_int) (own_pr own_nil own_nil)) (fun k hk => Nat.le_trans (Nat.le_trans hF.size ho.ch.size) hk)) <|
        OblsR.cons (OblR.tookM 10 [0] _ rfl rfl rfl rfl fun A' R' w' ho hd ρ σ hok hav hin hop hds hdd => by have a1 : R' 34 = u22 := hd 1 _ _ _ rfl rfl rfl rfl rfl; have k1 := hok 10 (.head _) _ rfl; exact took_put2 rfl (tr_root k1.2.2).ptr (hok 0 (.tail _ (.head _)) _ rfl).2.2.1 (a1.trans (hin 0 (.tail _ (.head _)) _ rfl).1.symm) (hop 10 (.head _) _ _ rfl rfl rfl rfl).symm hav hdd k1.2.1 (hok 0 (.tail _ (.head _)) _ rfl).2.1 Try.sizeOf30 (fun _ _ _ h => h)) <|
        OblsR.cons (OblR.plain rfl rfl rfl rfl fun A' R' w' ho hd => by have a0 : R' 35 = .bool x20.2 := hd 0 _ _ _ rfl rfl rfl rfl rfl; exact of_assign a0) <|
        OblsR.nil
    intro done ρ σ A R w hdn hI
    replace h1 : R 1 = .int .i64 p1 := (hI.reg rfl).trans h1
    replace h2 : R 2 = (.pointer (some ⟨b2_0, 0, none⟩)) := (hI.reg rfl).trans h2
    replace h6 : R 6 = (.pointer (some ⟨b6_9, 0, none⟩)) := (hI.reg rfl).trans h6
    replace h7 : R 7 = .bool x7.2 := (hI.reg rfl).trans h7
    replace h8 : R 8 = u16 := (hI.reg rfl).trans h8
    have z24 := hI.inivR 1 rfl
    have z25 := hI.inivR 2 rfl
    have z26 := hI.inivR 3 rfl
    obtain ⟨u27, e_u27⟩ : ∃ u, ρ 11 = u := ⟨_, rfl⟩
    have z28 := (hI.opnR hdn 11 7 rfl rfl rfl rfl rfl).symm.trans e_u27
    have h9 : R 9 = u27 := (hI.opvR hdn 10 6 rfl rfl rfl rfl rfl).symm.trans z28
    have eS_u16 := hI.inisR 3 rfl
    obtain ⟨S29, eS_u27⟩ : ∃ S, σ 11 = S := ⟨_, rfl⟩
    have h10 : R 10 = .bool x20.2 := hI.fact hdn (i := 8) rfl rfl rfl
    replace hAA := hI.low' hAA hA0 (hO.ge (⟨fun _ h => h, ⟨rfl, ⟨rfl, ⟨fun _ h => h, trivial⟩⟩⟩⟩))
    replace hF : Fr w0 w := hF.tr hI.ch (hO.ge (⟨fun _ h => h, ⟨rfl, ⟨rfl, ⟨fun _ h => h, trivial⟩⟩⟩⟩))
    replace hO : IniOK [ob (.pointer (some ⟨b2_0, 0, none⟩)) (.box w0.heap.size 25 E_laws_SetIndex p0), ob (.pointer (some ⟨b6_9, 0, none⟩)) (.box w0.heap.size 30 E_impl_SetIndex x7.1), ⟨u16, S18, trR (geB w0.heap.size) (oPt 30 (oPr (oRd (eInt .i64)) (oPr (oSl 70 (oRd E_impl_TokenCount)) (oSl 55 (oPr (oRd (eInt .i64)) (oSl 9 (oRd eStr))))))) x12 []⟩, ⟨u27, S29, trR (geB w0.heap.size) (oPt 30 (oPr (oRd (eInt .i64)) (oPr (oSl 70 (oRd E_impl_TokenCount)) (oSl 55 (oPr (oRd (eInt .i64)) (oSl 9 (oRd eStr))))))) x20.1 []⟩] A w := hI.left hdn [(1, ob (.pointer (some ⟨b2_0, 0, none⟩)) (.box w0.heap.size 25 E_laws_SetIndex p0)), (2, ob (.pointer (some ⟨b6_9, 0, none⟩)) (.box w0.heap.size 30 E_impl_SetIndex x7.1)), (3, ⟨u16, S18, trR (geB w0.heap.size) (oPt 30 (oPr (oRd (eInt .i64)) (oPr (oSl 70 (oRd E_impl_TokenCount)) (oSl 55 (oPr (oRd (eInt .i64)) (oSl 9 (oRd eStr))))))) x12 []⟩), (11, ⟨u27, S29, trR (geB w0.heap.size) (oPt 30 (oPr (oRd (eInt .i64)) (oPr (oSl 70 (oRd E_impl_TokenCount)) (oSl 55 (oPr (oRd (eInt .i64)) (oSl 9 (oRd eStr))))))) x20.1 []⟩)] ⟨rfl, rfl, z24, rfl, rfl, ⟨rfl, rfl, z25, rfl, rfl, ⟨rfl, rfl, z26, eS_u16, rfl, ⟨rfl, rfl, e_u27, eS_u27, rfl, trivial⟩⟩⟩⟩
    replace hA := hI.avok
    clear hI
    refine SG.fin rfl ?_
    refine HT.seq ?_
    refine HT.seq ?_
    obtain ⟨h30, l_h30, p_h30⟩ := ((tr_root (hO.own 3 _ rfl).2).ptr).open
    replace hO : IniOK [ob (.pointer (some ⟨b2_0, 0, none⟩)) (.box w0.heap.size 25 E_laws_SetIndex p0), ob (.pointer (some ⟨b6_9, 0, none⟩)) (.box w0.heap.size 30 E_impl_SetIndex x7.1), ⟨u16, S18, trR (geB w0.heap.size) (oPt 30 (oPr (oRd (eInt .i64)) (oPr (oSl 70 (oRd E_impl_TokenCount)) (oSl 55 (oPr (oRd (eInt .i64)) (oSl 9 (oRd eStr))))))) x12 []⟩, ⟨u27, S29, trR (geB w0.heap.size) (oPt 30 (oPr (oRd (eInt .i64)) (oPr (oSl 70 (oRd E_impl_TokenCount)) (oSl 55 (oPr (oRd (eInt .i64)) (oSl 9 (oRd eStr))))))) x20.1 [(u27, h30)]⟩] A w := hO.repin 3 rfl (trP.pin p_h30)
    obtain ⟨x32, q33, hr⟩ := cl_some hr
    obtain ⟨x34, q35, hr⟩ := bd_some hr
    refine HT.text (l := ⟨_, true, .raw (Enc.val E_impl_SetIndex h30)⟩ :: ⟨_, true, .rep E_impl_SetIndex A x7.1⟩ :: ⟨_, true, .raw (.bool x32)⟩ :: ⟨_, true, .raw (.bool (!x32))⟩ :: ⟨_, true, .raw (.bool (!x32))⟩ :: ⟨_, (true && ((!x32) == false)), .raw (.bool x20.2)⟩ :: ⟨_, (true && ((!x32) == false)), .raw (.bool x7.2)⟩ :: ⟨_, (true && ((!x32) == false)), .raw (.bool (x20.2 != x7.2))⟩ :: ⟨_, true, .raw (.bool x34)⟩ :: []) (tl := []) (by kernel_rfl) (by kernel_rfl) (by kernel_rfl) ?_ ?_
    · exact
        Obls.cons (Obl.plain rfl rfl fun R' w' hw hs hd => by have a0 : R' 9 = u27 := (hs 9 rfl).trans h9; exact of_load_pinS (F := oPr (oRd (eInt .i64)) (oPr (oSl 70 (oRd E_impl_TokenCount)) (oSl 55 (oPr (oRd (eInt .i64)) (oSl 9 (oRd eStr)))))) (((hO.fr hw).own 3 _ rfl).2.2 _ (.head _)) l_h30 a0 Try.isAgg30 Try.sizeOf30) <|
        Obls.cons (Obl.plain rfl rfl fun R' w' hw hs hd => by have a0 : R' 6 = (.pointer (some ⟨b6_9, 0, none⟩)) := (hs 6 rfl).trans h6; exact (of_load_box ((hO.fr hw).ok 1 _ rfl).1 a0 (Fld.id _) rfl Try.isAgg30 Try.sizeOf30)) <|
        Obls.cons (Obl.plain rfl rfl fun R' w' hw hs hd => by have a0 : R' 36 = (Enc.val E_impl_SetIndex h30) := hd 0 _ _ _ rfl rfl rfl rfl rfl; have ra0 : Rep E_impl_SetIndex A0 w' (R' 36) _ := (vh_rep (((tr_root ((hO.fr hw).own 3 _ rfl).2).ptr).pinS (((hO.fr hw).own 3 _ rfl).2.2 _ (.head _)) l_h30) hAA (fun k o hk ha => Nat.not_lt.2 (((hO.fr hw).own 3 _ rfl).1 k hk) (hA0 k o ha))).eq a0; have a1 : Rep E_impl_SetIndex A w' (R' 37) x7.1 := hd 1 _ _ _ rfl rfl rfl rfl rfl; exact of_call Try.call9 (M_laws_eqSetIndex_ok (q33 rfl) (hA00.fr ((Nat.le_trans hF.size hw.size))) ra0 (a1.down hAA))) <|
        Obls.cons (Obl.plain rfl rfl fun R' w' hw hs hd => by have a0 : R' 38 = .bool x32 := hd 0 _ _ _ rfl rfl rfl rfl rfl; exact of_not a0) <|
        Obls.cons (Obl.plain rfl rfl fun R' w' hw hs hd => by have a0 : R' 39 = .bool (!x32) := hd 0 _ _ _ rfl rfl rfl rfl rfl; exact of_move a0) <|
        Obls.cons (Obl.grd 4 false _ _ _ rfl rfl rfl rfl rfl (by kernel_rfl) fun hg R' w' hw hs hd => by have a0 : R' 10 = .bool x20.2 := (hs 10 rfl).trans h10; exact of_move a0) <|
        Obls.cons (Obl.grd 4 false _ _ _ rfl rfl rfl rfl rfl (by kernel_rfl) fun hg R' w' hw hs hd => by have a0 : R' 7 = .bool x7.2 := (hs 7 rfl).trans h7; exact of_move a0) <|
        Obls.cons (Obl.grd 4 false _ _ _ rfl rfl rfl rfl rfl (by kernel_rfl) fun hg R' w' hw hs hd => by have a0 : R' 41 = .bool x20.2 := hd 0 _ _ _ rfl rfl rfl rfl hg; have a1 : R' 42 = .bool x7.2 := hd 1 _ _ _ rfl rfl rfl rfl hg; exact of_bneq Try.underlying4 a0 a1) <|
        Obls.cons (Obl.plain rfl rfl fun R' w' hw hs hd => by have a0 : R' 40 = .bool (!x32) := hd 0 _ _ _ rfl rfl rfl rfl rfl; exact of_pick (!x32) a0 (fun hc => by show _ = Value.bool x34; rw [q35, hc]; exact rfl) (fun hc => by have a2 : R' 43 = .bool (x20.2 != x7.2) := hd 1 _ _ _ rfl rfl rfl rfl (g_and rfl (beq_of hc)); show _ = Value.bool x34; rw [q35, hc]; exact a2)) <|
        Obls.nil
    intro R w hw hs hF'
    replace h1 : R 1 = .int .i64 p1 := (hs 1 rfl).trans h1
    replace h2 : R 2 = (.pointer (some ⟨b2_0, 0, none⟩)) := (hs 2 rfl).trans h2
    replace h6 : R 6 = (.pointer (some ⟨b6_9, 0, none⟩)) := (hs 6 rfl).trans h6
    replace h7 : R 7 = .bool x7.2 := (hs 7 rfl).trans h7
    replace h8 : R 8 = u16 := (hs 8 rfl).trans h8
    replace h9 : R 9 = u27 := (hs 9 rfl).trans h9
    replace h10 : R 10 = .bool x20.2 := (hs 10 rfl).trans h10
    have h44 : R 44 = .bool x34 := hF' 8 _ _ rfl rfl rfl
    replace hO := hO.fr hw
    replace hA := hA.fr hw.size
    replace hF := hF.trans hw
    clear hs hF' hw
    refine seqR_nil ?_
    replace hO : IniOK [ob (.pointer (some ⟨b2_0, 0, none⟩)) (.box w0.heap.size 25 E_laws_SetIndex p0), ob (.pointer (some ⟨b6_9, 0, none⟩)) (.box w0.heap.size 30 E_impl_SetIndex x7.1), ⟨u16, S18, trR (geB w0.heap.size) (oPt 30 (oPr (oRd (eInt .i64)) (oPr (oSl 70 (oRd E_impl_TokenCount)) (oSl 55 (oPr (oRd (eInt .i64)) (oSl 9 (oRd eStr))))))) x12 []⟩, ⟨u27, S29, trR (geB w0.heap.size) (oPt 30 (oPr (oRd (eInt .i64)) (oPr (oSl 70 (oRd E_impl_TokenCount)) (oSl 55 (oPr (oRd (eInt .i64)) (oSl 9 (oRd eStr))))))) x20.1 []⟩] A w := hO.repin 3 rfl trP.nopin
    refine HT.cond x34 h44 (fun c36 => ?_) (fun c36 => ?_)
    · have hr := cnd_t c36 hr
      refine HT.seq ?_
      refine HT.text (l := ⟨_, true, .raw (.bool false)⟩ :: []) (tl := []) (by kernel_rfl) (by kernel_rfl) (by kernel_rfl) ?_ ?_
      · exact
          Obls.cons (Obl.plain rfl rfl fun R' w' hw hs hd => by exact of_assign rfl) <|
          Obls.nil
      intro R w hw hs hF'
      have h4 : R 4 = .bool false := hF' 0 _ _ rfl rfl rfl
      replace hO := hO.fr hw
      replace hO : IniOK [] A w := hO.sub [] trivial
      replace hA := hA.fr hw.size
      replace hF := hF.trans hw
      clear hs hF' hw
      refine seqR_nil ?_
      refine HT.ret ?_
      obtain rfl := Option.some.inj hr
      exact ⟨.inr rfl, [R 4], ⟨rfl, trivial⟩, h4, hF⟩
    · have hr := cnd_f c36 hr
      refine HT.skip ?_
      refine HT.seq ?_
      refine HT.seq ?_
      obtain ⟨h37, l_h37, p_h37⟩ := ((tr_root (hO.own 2 _ rfl).2).ptr).open
      replace hO : IniOK [ob (.pointer (some ⟨b2_0, 0, none⟩)) (.box w0.heap.size 25 E_laws_SetIndex p0), ob (.pointer (some ⟨b6_9, 0, none⟩)) (.box w0.heap.size 30 E_impl_SetIndex x7.1), ⟨u16, S18, trR (geB w0.heap.size) (oPt 30 (oPr (oRd (eInt .i64)) (oPr (oSl 70 (oRd E_impl_TokenCount)) (oSl 55 (oPr (oRd (eInt .i64)) (oSl 9 (oRd eStr))))))) x12 [(u16, h37)]⟩, ⟨u27, S29, trR (geB w0.heap.size) (oPt 30 (oPr (oRd (eInt .i64)) (oPr (oSl 70 (oRd E_impl_TokenCount)) (oSl 55 (oPr (oRd (eInt .i64)) (oSl 9 (oRd eStr))))))) x20.1 []⟩] A w := hO.repin 2 rfl (trP.pin p_h37)
      obtain ⟨x39, q40, hr⟩ := cl_some hr
      obtain ⟨x41, q42, hr⟩ := cl_some hr
      refine HT.draw (by kernel_rfl) (l := ⟨_, true, .raw (Enc.val E_impl_SetIndex h37)⟩ :: ⟨_, true, .rep E_laws_SetIndex A p0⟩ :: ⟨_, true, .rep E_impl_SetIndex A x39⟩ :: ⟨_, true, .raw (.bool x41)⟩ :: ⟨_, true, .raw (.bool (!x41))⟩ :: []) (tl := []) (by kernel_rfl) (by kernel_rfl) (by kernel_rfl) (by kernel_rfl) ?_ ?_
      · exact
          Obls.cons (Obl.plain rfl rfl fun R' w' hw hs hd => by have a0 : R' 8 = u16 := (hs 8 rfl).trans h8; exact of_load_pinS (F := oPr (oRd (eInt .i64)) (oPr (oSl 70 (oRd E_impl_TokenCount)) (oSl 55 (oPr (oRd (eInt .i64)) (oSl 9 (oRd eStr)))))) (((hO.fr hw).own 2 _ rfl).2.2 _ (.head _)) l_h37 a0 Try.isAgg30 Try.sizeOf30) <|
          Obls.cons (Obl.plain rfl rfl fun R' w' hw hs hd => by have a0 : R' 2 = (.pointer (some ⟨b2_0, 0, none⟩)) := (hs 2 rfl).trans h2; exact (of_load_box ((hO.fr hw).ok 0 _ rfl).1 a0 (Fld.id _) rfl Try.isAgg25 Try.sizeOf25)) <|
          Obls.cons (Obl.plain rfl rfl fun R' w' hw hs hd => by have a0 : Rep E_laws_SetIndex A w' (R' 46) p0 := hd 0 _ _ _ rfl rfl rfl rfl rfl; exact of_call Try.call7 (M_laws_toSetIndex_okR (q40 rfl) (hA.fr hw.size) a0)) <|
          Obls.cons (Obl.plain rfl rfl fun R' w' hw hs hd => by have a0 : R' 45 = (Enc.val E_impl_SetIndex h37) := hd 0 _ _ _ rfl rfl rfl rfl rfl; have ra0 : Rep E_impl_SetIndex A0 w' (R' 45) _ := (vh_rep (((tr_root ((hO.fr hw).own 2 _ rfl).2).ptr).pinS (((hO.fr hw).own 2 _ rfl).2.2 _ (.head _)) l_h37) hAA (fun k o hk ha => Nat.not_lt.2 (((hO.fr hw).own 2 _ rfl).1 k hk) (hA0 k o ha))).eq a0; have a1 : Rep E_impl_SetIndex A w' (R' 47) x39 := hd 1 _ _ _ rfl rfl rfl rfl rfl; exact of_call Try.call9 (M_laws_eqSetIndex_ok (q42 rfl) (hA00.fr ((Nat.le_trans hF.size hw.size))) ra0 (a1.down hAA))) <|
          Obls.cons (Obl.plain rfl rfl fun R' w' hw hs hd => by have a0 : R' 48 = .bool x41 := hd 0 _ _ _ rfl rfl rfl rfl rfl; exact of_not a0) <|
          Obls.nil
      intro R w hw hs hF'
      replace h1 : R 1 = .int .i64 p1 := (hs 1 rfl).trans h1
      replace h2 : R 2 = (.pointer (some ⟨b2_0, 0, none⟩)) := (hs 2 rfl).trans h2
      replace h6 : R 6 = (.pointer (some ⟨b6_9, 0, none⟩)) := (hs 6 rfl).trans h6
      replace h7 : R 7 = .bool x7.2 := (hs 7 rfl).trans h7
      replace h8 : R 8 = u16 := (hs 8 rfl).trans h8
      replace h9 : R 9 = u27 := (hs 9 rfl).trans h9
      replace h10 : R 10 = .bool x20.2 := (hs 10 rfl).trans h10
      have h49 : R 49 = .bool (!x41) := hF' 4 _ _ rfl rfl rfl
      replace hO := hO.fr hw
      replace hA := hA.fr hw.size
      replace hF := hF.trans hw
      clear hs hF' hw
      refine seqR_nil ?_
      replace hO : IniOK [ob (.pointer (some ⟨b2_0, 0, none⟩)) (.box w0.heap.size 25 E_laws_SetIndex p0), ob (.pointer (some ⟨b6_9, 0, none⟩)) (.box w0.heap.size 30 E_impl_SetIndex x7.1), ⟨u16, S18, trR (geB w0.heap.size) (oPt 30 (oPr (oRd (eInt .i64)) (oPr (oSl 70 (oRd E_impl_TokenCount)) (oSl 55 (oPr (oRd (eInt .i64)) (oSl 9 (oRd eStr))))))) x12 []⟩, ⟨u27, S29, trR (geB w0.heap.size) (oPt 30 (oPr (oRd (eInt .i64)) (oPr (oSl 70 (oRd E_impl_TokenCount)) (oSl 55 (oPr (oRd (eInt .i64)) (oSl 9 (oRd eStr))))))) x20.1 []⟩] A w := hO.repin 2 rfl trP.nopin
      refine HT.cond (!x41) h49 (fun c43 => ?_) (fun c43 => ?_)
      · have hr := cnd_t c43 hr
        refine HT.seq ?_
        refine HT.text (l := ⟨_, true, .raw (.bool false)⟩ :: []) (tl := []) (by kernel_rfl) (by kernel_rfl) (by kernel_rfl) ?_ ?_
        · exact
            Obls.cons (Obl.plain rfl rfl fun R' w' hw hs hd => by exact of_assign rfl) <|
            Obls.nil
        intro R w hw hs hF'
        have h4 : R 4 = .bool false := hF' 0 _ _ rfl rfl rfl
        replace hO := hO.fr hw
        replace hO : IniOK [] A w := hO.sub [] trivial
        replace hA := hA.fr hw.size
        replace hF := hF.trans hw
        clear hs hF' hw
        refine seqR_nil ?_
        refine HT.ret ?_
        obtain rfl := Option.some.inj hr
        exact ⟨.inr rfl, [R 4], ⟨rfl, trivial⟩, h4, hF⟩
      · have hr := cnd_f c43 hr
        refine HT.skip ?_
        refine HT.seq ?_
        refine HT.text (l := ⟨_, true, .raw (.int .i64 (1 : Int))⟩ :: []) (tl := []) (by kernel_rfl) (by kernel_rfl) (by kernel_rfl) ?_ ?_
        · exact
            Obls.cons (Obl.plain rfl rfl fun R' w' hw hs hd => by exact of_assign rfl) <|
            Obls.nil
        intro R w hw hs hF'
        replace h1 : R 1 = .int .i64 p1 := (hs 1 rfl).trans h1
        replace h2 : R 2 = (.pointer (some ⟨b2_0, 0, none⟩)) := (hs 2 rfl).trans h2
        replace h6 : R 6 = (.pointer (some ⟨b6_9, 0, none⟩)) := (hs 6 rfl).trans h6
        replace h7 : R 7 = .bool x7.2 := (hs 7 rfl).trans h7
        replace h8 : R 8 = u16 := (hs 8 rfl).trans h8
        replace h9 : R 9 = u27 := (hs 9 rfl).trans h9
        replace h10 : R 10 = .bool x20.2 := (hs 10 rfl).trans h10
        have h11 : R 11 = .int .i64 (1 : Int) := hF' 0 _ _ rfl rfl rfl
        replace hO := hO.fr hw
        replace hA := hA.fr hw.size
        replace hF := hF.trans hw
        clear hs hF' hw
        refine seqR_nil ?_
        refine HT.seq ?_
        obtain ⟨h44, l_h44, p_h44⟩ := ((tr_root (hO.own 2 _ rfl).2).ptr).open
        replace hO : IniOK [ob (.pointer (some ⟨b2_0, 0, none⟩)) (.box w0.heap.size 25 E_laws_SetIndex p0), ob (.pointer (some ⟨b6_9, 0, none⟩)) (.box w0.heap.size 30 E_impl_SetIndex x7.1), ⟨u16, S18, trR (geB w0.heap.size) (oPt 30 (oPr (oRd (eInt .i64)) (oPr (oSl 70 (oRd E_impl_TokenCount)) (oSl 55 (oPr (oRd (eInt .i64)) (oSl 9 (oRd eStr))))))) x12 [(u16, h44)]⟩, ⟨u27, S29, trR (geB w0.heap.size) (oPt 30 (oPr (oRd (eInt .i64)) (oPr (oSl 70 (oRd E_impl_TokenCount)) (oSl 55 (oPr (oRd (eInt .i64)) (oSl 9 (oRd eStr))))))) x20.1 []⟩] A w := hO.repin 2 rfl (trP.pin p_h44)
        obtain ⟨x46, q47, hr⟩ := cl_some hr
        refine HT.textR [ob (.pointer (some ⟨b2_0, 0, none⟩)) (.box w0.heap.size 25 E_laws_SetIndex p0), ob (.pointer (some ⟨b6_9, 0, none⟩)) (.box w0.heap.size 30 E_impl_SetIndex x7.1), ⟨u16, S18, trR (geB w0.heap.size) (oPt 30 (oPr (oRd (eInt .i64)) (oPr (oSl 70 (oRd E_impl_TokenCount)) (oSl 55 (oPr (oRd (eInt .i64)) (oSl 9 (oRd eStr))))))) x12 [(u16, h44)]⟩, ⟨u27, S29, trR (geB w0.heap.size) (oPt 30 (oPr (oRd (eInt .i64)) (oPr (oSl 70 (oRd E_impl_TokenCount)) (oSl 55 (oPr (oRd (eInt .i64)) (oSl 9 (oRd eStr))))))) x20.1 []⟩] (⟨_, true, [], none, true, fun A => .raw (Enc.val E_impl_SetIndex h44)⟩ :: ⟨_, true, [], none, true, fun A => .raw (.int .i64 (1 : Int))⟩ :: ⟨_, true, [2], some (trR (geB w0.heap.size) (oPt 30 (oPr (oRd (eInt .i64)) (oPr (oSl 70 (oRd E_impl_TokenCount)) (oSl 55 (oPr (oRd (eInt .i64)) (oSl 9 (oRd eStr))))))) x46.2 []), false, fun A => .raw (.int .i64 x46.1)⟩ :: ⟨_, true, [], none, true, fun A => .raw (.int .i64 x46.1)⟩ :: []) (by kernel_rfl) (by kernel_rfl) (Wf.mk' (by kernel_rfl) (UAll.cons ust_raw (UAll.cons ust_raw (UAll.cons ust_raw (UAll.cons ust_raw (UAll.nil))))) (by kernel_rfl) (by kernel_rfl)) hO hA ?_ ?_
        · exact
            OblsR.cons (OblR.plain rfl rfl rfl rfl fun A' R' w' ho hd => by have a0 : R' 8 = u16 := (ho.old 8 rfl).trans h8; exact of_load_pinS (F := oPr (oRd (eInt .i64)) (oPr (oSl 70 (oRd E_impl_TokenCount)) (oSl 55 (oPr (oRd (eInt .i64)) (oSl 9 (oRd eStr)))))) ((ho.rdo 2 _ rfl rfl).2.2 _ (.head _)) l_h44 a0 Try.isAgg30 Try.sizeOf30) <|
            OblsR.cons (OblR.plain rfl rfl rfl rfl fun A' R' w' ho hd => by have a0 : R' 11 = .int .i64 (1 : Int) := (ho.old 11 rfl).trans h11; exact of_move a0) <|
            OblsR.cons (OblR.tookS 2 _ _ rfl rfl rfl rfl rfl fun A' R' w' ho hd u S hok hown hav hin hop hds => by have a0 : R' 50 = (Enc.val E_impl_SetIndex h44) := hd 0 _ _ _ rfl rfl rfl rfl rfl; have a1 : R' 51 = .int .i64 (1 : Int) := hd 1 _ _ _ rfl rfl rfl rfl rfl; have e0 := (hin _ rfl).1; rw [e0] at hown ⊢; have hu0 : evalR R' (.tmp 50) = (Enc.val E_impl_SetIndex h44) := a0; exact took_callT Try.call10 (((tr_root hown.2).ptr).pinS (hown.2.2 _ (.head _)) l_h44) hav hown.1 (fun k hk => Nat.le_trans (Nat.le_trans hF.size ho.ch.size) hk) (fun k hk => SP.lt _ hown.2 hk) (fun S1 hS1 hP => by simp only [List.map, hu0]; exact M_laws_markSetIndex_ok (q47 rfl) (ho.av.subS _) (fun b o h => h.2) hP a1) (fun _ _ _ h => h)) <|
            OblsR.cons (OblR.plain rfl rfl rfl rfl fun A' R' w' ho hd => by have a0 : R' 52 = .int .i64 x46.1 := hd 0 _ _ _ rfl rfl rfl rfl rfl; exact of_assign a0) <|
            OblsR.nil
        intro done ρ σ A R w hdn hI
        replace h1 : R 1 = .int .i64 p1 := (hI.reg rfl).trans h1
        replace h2 : R 2 = (.pointer (some ⟨b2_0, 0, none⟩)) := (hI.reg rfl).trans h2
        replace h6 : R 6 = (.pointer (some ⟨b6_9, 0, none⟩)) := (hI.reg rfl).trans h6
        replace h7 : R 7 = .bool x7.2 := (hI.reg rfl).trans h7
        replace h9 : R 9 = u27 := (hI.reg rfl).trans h9
        replace h10 : R 10 = .bool x20.2 := (hI.reg rfl).trans h10
        have z48 := hI.inivR 0 rfl
        have z49 := hI.inivR 1 rfl
        have z50 := hI.inivR 2 rfl
        have z51 := (hI.opnR hdn 6 2 rfl rfl rfl rfl rfl).trans z50
        have z52 := hI.inivR 3 rfl
        obtain ⟨S53, eS_u16⟩ : ∃ S, σ 6 = S := ⟨_, rfl⟩
        have eS_u27 := hI.inisR 3 rfl
        have h11 : R 11 = .int .i64 x46.1 := hI.fact hdn (i := 3) rfl rfl rfl
        replace hAA := hI.low' hAA hA0 (hO.ge (⟨rfl, ⟨rfl, ⟨fun _ h => h, ⟨fun _ h => h, trivial⟩⟩⟩⟩))
        replace hF : Fr w0 w := hF.tr hI.ch (hO.ge (⟨rfl, ⟨rfl, ⟨fun _ h => h, ⟨fun _ h => h, trivial⟩⟩⟩⟩))
        replace hO : IniOK [ob (.pointer (some ⟨b2_0, 0, none⟩)) (.box w0.heap.size 25 E_laws_SetIndex p0), ob (.pointer (some ⟨b6_9, 0, none⟩)) (.box w0.heap.size 30 E_impl_SetIndex x7.1), ⟨u27, S29, trR (geB w0.heap.size) (oPt 30 (oPr (oRd (eInt .i64)) (oPr (oSl 70 (oRd E_impl_TokenCount)) (oSl 55 (oPr (oRd (eInt .i64)) (oSl 9 (oRd eStr))))))) x20.1 []⟩] A w := hI.left hdn [(0, ob (.pointer (some ⟨b2_0, 0, none⟩)) (.box w0.heap.size 25 E_laws_SetIndex p0)), (1, ob (.pointer (some ⟨b6_9, 0, none⟩)) (.box w0.heap.size 30 E_impl_SetIndex x7.1)), (3, ⟨u27, S29, trR (geB w0.heap.size) (oPt 30 (oPr (oRd (eInt .i64)) (oPr (oSl 70 (oRd E_impl_TokenCount)) (oSl 55 (oPr (oRd (eInt .i64)) (oSl 9 (oRd eStr))))))) x20.1 []⟩)] ⟨rfl, rfl, z48, rfl, rfl, ⟨rfl, rfl, z49, rfl, rfl, ⟨rfl, rfl, z52, eS_u27, rfl, trivial⟩⟩⟩
        replace hA := hI.avok
        clear hI
        refine HT.seq ?_
        refine HT.seq ?_
        obtain ⟨h54, l_h54, p_h54⟩ := ((tr_root (hO.own 2 _ rfl).2).ptr).open
        replace hO : IniOK [ob (.pointer (some ⟨b2_0, 0, none⟩)) (.box w0.heap.size 25 E_laws_SetIndex p0), ob (.pointer (some ⟨b6_9, 0, none⟩)) (.box w0.heap.size 30 E_impl_SetIndex x7.1), ⟨u27, S29, trR (geB w0.heap.size) (oPt 30 (oPr (oRd (eInt .i64)) (oPr (oSl 70 (oRd E_impl_TokenCount)) (oSl 55 (oPr (oRd (eInt .i64)) (oSl 9 (oRd eStr))))))) x20.1 [(u27, h54)]⟩] A w := hO.repin 2 rfl (trP.pin p_h54)
        obtain ⟨x56, q57, hr⟩ := cl_some hr
        obtain ⟨x58, q59, hr⟩ := bd_some hr
        obtain ⟨x60, q61, hr⟩ := bd_some hr
        refine HT.text (l := ⟨_, true, .raw (.int .i64 x46.1)⟩ :: ⟨_, true, .raw (.bool (decide (x46.1 < (0 : Int))))⟩ :: ⟨_, true, .raw (.bool (decide (x46.1 < (0 : Int))))⟩ :: ⟨_, (true && ((decide (x46.1 < (0 : Int))) == false)), .raw (Enc.val E_impl_SetIndex h54)⟩ :: ⟨_, (true && ((decide (x46.1 < (0 : Int))) == false)), .rep E_impl_SetIndex A x7.1⟩ :: ⟨_, (true && ((decide (x46.1 < (0 : Int))) == false)), .raw (.bool x56)⟩ :: ⟨_, (true && ((decide (x46.1 < (0 : Int))) == false)), .raw (.bool (!x56))⟩ :: ⟨_, true, .raw (.bool x58)⟩ :: ⟨_, true, .raw (.bool x58)⟩ :: ⟨_, (true && (x58 == false)), .raw (.bool x20.2)⟩ :: ⟨_, (true && (x58 == false)), .raw (.bool x7.2)⟩ :: ⟨_, (true && (x58 == false)), .raw (.bool (x20.2 != x7.2))⟩ :: ⟨_, true, .raw (.bool x60)⟩ :: []) (tl := []) (by kernel_rfl) (by kernel_rfl) (by kernel_rfl) ?_ ?_
        · exact
            Obls.cons (Obl.plain rfl rfl fun R' w' hw hs hd => by have a0 : R' 11 = .int .i64 x46.1 := (hs 11 rfl).trans h11; exact of_move a0) <|
            Obls.cons (Obl.plain rfl rfl fun R' w' hw hs hd => by have a0 : R' 53 = .int .i64 x46.1 := hd 0 _ _ _ rfl rfl rfl rfl rfl; exact of_lss a0 rfl) <|
            Obls.cons (Obl.plain rfl rfl fun R' w' hw hs hd => by have a0 : R' 54 = .bool (decide (x46.1 < (0 : Int))) := hd 0 _ _ _ rfl rfl rfl rfl rfl; exact of_move a0) <|
            Obls.cons (Obl.grd 2 false _ _ _ rfl rfl rfl rfl rfl (by kernel_rfl) fun hg R' w' hw hs hd => by have a0 : R' 9 = u27 := (hs 9 rfl).trans h9; exact of_load_pinS (F := oPr (oRd (eInt .i64)) (oPr (oSl 70 (oRd E_impl_TokenCount)) (oSl 55 (oPr (oRd (eInt .i64)) (oSl 9 (oRd eStr)))))) (((hO.fr hw).own 2 _ rfl).2.2 _ (.head _)) l_h54 a0 Try.isAgg30 Try.sizeOf30) <|
            Obls.cons (Obl.grd 2 false _ _ _ rfl rfl rfl rfl rfl (by kernel_rfl) fun hg R' w' hw hs hd => by have a0 : R' 6 = (.pointer (some ⟨b6_9, 0, none⟩)) := (hs 6 rfl).trans h6; exact (of_load_box ((hO.fr hw).ok 1 _ rfl).1 a0 (Fld.id _) rfl Try.isAgg30 Try.sizeOf30)) <|
            Obls.cons (Obl.grd 2 false _ _ _ rfl rfl rfl rfl rfl (by kernel_rfl) fun hg R' w' hw hs hd => by have a0 : R' 56 = (Enc.val E_impl_SetIndex h54) := hd 0 _ _ _ rfl rfl rfl rfl hg; have ra0 : Rep E_impl_SetIndex A0 w' (R' 56) _ := (vh_rep (((tr_root ((hO.fr hw).own 2 _ rfl).2).ptr).pinS (((hO.fr hw).own 2 _ rfl).2.2 _ (.head _)) l_h54) hAA (fun k o hk ha => Nat.not_lt.2 (((hO.fr hw).own 2 _ rfl).1 k hk) (hA0 k o ha))).eq a0; have a1 : Rep E_impl_SetIndex A w' (R' 57) x7.1 := hd 1 _ _ _ rfl rfl rfl rfl hg; exact of_call Try.call9 (M_laws_eqSetIndex_ok (q57 hg) (hA00.fr ((Nat.le_trans hF.size hw.size))) ra0 (a1.down hAA))) <|
            Obls.cons (Obl.grd 2 false _ _ _ rfl rfl rfl rfl rfl (by kernel_rfl) fun hg R' w' hw hs hd => by have a0 : R' 58 = .bool x56 := hd 0 _ _ _ rfl rfl rfl rfl hg; exact of_not a0) <|
            Obls.cons (Obl.plain rfl rfl fun R' w' hw hs hd => by have a0 : R' 55 = .bool (decide (x46.1 < (0 : Int))) := hd 0 _ _ _ rfl rfl rfl rfl rfl; exact of_pick (decide (x46.1 < (0 : Int))) a0 (fun hc => by show _ = Value.bool x58; rw [q59, hc]; exact rfl) (fun hc => by have a2 : R' 59 = .bool (!x56) := hd 1 _ _ _ rfl rfl rfl rfl (g_and rfl (beq_of hc)); show _ = Value.bool x58; rw [q59, hc]; exact a2)) <|
            Obls.cons (Obl.plain rfl rfl fun R' w' hw hs hd => by have a0 : R' 60 = .bool x58 := hd 0 _ _ _ rfl rfl rfl rfl rfl; exact of_move a0) <|
            Obls.cons (Obl.grd 8 false _ _ _ rfl rfl rfl rfl rfl (by kernel_rfl) fun hg R' w' hw hs hd => by have a0 : R' 10 = .bool x20.2 := (hs 10 rfl).trans h10; exact of_move a0) <|
            Obls.cons (Obl.grd 8 false _ _ _ rfl rfl rfl rfl rfl (by kernel_rfl) fun hg R' w' hw hs hd => by have a0 : R' 7 = .bool x7.2 := (hs 7 rfl).trans h7; exact of_move a0) <|
            Obls.cons (Obl.grd 8 false _ _ _ rfl rfl rfl rfl rfl (by kernel_rfl) fun hg R' w' hw hs hd => by have a0 : R' 62 = .bool x20.2 := hd 0 _ _ _ rfl rfl rfl rfl hg; have a1 : R' 63 = .bool x7.2 := hd 1 _ _ _ rfl rfl rfl rfl hg; exact of_bneq Try.underlying4 a0 a1) <|
            Obls.cons (Obl.plain rfl rfl fun R' w' hw hs hd => by have a0 : R' 61 = .bool x58 := hd 0 _ _ _ rfl rfl rfl rfl rfl; exact of_pick x58 a0 (fun hc => by show _ = Value.bool x60; rw [q61, hc]; exact rfl) (fun hc => by have a2 : R' 64 = .bool (x20.2 != x7.2) := hd 1 _ _ _ rfl rfl rfl rfl (g_and rfl (beq_of hc)); show _ = Value.bool x60; rw [q61, hc]; exact a2)) <|
            Obls.nil
        intro R w hw hs hF'
        replace h1 : R 1 = .int .i64 p1 := (hs 1 rfl).trans h1
        replace h2 : R 2 = (.pointer (some ⟨b2_0, 0, none⟩)) := (hs 2 rfl).trans h2
        replace h6 : R 6 = (.pointer (some ⟨b6_9, 0, none⟩)) := (hs 6 rfl).trans h6
        replace h7 : R 7 = .bool x7.2 := (hs 7 rfl).trans h7
        replace h9 : R 9 = u27 := (hs 9 rfl).trans h9
        have h65 : R 65 = .bool x60 := hF' 12 _ _ rfl rfl rfl
        replace hO := hO.fr hw
        replace hA := hA.fr hw.size
        replace hF := hF.trans hw
        clear hs hF' hw
        refine seqR_nil ?_
        replace hO : IniOK [ob (.pointer (some ⟨b2_0, 0, none⟩)) (.box w0.heap.size 25 E_laws_SetIndex p0), ob (.pointer (some ⟨b6_9, 0, none⟩)) (.box w0.heap.size 30 E_impl_SetIndex x7.1), ⟨u27, S29, trR (geB w0.heap.size) (oPt 30 (oPr (oRd (eInt .i64)) (oPr (oSl 70 (oRd E_impl_TokenCount)) (oSl 55 (oPr (oRd (eInt .i64)) (oSl 9 (oRd eStr))))))) x20.1 []⟩] A w := hO.repin 2 rfl trP.nopin
        refine HT.cond x60 h65 (fun c62 => ?_) (fun c62 => ?_)
        · have hr := cnd_t c62 hr
          refine HT.seq ?_
          refine HT.text (l := ⟨_, true, .raw (.bool false)⟩ :: []) (tl := []) (by kernel_rfl) (by kernel_rfl) (by kernel_rfl) ?_ ?_
          · exact
              Obls.cons (Obl.plain rfl rfl fun R' w' hw hs hd => by exact of_assign rfl) <|
              Obls.nil
          intro R w hw hs hF'
          have h4 : R 4 = .bool false := hF' 0 _ _ rfl rfl rfl
          replace hO := hO.fr hw
          replace hO : IniOK [] A w := hO.sub [] trivial
          replace hA := hA.fr hw.size
          replace hF := hF.trans hw
          clear hs hF' hw
          refine seqR_nil ?_
          refine HT.ret ?_
          obtain rfl := Option.some.inj hr
          exact ⟨.inr rfl, [R 4], ⟨rfl, trivial⟩, h4, hF⟩
        · have hr := cnd_f c62 hr
          refine HT.skip ?_
          refine HT.seq ?_
          refine HT.text (l := ⟨_, true, .raw (.int .i64 (1 : Int))⟩ :: []) (tl := []) (by kernel_rfl) (by kernel_rfl) (by kernel_rfl) ?_ ?_
          · exact
              Obls.cons (Obl.plain rfl rfl fun R' w' hw hs hd => by exact of_assign rfl) <|
              Obls.nil
          intro R w hw hs hF'
          replace h1 : R 1 = .int .i64 p1 := (hs 1 rfl).trans h1
          replace h2 : R 2 = (.pointer (some ⟨b2_0, 0, none⟩)) := (hs 2 rfl).trans h2
          replace h6 : R 6 = (.pointer (some ⟨b6_9, 0, none⟩)) := (hs 6 rfl).trans h6
          replace h7 : R 7 = .bool x7.2 := (hs 7 rfl).trans h7
          replace h9 : R 9 = u27 := (hs 9 rfl).trans h9
          have h12 : R 12 = .int .i64 (1 : Int) := hF' 0 _ _ rfl rfl rfl
          replace hO := hO.fr hw
          replace hA := hA.fr hw.size
          replace hF := hF.trans hw
          clear hs hF' hw
          refine seqR_nil ?_
          refine HT.seq ?_
          obtain ⟨h63, l_h63, p_h63⟩ := ((tr_root (hO.own 2 _ rfl).2).ptr).open
          replace hO : IniOK [ob (.pointer (some ⟨b2_0, 0, none⟩)) (.box w0.heap.size 25 E_laws_SetIndex p0), ob (.pointer (some ⟨b6_9, 0, none⟩)) (.box w0.heap.size 30 E_impl_SetIndex x7.1), ⟨u27, S29, trR (geB w0.heap.size) (oPt 30 (oPr (oRd (eInt .i64)) (oPr (oSl 70 (oRd E_impl_TokenCount)) (oSl 55 (oPr (oRd (eInt .i64)) (oSl 9 (oRd eStr))))))) x20.1 [(u27, h63)]⟩] A w := hO.repin 2 rfl (trP.pin p_h63)
          obtain ⟨x65, q66, hr⟩ := cl_some hr
          refine HT.textR [ob (.pointer (some ⟨b2_0, 0, none⟩)) (.box w0.heap.size 25 E_laws_SetIndex p0), ob (.pointer (some ⟨b6_9, 0, none⟩)) (.box w0.heap.size 30 E_impl_SetIndex x7.1), ⟨u27, S29, trR (geB w0.heap.size) (oPt 30 (oPr (oRd (eInt .i64)) (oPr (oSl 70 (oRd E_impl_TokenCount)) (oSl 55 (oPr (oRd (eInt .i64)) (oSl 9 (oRd eStr))))))) x20.1 [(u27, h63)]⟩] (⟨_, true, [], none, true, fun A => .raw (Enc.val E_impl_SetIndex h63)⟩ :: ⟨_, true, [], none, true, fun A => .raw (.int .i64 (1 : Int))⟩ :: ⟨_, true, [2], some (trR (geB w0.heap.size) (oPt 30 (oPr (oRd (eInt .i64)) (oPr (oSl 70 (oRd E_impl_TokenCount)) (oSl 55 (oPr (oRd (eInt .i64)) (oSl 9 (oRd eStr))))))) x65.2 []), false, fun A => .raw (.int .i64 x65.1)⟩ :: ⟨_, true, [], none, true, fun A => .raw (.int .i64 x65.1)⟩ :: []) (by kernel_rfl) (by kernel_rfl) (Wf.mk' (by kernel_rfl) (UAll.cons ust_raw (UAll.cons ust_raw (UAll.cons ust_raw (UAll.cons ust_raw (UAll.nil))))) (by kernel_rfl) (by kernel_rfl)) hO hA ?_ ?_
          · exact
              OblsR.cons (OblR.plain rfl rfl rfl rfl fun A' R' w' ho hd => by have a0 : R' 9 = u27 := (ho.old 9 rfl).trans h9; exact of_load_pinS (F := oPr (oRd (eInt .i64)) (oPr (oSl 70 (oRd E_impl_TokenCount)) (oSl 55 (oPr (oRd (eInt .i64)) (oSl 9 (oRd eStr)))))) ((ho.rdo 2 _ rfl rfl).2.2 _ (.head _)) l_h63 a0 Try.isAgg30 Try.sizeOf30) <|
              OblsR.cons (OblR.plain rfl rfl rfl rfl fun A' R' w' ho hd => by have a0 : R' 12 = .int .i64 (1 : Int) := (ho.old 12 rfl).trans h12; exact of_move a0) <|
              OblsR.cons (OblR.tookS 2 _ _ rfl rfl rfl rfl rfl fun A' R' w' ho hd u S hok hown hav hin hop hds => by have a0 : R' 66 = (Enc.val E_impl_SetIndex h63) := hd 0 _ _ _ rfl rfl rfl rfl rfl; have a1 : R' 67 = .int .i64 (1 : Int) := hd 1 _ _ _ rfl rfl rfl rfl rfl; have e0 := (hin _ rfl).1; rw [e0] at hown ⊢; have hu0 : evalR R' (.tmp 66) = (Enc.val E_impl_SetIndex h63) := a0; exact took_callT Try.call10 (((tr_root hown.2).ptr).pinS (hown.2.2 _ (.head _)) l_h63) hav hown.1 (fun k hk => Nat.le_trans (Nat.le_trans hF.size ho.ch.size) hk) (fun k hk => SP.lt _ hown.2 hk) (fun S1 hS1 hP => by simp only [List.map, hu0]; exact M_laws_markSetIndex_ok (q66 rfl) (ho.av.subS _) (fun b o h => h.2) hP a1) (fun _ _ _ h => h)) <|
              OblsR.cons (OblR.plain rfl rfl rfl rfl fun A' R' w' ho hd => by have a0 : R' 68 = .int .i64 x65.1 := hd 0 _ _ _ rfl rfl rfl rfl rfl; exact of_assign a0) <|
              OblsR.nil
          intro done ρ σ A R w hdn hI
          replace h1 : R 1 = .int .i64 p1 := (hI.reg rfl).trans h1
          replace h2 : R 2 = (.pointer (some ⟨b2_0, 0, none⟩)) := (hI.reg rfl).trans h2
          replace h6 : R 6 = (.pointer (some ⟨b6_9, 0, none⟩)) := (hI.reg rfl).trans h6
          replace h7 : R 7 = .bool x7.2 := (hI.reg rfl).trans h7
          replace h9 : R 9 = u27 := (hI.reg rfl).trans h9
          have z67 := hI.inivR 0 rfl
          have z68 := hI.inivR 1 rfl
          have z69 := hI.inivR 2 rfl
          have z70 := (hI.opnR hdn 5 2 rfl rfl rfl rfl rfl).trans z69
          obtain ⟨S71, eS_u27⟩ : ∃ S, σ 5 = S := ⟨_, rfl⟩
          have h12 : R 12 = .int .i64 x65.1 := hI.fact hdn (i := 3) rfl rfl rfl
          replace hAA := hI.low' hAA hA0 (hO.ge (⟨rfl, ⟨rfl, ⟨fun _ h => h, trivial⟩⟩⟩))
          replace hF : Fr w0 w := hF.tr hI.ch (hO.ge (⟨rfl, ⟨rfl, ⟨fun _ h => h, trivial⟩⟩⟩))
          replace hO : IniOK [ob (.pointer (some ⟨b2_0, 0, none⟩)) (.box w0.heap.size 25 E_laws_SetIndex p0), ob (.pointer (some ⟨b6_9, 0, none⟩)) (.box w0.heap.size 30 E_impl_SetIndex x7.1), ⟨u27, S71, trR (geB w0.heap.size) (oPt 30 (oPr (oRd (eInt .i64)) (oPr (oSl 70 (oRd E_impl_TokenCount)) (oSl 55 (oPr (oRd (eInt .i64)) (oSl 9 (oRd eStr))))))) x65.2 []⟩] A w := hI.left hdn [(0, ob (.pointer (some ⟨b2_0, 0, none⟩)) (.box w0.heap.size 25 E_laws_SetIndex p0)), (1, ob (.pointer (some ⟨b6_9, 0, none⟩)) (.box w0.heap.size 30 E_impl_SetIndex x7.1)), (5, ⟨u27, S71, trR (geB w0.heap.size) (oPt 30 (oPr (oRd (eInt .i64)) (oPr (oSl 70 (oRd E_impl_TokenCount)) (oSl 55 (oPr (oRd (eInt .i64)) (oSl 9 (oRd eStr))))))) x65.2 []⟩)] ⟨rfl, rfl, z67, rfl, rfl, ⟨rfl, rfl, z68, rfl, rfl, ⟨rfl, rfl, z70, eS_u27, rfl, trivial⟩⟩⟩
          replace hA := hI.avok
          clear hI
          refine HT.seq ?_
          refine HT.text (l := ⟨_, true, .raw (.int .i64 (1 : Int))⟩ :: []) (tl := []) (by kernel_rfl) (by kernel_rfl) (by kernel_rfl) ?_ ?_
          · exact
              Obls.cons (Obl.plain rfl rfl fun R' w' hw hs hd => by exact of_assign rfl) <|
              Obls.nil
          intro R w hw hs hF'
          replace h1 : R 1 = .int .i64 p1 := (hs 1 rfl).trans h1
          replace h2 : R 2 = (.pointer (some ⟨b2_0, 0, none⟩)) := (hs 2 rfl).trans h2
          replace h6 : R 6 = (.pointer (some ⟨b6_9, 0, none⟩)) := (hs 6 rfl).trans h6
          replace h7 : R 7 = .bool x7.2 := (hs 7 rfl).trans h7
          replace h9 : R 9 = u27 := (hs 9 rfl).trans h9
          replace h12 : R 12 = .int .i64 x65.1 := (hs 12 rfl).trans h12
          have h13 : R 13 = .int .i64 (1 : Int) := hF' 0 _ _ rfl rfl rfl
          replace hO := hO.fr hw
          replace hA := hA.fr hw.size
          replace hF := hF.trans hw
          clear hs hF' hw
          refine seqR_nil ?_
          refine HT.seq ?_
          obtain ⟨h72, l_h72, p_h72⟩ := ((tr_root (hO.own 2 _ rfl).2).ptr).open
          replace hO : IniOK [ob (.pointer (some ⟨b2_0, 0, none⟩)) (.box w0.heap.size 25 E_laws_SetIndex p0), ob (.pointer (some ⟨b6_9, 0, none⟩)) (.box w0.heap.size 30 E_impl_SetIndex x7.1), ⟨u27, S71, trR (geB w0.heap.size) (oPt 30 (oPr (oRd (eInt .i64)) (oPr (oSl 70 (oRd E_impl_TokenCount)) (oSl 55 (oPr (oRd (eInt .i64)) (oSl 9 (oRd eStr))))))) x65.2 [(u27, h72)]⟩] A w := hO.repin 2 rfl (trP.pin p_h72)
          obtain ⟨x74, q75, hr⟩ := cl_some hr
          refine HT.text (l := ⟨_, true, .raw (Enc.val E_impl_SetIndex h72)⟩ :: ⟨_, true, .raw (.int .i64 (1 : Int))⟩ :: ⟨_, true, .raw (.int .i64 x74)⟩ :: ⟨_, true, .raw (.int .i64 x74)⟩ :: []) (tl := []) (by kernel_rfl) (by kernel_rfl) (by kernel_rfl) ?_ ?_
          · exact
              Obls.cons (Obl.plain rfl rfl fun R' w' hw hs hd => by have a0 : R' 9 = u27 := (hs 9 rfl).trans h9; exact of_load_pinS (F := oPr (oRd (eInt .i64)) (oPr (oSl 70 (oRd E_impl_TokenCount)) (oSl 55 (oPr (oRd (eInt .i64)) (oSl 9 (oRd eStr)))))) (((hO.fr hw).own 2 _ rfl).2.2 _ (.head _)) l_h72 a0 Try.isAgg30 Try.sizeOf30) <|
              Obls.cons (Obl.plain rfl rfl fun R' w' hw hs hd => by have a0 : R' 13 = .int .i64 (1 : Int) := (hs 13 rfl).trans h13; exact of_move a0) <|
              Obls.cons (Obl.plain rfl rfl fun R' w' hw hs hd => by have a0 : R' 69 = (Enc.val E_impl_SetIndex h72) := hd 0 _ _ _ rfl rfl rfl rfl rfl; have ra0 : Rep E_impl_SetIndex A0 w' (R' 69) _ := (vh_rep (((tr_root ((hO.fr hw).own 2 _ rfl).2).ptr).pinS (((hO.fr hw).own 2 _ rfl).2.2 _ (.head _)) l_h72) hAA (fun k o hk ha => Nat.not_lt.2 (((hO.fr hw).own 2 _ rfl).1 k hk) (hA0 k o ha))).eq a0; have a1 : R' 70 = .int .i64 (1 : Int) := hd 1 _ _ _ rfl rfl rfl rfl rfl; exact of_call Try.call11 (M_laws_heldSetIndex_ok (q75 rfl) (hA00.fr ((Nat.le_trans hF.size hw.size))) ra0 a1)) <|
              Obls.cons (Obl.plain rfl rfl fun R' w' hw hs hd => by have a0 : R' 71 = .int .i64 x74 := hd 0 _ _ _ rfl rfl rfl rfl rfl; exact of_assign a0) <|
              Obls.nil
          intro R w hw hs hF'
          replace h1 : R 1 = .int .i64 p1 := (hs 1 rfl).trans h1
          replace h2 : R 2 = (.pointer (some ⟨b2_0, 0, none⟩)) := (hs 2 rfl).trans h2
          replace h6 : R 6 = (.pointer (some ⟨b6_9, 0, none⟩)) := (hs 6 rfl).trans h6
          replace h7 : R 7 = .bool x7.2 := (hs 7 rfl).trans h7
          replace h9 : R 9 = u27 := (hs 9 rfl).trans h9
          replace h12 : R 12 = .int .i64 x65.1 := (hs 12 rfl).trans h12
          have h13 : R 13 = .int .i64 x74 := hF' 3 _ _ rfl rfl rfl
          replace hO := hO.fr hw
          replace hA := hA.fr hw.size
          replace hF := hF.trans hw
          clear hs hF' hw
          refine seqR_nil ?_
          replace hO : IniOK [ob (.pointer (some ⟨b2_0, 0, none⟩)) (.box w0.heap.size 25 E_laws_SetIndex p0), ob (.pointer (some ⟨b6_9, 0, none⟩)) (.box w0.heap.size 30 E_impl_SetIndex x7.1), ⟨u27, S71, trR (geB w0.heap.size) (oPt 30 (oPr (oRd (eInt .i64)) (oPr (oSl 70 (oRd E_impl_TokenCount)) (oSl 55 (oPr (oRd (eInt .i64)) (oSl 9 (oRd eStr))))))) x65.2 []⟩] A w := hO.repin 2 rfl trP.nopin
          refine HT.seq ?_
          refine HT.seq ?_
          refine HT.text (l := ⟨_, true, .raw (.int .i64 x74)⟩ :: ⟨_, true, .raw (.bool (decide (x74 < (0 : Int))))⟩ :: []) (tl := []) (by kernel_rfl) (by kernel_rfl) (by kernel_rfl) ?_ ?_
          · exact
              Obls.cons (Obl.plain rfl rfl fun R' w' hw hs hd => by have a0 : R' 13 = .int .i64 x74 := (hs 13 rfl).trans h13; exact of_move a0) <|
              Obls.cons (Obl.plain rfl rfl fun R' w' hw hs hd => by have a0 : R' 72 = .int .i64 x74 := hd 0 _ _ _ rfl rfl rfl rfl rfl; exact of_lss a0 rfl) <|
              Obls.nil
          intro R w hw hs hF'
          replace h1 : R 1 = .int .i64 p1 := (hs 1 rfl).trans h1
          replace h2 : R 2 = (.pointer (some ⟨b2_0, 0, none⟩)) := (hs 2 rfl).trans h2
          replace h6 : R 6 = (.pointer (some ⟨b6_9, 0, none⟩)) := (hs 6 rfl).trans h6
          replace h7 : R 7 = .bool x7.2 := (hs 7 rfl).trans h7
          replace h9 : R 9 = u27 := (hs 9 rfl).trans h9
          replace h12 : R 12 = .int .i64 x65.1 := (hs 12 rfl).trans h12
          replace h13 : R 13 = .int .i64 x74 := (hs 13 rfl).trans h13
          have h73 : R 73 = .bool (decide (x74 < (0 : Int))) := hF' 1 _ _ rfl rfl rfl
          replace hO := hO.fr hw
          replace hA := hA.fr hw.size
          replace hF := hF.trans hw
          clear hs hF' hw
          refine seqR_nil ?_
          refine HT.cond (decide (x74 < (0 : Int))) h73 (fun c76 => ?_) (fun c76 => ?_)
          · have hr := cnd_t c76 hr
            refine HT.seq ?_
            refine HT.text (l := ⟨_, true, .raw (.bool false)⟩ :: []) (tl := []) (by kernel_rfl) (by kernel_rfl) (by kernel_rfl) ?_ ?_
            · exact
                Obls.cons (Obl.plain rfl rfl fun R' w' hw hs hd => by exact of_assign rfl) <|
                Obls.nil
            intro R w hw hs hF'
            have h4 : R 4 = .bool false := hF' 0 _ _ rfl rfl rfl
            replace hO := hO.fr hw
            replace hO : IniOK [] A w := hO.sub [] trivial
            replace hA := hA.fr hw.size
            replace hF := hF.trans hw
            clear hs hF' hw
            refine seqR_nil ?_
            refine HT.ret ?_
            obtain rfl := Option.some.inj hr
            exact ⟨.inr rfl, [R 4], ⟨rfl, trivial⟩, h4, hF⟩
          · have hr := cnd_f c76 hr
            refine HT.skip ?_
            refine HT.seq ?_
            refine HT.seq ?_
            refine HT.text (l := ⟨_, true, .raw (.int .i64 x74)⟩ :: ⟨_, true, .raw (.int .i64 x65.1)⟩ :: ⟨_, true, .raw (.bool (x74 != x65.1))⟩ :: []) (tl := []) (by kernel_rfl) (by kernel_rfl) (by kernel_rfl) ?_ ?_
            · exact
                Obls.cons (Obl.plain rfl rfl fun R' w' hw hs hd => by have a0 : R' 13 = .int .i64 x74 := (hs 13 rfl).trans h13; exact of_move a0) <|
                Obls.cons (Obl.plain rfl rfl fun R' w' hw hs hd => by have a0 : R' 12 = .int .i64 x65.1 := (hs 12 rfl).trans h12; exact of_move a0) <|
                Obls.cons (Obl.plain rfl rfl fun R' w' hw hs hd => by have a0 : R' 74 = .int .i64 x74 := hd 0 _ _ _ rfl rfl rfl rfl rfl; have a1 : R' 75 = .int .i64 x65.1 := hd 1 _ _ _ rfl rfl rfl rfl rfl; exact of_neq a0 a1) <|
                Obls.nil
            intro R w hw hs hF'
            replace h1 : R 1 = .int .i64 p1 := (hs 1 rfl).trans h1
            replace h2 : R 2 = (.pointer (some ⟨b2_0, 0, none⟩)) := (hs 2 rfl).trans h2
            replace h6 : R 6 = (.pointer (some ⟨b6_9, 0, none⟩)) := (hs 6 rfl).trans h6
            replace h7 : R 7 = .bool x7.2 := (hs 7 rfl).trans h7
            replace h9 : R 9 = u27 := (hs 9 rfl).trans h9
            replace h12 : R 12 = .int .i64 x65.1 := (hs 12 rfl).trans h12
            have h76 : R 76 = .bool (x74 != x65.1) := hF' 2 _ _ rfl rfl rfl
            replace hO := hO.fr hw
            replace hA := hA.fr hw.size
            replace hF := hF.trans hw
            clear hs hF' hw
            refine seqR_nil ?_
            refine HT.cond (x74 != x65.1) h76 (fun c77 => ?_) (fun c77 => ?_)
            · have hr := cnd_t c77 hr
              refine HT.seq ?_
              refine HT.text (l := ⟨_, true, .raw (.bool false)⟩ :: []) (tl := []) (by kernel_rfl) (by kernel_rfl) (by kernel_rfl) ?_ ?_
              · exact
                  Obls.cons (Obl.plain rfl rfl fun R' w' hw hs hd => by exact of_assign rfl) <|
                  Obls.nil
              intro R w hw hs hF'
              have h4 : R 4 = .bool false := hF' 0 _ _ rfl rfl rfl
              replace hO := hO.fr hw
              replace hO : IniOK [] A w := hO.sub [] trivial
              replace hA := hA.fr hw.size
              replace hF := hF.trans hw
              clear hs hF' hw
              refine seqR_nil ?_
              refine HT.ret ?_
              obtain rfl := Option.some.inj hr
              exact ⟨.inr rfl, [R 4], ⟨rfl, trivial⟩, h4, hF⟩
            · have hr := cnd_f c77 hr
              refine HT.skip ?_
              refine HT.seq ?_
              obtain ⟨x78, q79, hr⟩ := cl_some hr
              obtain ⟨x80, q81, hr⟩ := cl_some hr
              refine HT.textR [ob (.pointer (some ⟨b2_0, 0, none⟩)) (.box w0.heap.size 25 E_laws_SetIndex p0), ob (.pointer (some ⟨b6_9, 0, none⟩)) (.box w0.heap.size 30 E_impl_SetIndex x7.1), ⟨u27, S71, trR (geB w0.heap.size) (oPt 30 (oPr (oRd (eInt .i64)) (oPr (oSl 70 (oRd E_impl_TokenCount)) (oSl 55 (oPr (oRd (eInt .i64)) (oSl 9 (oRd eStr))))))) x65.2 []⟩] (⟨_, true, [], none, true, fun A => .rep E_laws_SetIndex A p0⟩ :: ⟨_, true, [], none, true, fun A => .rep E_impl_SetIndex A x78⟩ :: ⟨_, true, [], none, true, fun A => .raw (.int .i64 p1)⟩ :: ⟨_, true, [], none, true, fun A => .tup2 (.rep E_impl_SetIndex A x80.1) (.raw (.bool x80.2))⟩ :: ⟨_, true, [], none, true, fun A => .tup2 (.rep E_impl_SetIndex A x80.1) (.raw (.bool x80.2))⟩ :: ⟨_, true, [], none, true, fun A => .rep E_impl_SetIndex A x80.1⟩ :: ⟨_, true, [], none, true, fun A => .raw (.bool x80.2)⟩ :: ⟨_, true, [], some (.box w0.heap.size 30 E_impl_SetIndex ((0 : Int), (([] : List T_impl_TokenCount), ([] : List T_impl_IndexedSet)))), true, fun A => .any⟩ :: ⟨_, true, [10], some (.box w0.heap.size 30 E_impl_SetIndex x80.1), false, fun A => .any⟩ :: ⟨_, true, [], none, true, fun A => .raw (.bool x80.2)⟩ :: []) (by kernel_rfl) (by kernel_rfl) (Wf.mk' (by kernel_rfl) (UAll.cons ust_rep (UAll.cons ust_rep (UAll.cons ust_raw (UAll.cons (ust_tup2 ust_rep ust_raw) (UAll.cons (ust_tup2 ust_rep ust_raw) (UAll.cons ust_rep (UAll.cons ust_raw (UAll.cons ust_any (UAll.cons ust_any (UAll.cons ust_raw (UAll.nil))))))))))) (by kernel_rfl) (by kernel_rfl)) hO hA ?_ ?_
              · exact
                  OblsR.cons (OblR.plain rfl rfl rfl rfl fun A' R' w' ho hd => by have a0 : R' 2 = (.pointer (some ⟨b2_0, 0, none⟩)) := (ho.old 2 rfl).trans h2; exact (of_load_box (ho.rd 0 _ rfl rfl) a0 (Fld.id _) rfl Try.isAgg25 Try.sizeOf25)) <|
                  OblsR.cons (OblR.plain rfl rfl rfl rfl fun A' R' w' ho hd => by have a0 : Rep E_laws_SetIndex A' w' (R' 78) p0 := hd 0 _ _ _ rfl rfl rfl rfl rfl; exact of_call Try.call7 (M_laws_toSetIndex_okR (q79 rfl) ho.av a0)) <|
                  OblsR.cons (OblR.plain rfl rfl rfl rfl fun A' R' w' ho hd => by have a0 : R' 1 = .int .i64 p1 := (ho.old 1 rfl).trans h1; exact of_move a0) <|
                  OblsR.cons (OblR.plain rfl rfl rfl rfl fun A' R' w' ho hd => by have a0 : Rep E_impl_SetIndex A' w' (R' 79) x78 := hd 0 _ _ _ rfl rfl rfl rfl rfl; have a1 : R' 80 = .int .i64 p1 := hd 1 _ _ _ rfl rfl rfl rfl rfl; exact of_call Try.call8 (M_impl_RemoveSet_okR (q81 rfl) ho.av a0 a1)) <|
                  OblsR.cons (OblR.plain rfl rfl rfl rfl fun A' R' w' ho hd => by have a0 : Fact.ok (.tup2 (.rep E_impl_SetIndex A' x80.1) (.raw (.bool x80.2))) (R' 81) w' := hd 0 _ _ _ rfl rfl rfl rfl rfl; exact of_move a0) <|
                  OblsR.cons (OblR.plain rfl rfl rfl rfl fun A' R' w' ho hd => by have a0 : Fact.ok (.tup2 (.rep E_impl_SetIndex A' x80.1) (.raw (.bool x80.2))) (R' 77) w' := hd 0 _ _ _ rfl rfl rfl rfl rfl; exact of_extract2_0 a0) <|
                  OblsR.cons (OblR.plain rfl rfl rfl rfl fun A' R' w' ho hd => by have a0 : Fact.ok (.tup2 (.rep E_impl_SetIndex A' x80.1) (.raw (.bool x80.2))) (R' 77) w' := hd 0 _ _ _ rfl rfl rfl rfl rfl; exact of_extract2_1 a0) <|
                  OblsR.cons (OblR.made _ rfl rfl rfl rfl fun A' R' w' ho hd => by exact made_alloc Try.zeroValue30 (fun A w => rep_pr rep1_int (rep_pr rep1_nil rep1_nil)) (Nat.le_trans hF.size ho.ch.size)) <|
                  OblsR.cons (OblR.took 10 _ _ rfl rfl rfl rfl rfl fun A' R' w' ho hd u hok hav hin hop hds => by have a1 : Rep E_impl_SetIndex A' w' (R' 82) x80.1 := hd 1 _ _ _ rfl rfl rfl rfl rfl; obtain ⟨b, hb, hB', hbx⟩ := hok; have hop' := hop _ _ rfl rfl rfl rfl; exact took_store a1 (hop'.symm.trans hb) hb ⟨b, hb, hB', hbx⟩ hav (FldS.id _) Try.sizeOf30 rfl) <|
                  OblsR.cons (OblR.plain rfl rfl rfl rfl fun A' R' w' ho hd => by have a0 : R' 83 = .bool x80.2 := hd 0 _ _ _ rfl rfl rfl rfl rfl; exact of_assign a0) <|
                  OblsR.nil
              intro done ρ σ A R w hdn hI
              replace h6 : R 6 = (.pointer (some ⟨b6_9, 0, none⟩)) := (hI.reg rfl).trans h6
              replace h7 : R 7 = .bool x7.2 := (hI.reg rfl).trans h7
              replace h9 : R 9 = u27 := (hI.reg rfl).trans h9
              replace h12 : R 12 = .int .i64 x65.1 := (hI.reg rfl).trans h12
              have z82 := hI.inivR 0 rfl
              have z83 := hI.inivR 1 rfl
              have z84 := hI.inivR 2 rfl
              obtain ⟨b14_84, e_b14_84⟩ := hI.boxv hdn 11 rfl rfl
              have z86 := (hI.opnR hdn 11 8 rfl rfl rfl rfl rfl).symm.trans e_b14_84
              have h14 : R 14 = (.pointer (some ⟨b14_84, 0, none⟩)) := (hI.opvR hdn 10 7 rfl rfl rfl rfl rfl).symm.trans z86
              have eS_u27 := hI.inisR 2 rfl
              have h15 : R 15 = .bool x80.2 := hI.fact hdn (i := 9) rfl rfl rfl
              replace hAA := hI.low' hAA hA0 (hO.ge (⟨rfl, ⟨rfl, ⟨fun _ h => h, trivial⟩⟩⟩))
              replace hF : Fr w0 w := hF.tr hI.ch (hO.ge (⟨rfl, ⟨rfl, ⟨fun _ h => h, trivial⟩⟩⟩))
              replace hO : IniOK [ob (.pointer (some ⟨b6_9, 0, none⟩)) (.box w0.heap.size 30 E_impl_SetIndex x7.1), ⟨u27, S71, trR (geB w0.heap.size) (oPt 30 (oPr (oRd (eInt .i64)) (oPr (oSl 70 (oRd E_impl_TokenCount)) (oSl 55 (oPr (oRd (eInt .i64)) (oSl 9 (oRd eStr))))))) x65.2 []⟩, ob (.pointer (some ⟨b14_84, 0, none⟩)) (.box w0.heap.size 30 E_impl_SetIndex x80.1)] A w := hI.left hdn [(1, ob (.pointer (some ⟨b6_9, 0, none⟩)) (.box w0.heap.size 30 E_impl_SetIndex x7.1)), (2, ⟨u27, S71, trR (geB w0.heap.size) (oPt 30 (oPr (oRd (eInt .i64)) (oPr (oSl 70 (oRd E_impl_TokenCount)) (oSl 55 (oPr (oRd (eInt .i64)) (oSl 9 (oRd eStr))))))) x65.2 []⟩), (11, ob (.pointer (some ⟨b14_84, 0, none⟩)) (.box w0.heap.size 30 E_impl_SetIndex x80.1))] ⟨rfl, rfl, z83, rfl, rfl, ⟨rfl, rfl, z84, eS_u27, rfl, ⟨rfl, rfl, e_b14_84, rfl, rfl, trivial⟩⟩⟩
              replace hA := hI.avok
              clear hI
              refine HT.seq ?_
              refine HT.seq ?_
              obtain ⟨x87, q88, hr⟩ := cl_some hr
              obtain ⟨x89, q90, hr⟩ := bd_some hr
              refine HT.text (l := ⟨_, true, .rep E_impl_SetIndex A x80.1⟩ :: ⟨_, true, .rep E_impl_SetIndex A x7.1⟩ :: ⟨_, true, .raw (.bool x87)⟩ :: ⟨_, true, .raw (.bool (!x87))⟩ :: ⟨_, true, .raw (.bool (!x87))⟩ :: ⟨_, (true && ((!x87) == false)), .raw (.bool x80.2)⟩ :: ⟨_, (true && ((!x87) == false)), .raw (.bool x7.2)⟩ :: ⟨_, (true && ((!x87) == false)), .raw (.bool (x80.2 != x7.2))⟩ :: ⟨_, true, .raw (.bool x89)⟩ :: []) (tl := []) (by kernel_rfl) (by kernel_rfl) (by kernel_rfl) ?_ ?_
              · exact
                  Obls.cons (Obl.plain rfl rfl fun R' w' hw hs hd => by have a0 : R' 14 = (.pointer (some ⟨b14_84, 0, none⟩)) := (hs 14 rfl).trans h14; exact (of_load_box ((hO.fr hw).ok 2 _ rfl).1 a0 (Fld.id _) rfl Try.isAgg30 Try.sizeOf30)) <|
                  Obls.cons (Obl.plain rfl rfl fun R' w' hw hs hd => by have a0 : R' 6 = (.pointer (some ⟨b6_9, 0, none⟩)) := (hs 6 rfl).trans h6; exact (of_load_box ((hO.fr hw).ok 0 _ rfl).1 a0 (Fld.id _) rfl Try.isAgg30 Try.sizeOf30)) <|
                  Obls.cons (Obl.plain rfl rfl fun R' w' hw hs hd => by have a0 : Rep E_impl_SetIndex A w' (R' 84) x80.1 := hd 0 _ _ _ rfl rfl rfl rfl rfl; have a1 : Rep E_impl_SetIndex A w' (R' 85) x7.1 := hd 1 _ _ _ rfl rfl rfl rfl rfl; exact of_call Try.call9 (M_laws_eqSetIndex_ok (q88 rfl) (hA.fr hw.size) a0 a1)) <|
                  Obls.cons (Obl.plain rfl rfl fun R' w' hw hs hd => by have a0 : R' 86 = .bool x87 := hd 0 _ _ _ rfl rfl rfl rfl rfl; exact of_not a0) <|
                  Obls.cons (Obl.plain rfl rfl fun R' w' hw hs hd => by have a0 : R' 87 = .bool (!x87) := hd 0 _ _ _ rfl rfl rfl rfl rfl; exact of_move a0) <|
                  Obls.cons (Obl.grd 4 false _ _ _ rfl rfl rfl rfl rfl (by kernel_rfl) fun hg R' w' hw hs hd => by have a0 : R' 15 = .bool x80.2 := (hs 15 rfl).trans h15; exact of_move a0) <|
                  Obls.cons (Obl.grd 4 false _ _ _ rfl rfl rfl rfl rfl (by kernel_rfl) fun hg R' w' hw hs hd => by have a0 : R' 7 = .bool x7.2 := (hs 7 rfl).trans h7; exact of_move a0) <|
                  Obls.cons (Obl.grd 4 false _ _ _ rfl rfl rfl rfl rfl (by kernel_rfl) fun hg R' w' hw hs hd => by have a0 : R' 89 = .bool x80.2 := hd 0 _ _ _ rfl rfl rfl rfl hg; have a1 : R' 90 = .bool x7.2 := hd 1 _ _ _ rfl rfl rfl rfl hg; exact of_bneq Try.underlying4 a0 a1) <|
                  Obls.cons (Obl.plain rfl rfl fun R' w' hw hs hd => by have a0 : R' 88 = .bool (!x87) := hd 0 _ _ _ rfl rfl rfl rfl rfl; exact of_pick (!x87) a0 (fun hc => by show _ = Value.bool x89; rw [q90, hc]; exact rfl) (fun hc => by have a2 : R' 91 = .bool (x80.2 != x7.2) := hd 1 _ _ _ rfl rfl rfl rfl (g_and rfl (beq_of hc)); show _ = Value.bool x89; rw [q90, hc]; exact a2)) <|
                  Obls.nil
              intro R w hw hs hF'
              replace h9 : R 9 = u27 := (hs 9 rfl).trans h9
              replace h12 : R 12 = .int .i64 x65.1 := (hs 12 rfl).trans h12
              have h92 : R 92 = .bool x89 := hF' 8 _ _ rfl rfl rfl
              replace hO := hO.fr hw
              replace hO : IniOK [⟨u27, S71, trR (geB w0.heap.size) (oPt 30 (oPr (oRd (eInt .i64)) (oPr (oSl 70 (oRd E_impl_TokenCount)) (oSl 55 (oPr (oRd (eInt .i64)) (oSl 9 (oRd eStr))))))) x65.2 []⟩] A w := hO.sub [(1, ⟨u27, S71, trR (geB w0.heap.size) (oPt 30 (oPr (oRd (eInt .i64)) (oPr (oSl 70 (oRd E_impl_TokenCount)) (oSl 55 (oPr (oRd (eInt .i64)) (oSl 9 (oRd eStr))))))) x65.2 []⟩)] ⟨rfl, rfl, trivial⟩
              replace hA := hA.fr hw.size
              replace hF := hF.trans hw
              clear hs hF' hw
              refine seqR_nil ?_
              refine HT.cond x89 h92 (fun c91 => ?_) (fun c91 => ?_)
              · have hr := cnd_t c91 hr
                refine HT.seq ?_
                refine HT.text (l := ⟨_, true, .raw (.bool false)⟩ :: []) (tl := []) (by kernel_rfl) (by kernel_rfl) (by kernel_rfl) ?_ ?_
                · exact
                    Obls.cons (Obl.plain rfl rfl fun R' w' hw hs hd => by exact of_assign rfl) <|
                    Obls.nil
                intro R w hw hs hF'
                have h4 : R 4 = .bool false := hF' 0 _ _ rfl rfl rfl
                replace hO := hO.fr hw
                replace hO : IniOK [] A w := hO.sub [] trivial
                replace hA := hA.fr hw.size
                replace hF := hF.trans hw
                clear hs hF' hw
                refine seqR_nil ?_
                refine HT.ret ?_
                obtain rfl := Option.some.inj hr
                exact ⟨.inr rfl, [R 4], ⟨rfl, trivial⟩, h4, hF⟩
              · have hr := cnd_f c91 hr
                refine HT.skip ?_
                refine HT.seq ?_
                refine HT.text (l := ⟨_, true, .raw (.int .i64 (1 : Int))⟩ :: []) (tl := []) (by kernel_rfl) (by kernel_rfl) (by kernel_rfl) ?_ ?_
                · exact
                    Obls.cons (Obl.plain rfl rfl fun R' w' hw hs hd => by exact of_assign rfl) <|
                    Obls.nil
                intro R w hw hs hF'
                replace h9 : R 9 = u27 := (hs 9 rfl).trans h9
                replace h12 : R 12 = .int .i64 x65.1 := (hs 12 rfl).trans h12
                have h13 : R 13 = .int .i64 (1 : Int) := hF' 0 _ _ rfl rfl rfl
                replace hO := hO.fr hw
                replace hA := hA.fr hw.size
                replace hF := hF.trans hw
                clear hs hF' hw
                refine seqR_nil ?_
                refine HT.seq ?_
                obtain ⟨x92, q93, hr⟩ := cl_some hr
                refine HT.textR [⟨u27, S71, trR (geB w0.heap.size) (oPt 30 (oPr (oRd (eInt .i64)) (oPr (oSl 70 (oRd E_impl_TokenCount)) (oSl 55 (oPr (oRd (eInt .i64)) (oSl 9 (oRd eStr))))))) x65.2 []⟩] (⟨_, true, [0], some (.nul), false, fun A => .rep E_impl_SetIndex A x65.2⟩ :: ⟨_, true, [], none, true, fun A => .raw (.int .i64 (1 : Int))⟩ :: ⟨_, true, [], none, true, fun A => .raw (.int .i64 x92)⟩ :: ⟨_, true, [], none, true, fun A => .raw (.int .i64 x92)⟩ :: []) (by kernel_rfl) (by kernel_rfl) (Wf.mk' (by kernel_rfl) (UAll.cons ust_rep (UAll.cons ust_raw (UAll.cons ust_raw (UAll.cons ust_raw (UAll.nil))))) (by kernel_rfl) (by kernel_rfl)) hO hA ?_ ?_
                · exact
                    OblsR.cons (OblR.tookS 0 .nul _ rfl rfl rfl rfl rfl fun A' R' w' ho hd u S hok hown hav hin hop hds => by have a0 : R' 9 = u27 := (ho.old 9 rfl).trans h9; exact frz_loadT hown.2 (a0.trans (hin _ rfl).1.symm) hav Try.isAgg30 Try.sizeOf30) <|
                    OblsR.cons (OblR.plain rfl rfl rfl rfl fun A' R' w' ho hd => by have a0 : R' 13 = .int .i64 (1 : Int) := (ho.old 13 rfl).trans h13; exact of_move a0) <|
                    OblsR.cons (OblR.plain rfl rfl rfl rfl fun A' R' w' ho hd => by have a0 : Rep E_impl_SetIndex A' w' (R' 93) x65.2 := hd 0 _ _ _ rfl rfl rfl rfl rfl; have a1 : R' 94 = .int .i64 (1 : Int) := hd 1 _ _ _ rfl rfl rfl rfl rfl; exact of_call Try.call11 (M_laws_heldSetIndex_ok (q93 rfl) ho.av a0 a1)) <|
                    OblsR.cons (OblR.plain rfl rfl rfl rfl fun A' R' w' ho hd => by have a0 : R' 95 = .int .i64 x92 := hd 0 _ _ _ rfl rfl rfl rfl rfl; exact of_assign a0) <|
                    OblsR.nil
                intro done ρ σ A R w hdn hI
                replace h12 : R 12 = .int .i64 x65.1 := (hI.reg rfl).trans h12
                have h13 : R 13 = .int .i64 x92 := hI.fact hdn (i := 3) rfl rfl rfl
                replace hAA := hI.low' hAA hA0 (hO.ge (⟨fun _ h => h, trivial⟩))
                replace hF : Fr w0 w := hF.tr hI.ch (hO.ge (⟨fun _ h => h, trivial⟩))
                replace hO : IniOK [] A w := hI.left hdn [] trivial
                replace hA := hI.avok
                clear hI
                refine HT.seq ?_
                refine HT.seq ?_
                refine HT.text (l := ⟨_, true, .raw (.int .i64 x92)⟩ :: ⟨_, true, .raw (.bool (decide (x92 < (0 : Int))))⟩ :: []) (tl := []) (by kernel_rfl) (by kernel_rfl) (by kernel_rfl) ?_ ?_
                · exact
                    Obls.cons (Obl.plain rfl rfl fun R' w' hw hs hd => by have a0 : R' 13 = .int .i64 x92 := (hs 13 rfl).trans h13; exact of_move a0) <|
                    Obls.cons (Obl.plain rfl rfl fun R' w' hw hs hd => by have a0 : R' 96 = .int .i64 x92 := hd 0 _ _ _ rfl rfl rfl rfl rfl; exact of_lss a0 rfl) <|
                    Obls.nil
                intro R w hw hs hF'
                replace h12 : R 12 = .int .i64 x65.1 := (hs 12 rfl).trans h12
                replace h13 : R 13 = .int .i64 x92 := (hs 13 rfl).trans h13
                have h97 : R 97 = .bool (decide (x92 < (0 : Int))) := hF' 1 _ _ rfl rfl rfl
                replace hO := hO.fr hw
                replace hA := hA.fr hw.size
                replace hF := hF.trans hw
                clear hs hF' hw
                refine seqR_nil ?_
                refine HT.cond (decide (x92 < (0 : Int))) h97 (fun c94 => ?_) (fun c94 => ?_)
                · have hr := cnd_t c94 hr
                  refine HT.seq ?_
                  refine HT.text (l := ⟨_, true, .raw (.bool false)⟩ :: []) (tl := []) (by kernel_rfl) (by kernel_rfl) (by kernel_rfl) ?_ ?_
                  · exact
                      Obls.cons (Obl.plain rfl rfl fun R' w' hw hs hd => by exact of_assign rfl) <|
                      Obls.nil
                  intro R w hw hs hF'
                  have h4 : R 4 = .bool false := hF' 0 _ _ rfl rfl rfl
                  replace hO := hO.fr hw
                  replace hA := hA.fr hw.size
                  replace hF := hF.trans hw
                  clear hs hF' hw
                  refine seqR_nil ?_
                  refine HT.ret ?_
                  obtain rfl := Option.some.inj hr
                  exact ⟨.inr rfl, [R 4], ⟨rfl, trivial⟩, h4, hF⟩
                · have hr := cnd_f c94 hr
                  refine HT.skip ?_
                  refine HT.seq ?_
                  refine HT.seq ?_
                  refine HT.text (l := ⟨_, true, .raw (.int .i64 x92)⟩ :: ⟨_, true, .raw (.int .i64 x65.1)⟩ :: ⟨_, true, .raw (.bool (x92 != x65.1))⟩ :: []) (tl := []) (by kernel_rfl) (by kernel_rfl) (by kernel_rfl) ?_ ?_
                  · exact
                      Obls.cons (Obl.plain rfl rfl fun R' w' hw hs hd => by have a0 : R' 13 = .int .i64 x92 := (hs 13 rfl).trans h13; exact of_move a0) <|
                      Obls.cons (Obl.plain rfl rfl fun R' w' hw hs hd => by have a0 : R' 12 = .int .i64 x65.1 := (hs 12 rfl).trans h12; exact of_move a0) <|
                      Obls.cons (Obl.plain rfl rfl fun R' w' hw hs hd => by have a0 : R' 98 = .int .i64 x92 := hd 0 _ _ _ rfl rfl rfl rfl rfl; have a1 : R' 99 = .int .i64 x65.1 := hd 1 _ _ _ rfl rfl rfl rfl rfl; exact of_neq a0 a1) <|
                      Obls.nil
                  intro R w hw hs hF'
                  have h100 : R 100 = .bool (x92 != x65.1) := hF' 2 _ _ rfl rfl rfl
                  replace hO := hO.fr hw
                  replace hA := hA.fr hw.size
                  replace hF := hF.trans hw
                  clear hs hF' hw
                  refine seqR_nil ?_
                  refine HT.cond (x92 != x65.1) h100 (fun c95 => ?_) (fun c95 => ?_)
                  · have hr := cnd_t c95 hr
                    refine HT.seq ?_
                    refine HT.text (l := ⟨_, true, .raw (.bool false)⟩ :: []) (tl := []) (by kernel_rfl) (by kernel_rfl) (by kernel_rfl) ?_ ?_
                    · exact
                        Obls.cons (Obl.plain rfl rfl fun R' w' hw hs hd => by exact of_assign rfl) <|
                        Obls.nil
                    intro R w hw hs hF'
                    have h4 : R 4 = .bool false := hF' 0 _ _ rfl rfl rfl
                    replace hO := hO.fr hw
                    replace hA := hA.fr hw.size
                    replace hF := hF.trans hw
                    clear hs hF' hw
                    refine seqR_nil ?_
                    refine HT.ret ?_
                    obtain rfl := Option.some.inj hr
                    exact ⟨.inr rfl, [R 4], ⟨rfl, trivial⟩, h4, hF⟩
                  · have hr := cnd_f c95 hr
                    refine HT.skip ?_
                    refine HT.seq ?_
                    refine HT.text (l := ⟨_, true, .raw (.bool true)⟩ :: []) (tl := []) (by kernel_rfl) (by kernel_rfl) (by kernel_rfl) ?_ ?_
                    · exact
                        Obls.cons (Obl.plain rfl rfl fun R' w' hw hs hd => by exact of_assign rfl) <|
                        Obls.nil
                    intro R w hw hs hF'
                    have h4 : R 4 = .bool true := hF' 0 _ _ rfl rfl rfl
                    replace hO := hO.fr hw
                    replace hA := hA.fr hw.size
                    replace hF := hF.trans hw
                    clear hs hF' hw
                    refine seqR_nil ?_
                    refine HT.ret ?_
                    obtain rfl := Option.some.inj hr
                    exact ⟨.inr rfl, [R 4], ⟨rfl, trivial⟩, h4, hF⟩
end Go.Proofs.Ytmgiijdejigdhaa
