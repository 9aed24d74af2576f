/- The law FnExactEqualDiagrams returns true for every input and leaves what was in memory as it was. Conditions: none. -/
import Derived.Test.YtdjagnlmcponaaaFrame
import Derived.Test.YtdjagnlmcponaaaDia
import Derived.Deep.RegionHeld3
namespace Go.Proofs.Ytdjagnlmcponaaa
open Go.RowKit
namespace lawFnExactEqualDiagrams
set_option linter.unusedVariables false
theorem walk (W : World) (l0 : List Value) (x0 : (Int) × (List ((Int) × (Int) × (Int) × (Int)))) (i0 : (st2R (intR) (slR 4 (st4R (intR) (intR) (intR) (intR)))) W W.heap.size x0 l0) (l1 : List Value) (x1 : (Int) × (List ((Int) × (Int) × (Int) × (Int)))) (i1 : (st2R (intR) (slR 4 (st4R (intR) (intR) (intR) (intR)))) W W.heap.size x1 l1) :
    Calls Try.prog 13 #[.agg l0.toArray, .agg l1.toArray] W fun e w' => e = .returned (.bool true) ∧ Below W.heap.size W w' := by
  obtain ⟨v, u, rfl, h0, h1⟩ := i0
  obtain ⟨b0, zs0⟩ := x0
  have hu := h0.1
  simp only [List.cons.injEq, and_true] at hu
  subst hu
  clear h0
  obtain ⟨A0, n0, c0, rfl⟩ : ∃ A n c, u = .slice A n c := by
    obtain ⟨A, n, c, _, e, _⟩ := h1
    simp only [List.cons.injEq, and_true] at e
    exact ⟨A, n, c, e⟩
  obtain ⟨hr0, hm0⟩ := slR_dn h1
  clear h1
  unfold maxLen at hm0
  dsimp only at hr0
  have HL0 := Lib.hid hr0.dn_len
  obtain ⟨v, u, rfl, h0, h1⟩ := i1
  obtain ⟨b1, zs1⟩ := x1
  have hu := h0.1
  simp only [List.cons.injEq, and_true] at hu
  subst hu
  clear h0
  obtain ⟨A1, n1, c1, rfl⟩ : ∃ A n c, u = .slice A n c := by
    obtain ⟨A, n, c, _, e, _⟩ := h1
    simp only [List.cons.injEq, and_true] at e
    exact ⟨A, n, c, e⟩
  obtain ⟨hr1, hm1⟩ := slR_dn h1
  clear h1
  unfold maxLen at hm1
  dsimp only at hr1
  have HL1 := Lib.hid hr1.dn_len
  generalize hv : decide (b0 = b1 ∧ zs0 = zs1) = z
  have HV := Lib.hid hv
  clear hv
  have hb0 := ((Below.refl W.heap.size W).alloc (Nat.le_refl _) (.cells #[.int .i64 b0, .slice A0 n0 c0] 58))
  have hb00 := ((Below.refl (W.alloc (.cells #[.int .i64 b0, .slice A0 n0 c0] 58)).heap.size (W.alloc (.cells #[.int .i64 b0, .slice A0 n0 c0] 58))).alloc (Nat.le_refl _) (.cells #[.int .i64 b1, .slice A1 n1 c1] 58))
  have HB_0 := Lib.hid (hb0.trans (hb00.mono hb0.size))
  have r_0 := (hr0.below HB_0.out).more HB_0.out.size
  have q_0 := (hr1.below HB_0.out).more HB_0.out.size
  have K_0 := (Blk.new W 58 #[.int .i64 b0, .slice A0 n0 c0]).alloc (.cells #[.int .i64 b1, .slice A1 n1 c1] 58)
  have J_0 := Blk.new (W.alloc (.cells #[.int .i64 b0, .slice A0 n0 c0] 58)) 58 #[.int .i64 b1, .slice A1 n1 c1]
  have hK1 : (W.alloc (.cells #[.int .i64 b0, .slice A0 n0 c0] 58)).heap.size = W.heap.size + 1 := by simp
  rw [hK1] at J_0
  clear hK1 hb0 hb00 hr0 hr1
  by_cases hn0 : (1048576 : Int) < n0
  case pos =>
    go_enter Try.func13, Try.ntmps13
    go_wp2_with fail
    refine (szDiagram_any _ _ _ _ _ (by omega) (by omega) hm0 _).mono ?_
    rw [if_pos hn0]
    rintro e w1 ⟨rfl, hb1⟩
    go_wp2_with fail
    go_ret
    exact ⟨rfl, HB_0.out.trans (hb1.mono HB_0.out.size)⟩
  have hn0' : n0 ≤ 1048576 := by omega
  go_enter Try.func13, Try.ntmps13
  go_wp2_with fail
  refine (szDiagram_any _ _ _ _ _ (by omega) (by omega) hm0 _).mono ?_
  rw [if_neg (by omega)]
  rintro e w1 ⟨rfl, hb1⟩
  have r_1 := (r_0.below hb1).more hb1.size
  have q_1 := (q_0.below hb1).more hb1.size
  have K_1 := K_0.below hb1 K_0.lt
  have J_1 := J_0.below hb1 J_0.lt
  have HB_1 := Lib.hid (HB_0.out.trans (hb1.mono HB_0.out.size))
  clear r_0 q_0 K_0 J_0 HB_0 hb1
  have k0 := K_1.cell 0
  have k1 := K_1.cell 1
  simp only [List.getElem?_toArray, List.getElem?_cons_zero, List.getElem?_cons_succ] at k0 k1
  have j0 := J_1.cell 0
  have j1 := J_1.cell 1
  simp only [List.getElem?_toArray, List.getElem?_cons_zero, List.getElem?_cons_succ] at j0 j1
  by_cases hn1 : (1048576 : Int) - n0 < n1
  case pos =>
    go_wp2_with fail
    refine (szDiagram_any _ _ _ _ _ (by omega) (by omega) hm1 _).mono ?_
    rw [if_pos hn1]
    rintro e w2 ⟨rfl, hb2⟩
    go_wp2_with fail
    go_ret
    exact ⟨rfl, HB_1.out.trans (hb2.mono HB_1.out.size)⟩
  have hn1' : n1 ≤ 1048576 := by omega
  go_wp2_with fail
  refine (szDiagram_any _ _ _ _ _ (by omega) (by omega) hm1 _).mono ?_
  rw [if_neg (by omega)]
  rintro e w2 ⟨rfl, hb2⟩
  have r_2 := (r_1.below hb2).more hb2.size
  have q_2 := (q_1.below hb2).more hb2.size
  have K_2 := K_1.below hb2 K_1.lt
  have J_2 := J_1.below hb2 J_1.lt
  have HB_2 := Lib.hid (HB_1.out.trans (hb2.mono HB_1.out.size))
  clear r_1 q_1 K_1 J_1 HB_1 hb2
  clear k0 k1 j0 j1
  have k0 := K_2.cell 0
  have k1 := K_2.cell 1
  simp only [List.getElem?_toArray, List.getElem?_cons_zero, List.getElem?_cons_succ] at k0 k1
  have j0 := J_2.cell 0
  have j1 := J_2.cell 1
  simp only [List.getElem?_toArray, List.getElem?_cons_zero, List.getElem?_cons_succ] at j0 j1
  go_wp2_with fail
  go_region_held3 (fun w' => w'.cell? ⟨W.heap.size, 0, none⟩ = some (.int .i64 b0) ∧ w'.cell? ⟨W.heap.size, 1, none⟩ = some (.slice A0 n0 c0) ∧ w'.cell? ⟨W.heap.size + 1, 0, none⟩ = some (.int .i64 b1) ∧ w'.cell? ⟨W.heap.size + 1, 1, none⟩ = some (.slice A1 n1 c1))
    (first | exact ⟨k0, k1, j0, j1⟩ | exact ⟨K_3.cell 0, K_3.cell 1, J_3.cell 0, J_3.cell 1⟩ | exact ⟨K_4.cell 0, K_4.cell 1, J_4.cell 0, J_4.cell 1⟩ | exact ⟨K_5.cell 0, K_5.cell 1, J_5.cell 0, J_5.cell 1⟩)
    (first
      | (go_at_call 45; ((with_reducible refine (toDiagram_any A0 n0 c0 zs0 b0 _ r_2.drew1 hn0').mono ?_); rintro e w3 ⟨g3, rfl, B_3, hg3, hb3⟩; have r_3 := (r_2.drew1.below hb3).more hb3.size; have q_3 := (q_2.drew1.below hb3).more hb3.size; have K_3 := K_2.drew.below hb3 K_2.lt; have J_3 := J_2.drew.below hb3 J_2.lt; have HB_3 := Lib.hid (HB_2.out.drew.trans (hb3.mono HB_2.out.drew.size))))
      | (go_at_call 45; ((with_reducible refine (toDiagram_any A1 n1 c1 zs1 b1 _ q_3 hn1').mono ?_); rintro e w4 ⟨g4, rfl, D_4, hg4, hb4⟩; have r_4 := (r_3.below hb4).more hb4.size; have q_4 := (q_3.below hb4).more hb4.size; have K_4 := K_3.below hb4 K_3.lt; have J_4 := J_3.below hb4 J_3.lt; have B_4 := B_3.below hb4 B_3.lt; have HB_4 := Lib.hid (HB_3.out.trans (hb4.mono HB_3.out.size))))
      | (go_at_call 44; ((with_reducible refine (sEqualDiagrams_any _ _ _ _ _ _ _ _ _ _ _ (rd_whole B_4 (by rw [cdn_len, HL0.out]) B_4.lt) (rd_whole D_4 (by rw [cdn_len, HL1.out]) D_4.lt) hn0' hn1').mono ?_); rw [HV.out]; rintro e w5 ⟨rfl, hb5⟩; have r_5 := (r_4.below hb5).more hb5.size; have q_5 := (q_4.below hb5).more hb5.size; have K_5 := K_4.below hb5 K_4.lt; have J_5 := J_4.below hb5 J_4.lt; have B_5 := B_4.below hb5 B_4.lt; have D_5 := D_4.below hb5 D_4.lt; have HB_5 := Lib.hid (HB_4.out.trans (hb5.mono HB_4.out.size)))))
  clear r_2 q_2 K_2 J_2 HB_2 hb3 r_3 q_3 K_3 J_3 B_3 hb4 HB_3 r_4 q_4 K_4 J_4 B_4 D_4 hb5 HB_4 k0 k1 j0 j1
  have k0 := K_5.cell 0
  have k1 := K_5.cell 1
  simp only [List.getElem?_toArray, List.getElem?_cons_zero, List.getElem?_cons_succ] at k0 k1
  have j0 := J_5.cell 0
  have j1 := J_5.cell 1
  simp only [List.getElem?_toArray, List.getElem?_cons_zero, List.getElem?_cons_succ] at j0 j1
  go_wp2_with fail
  refine (toDiagram_any _ _ _ _ _ _ r_5 hn0').mono ?_
  rintro e w6 ⟨g6, rfl, X_6, hg6, hb6⟩
  have r_6 := (r_5.below hb6).more hb6.size
  have q_6 := (q_5.below hb6).more hb6.size
  have K_6 := K_5.below hb6 K_5.lt
  have J_6 := J_5.below hb6 J_5.lt
  have HB_6 := Lib.hid (HB_5.out.trans (hb6.mono HB_5.out.size))
  clear r_5 q_5 K_5 J_5 HB_5 hb6
  clear k0 k1 j0 j1
  have M_7 := Blk.new w6 63 #[.int .i64 b0, .slice (some ⟨g6, 0, none⟩) n0 n0]
  have hb7 := (Below.refl w6.heap.size w6).alloc (Nat.le_refl _) (.cells #[.int .i64 b0, .slice (some ⟨g6, 0, none⟩) n0 n0] 63)
  have r_7 := (r_6.below hb7).more hb7.size
  have q_7 := (q_6.below hb7).more hb7.size
  have K_7 := K_6.below hb7 K_6.lt
  have J_7 := J_6.below hb7 J_6.lt
  have X_7 := X_6.below hb7 X_6.lt
  have HB_7 := Lib.hid (HB_6.out.trans (hb7.mono HB_6.out.size))
  clear r_6 q_6 K_6 J_6 X_6 HB_6 hb7
  have k0 := K_7.cell 0
  have k1 := K_7.cell 1
  simp only [List.getElem?_toArray, List.getElem?_cons_zero, List.getElem?_cons_succ] at k0 k1
  have j0 := J_7.cell 0
  have j1 := J_7.cell 1
  simp only [List.getElem?_toArray, List.getElem?_cons_zero, List.getElem?_cons_succ] at j0 j1
  go_wp2_with fail
  refine (toDiagram_any _ _ _ _ _ _ q_7 hn1').mono ?_
  rintro e w8 ⟨g8, rfl, Y_8, hg8, hb8⟩
  have r_8 := (r_7.below hb8).more hb8.size
  have q_8 := (q_7.below hb8).more hb8.size
  have K_8 := K_7.below hb8 K_7.lt
  have J_8 := J_7.below hb8 J_7.lt
  have X_8 := X_7.below hb8 X_7.lt
  have M_8 := M_7.below hb8 M_7.lt
  have HB_8 := Lib.hid (HB_7.out.trans (hb8.mono HB_7.out.size))
  clear r_7 q_7 K_7 J_7 X_7 M_7 HB_7 hb8
  clear k0 k1 j0 j1
  have N_9 := Blk.new w8 63 #[.int .i64 b1, .slice (some ⟨g8, 0, none⟩) n1 n1]
  have hb9 := (Below.refl w8.heap.size w8).alloc (Nat.le_refl _) (.cells #[.int .i64 b1, .slice (some ⟨g8, 0, none⟩) n1 n1] 63)
  have r_9 := (r_8.below hb9).more hb9.size
  have q_9 := (q_8.below hb9).more hb9.size
  have K_9 := K_8.below hb9 K_8.lt
  have J_9 := J_8.below hb9 J_8.lt
  have X_9 := X_8.below hb9 X_8.lt
  have M_9 := M_8.below hb9 M_8.lt
  have Y_9 := Y_8.below hb9 Y_8.lt
  have HB_9 := Lib.hid (HB_8.out.trans (hb9.mono HB_8.out.size))
  clear r_8 q_8 K_8 J_8 X_8 M_8 Y_8 HB_8 hb9
  have m0 := M_9.cell 0
  have m1 := M_9.cell 1
  simp only [List.getElem?_toArray, List.getElem?_cons_zero, List.getElem?_cons_succ] at m0 m1
  have o0 := N_9.cell 0
  have o1 := N_9.cell 1
  simp only [List.getElem?_toArray, List.getElem?_cons_zero, List.getElem?_cons_succ] at o0 o1
  go_wp2_with fail
  refine (EqualDiagrams_any _ _ _ _ _ _ _ _ _ _ _ (rd_whole X_9 (by rw [cdn_len, HL0.out]) X_9.lt) (rd_whole Y_9 (by rw [cdn_len, HL1.out]) Y_9.lt) hn0' hn1').mono ?_
  rw [HV.out]
  rintro e w10 ⟨rfl, hb10⟩
  have r_10 := (r_9.below hb10).more hb10.size
  have q_10 := (q_9.below hb10).more hb10.size
  have K_10 := K_9.below hb10 K_9.lt
  have J_10 := J_9.below hb10 J_9.lt
  have X_10 := X_9.below hb10 X_9.lt
  have M_10 := M_9.below hb10 M_9.lt
  have Y_10 := Y_9.below hb10 Y_9.lt
  have N_10 := N_9.below hb10 N_9.lt
  have HB_10 := Lib.hid (HB_9.out.trans (hb10.mono HB_9.out.size))
  clear r_9 q_9 K_9 J_9 X_9 M_9 Y_9 N_9 HB_9 hb10
  clear m0 m1 o0 o1
  have m0 := M_10.cell 0
  have m1 := M_10.cell 1
  simp only [List.getElem?_toArray, List.getElem?_cons_zero, List.getElem?_cons_succ] at m0 m1
  have k0 := K_10.cell 0
  have k1 := K_10.cell 1
  simp only [List.getElem?_toArray, List.getElem?_cons_zero, List.getElem?_cons_succ] at k0 k1
  go_wp2_with fail
  go_region_held3 (fun w' => w'.cell? ⟨w6.heap.size, 0, none⟩ = some (.int .i64 b0) ∧ w'.cell? ⟨w6.heap.size, 1, none⟩ = some (.slice (some ⟨g6, 0, none⟩) n0 n0) ∧ w'.cell? ⟨W.heap.size, 0, none⟩ = some (.int .i64 b0) ∧ w'.cell? ⟨W.heap.size, 1, none⟩ = some (.slice A0 n0 c0))
    (first | exact ⟨m0, m1, k0, k1⟩ | exact ⟨M_11.cell 0, M_11.cell 1, K_11.cell 0, K_11.cell 1⟩ | exact ⟨M_12.cell 0, M_12.cell 1, K_12.cell 0, K_12.cell 1⟩)
    (first
      | (go_at_call 45; ((with_reducible refine (toDiagram_any A0 n0 c0 zs0 b0 _ r_10.drew1 hn0').mono ?_); rintro e w11 ⟨g11, rfl, B_11, hg11, hb11⟩; have r_11 := (r_10.drew1.below hb11).more hb11.size; have q_11 := (q_10.drew1.below hb11).more hb11.size; have K_11 := K_10.drew.below hb11 K_10.lt; have J_11 := J_10.drew.below hb11 J_10.lt; have X_11 := X_10.drew.below hb11 X_10.lt; have M_11 := M_10.drew.below hb11 M_10.lt; have Y_11 := Y_10.drew.below hb11 Y_10.lt; have N_11 := N_10.drew.below hb11 N_10.lt; have HB_11 := Lib.hid (HB_10.out.drew.trans (hb11.mono HB_10.out.drew.size))))
      | (go_at_call 47; ((with_reducible refine (eqDiagram_any _ _ _ _ _ _ _ _ _ _ _ (rd_whole X_11 (by rw [cdn_len, HL0.out]) X_11.lt) (rd_whole B_11 (by rw [cdn_len, HL0.out]) B_11.lt) hn0' hn0').mono ?_); rw [decide_eq_true ⟨rfl, rfl⟩]; rintro e w12 ⟨rfl, hb12⟩; have r_12 := (r_11.below hb12).more hb12.size; have q_12 := (q_11.below hb12).more hb12.size; have K_12 := K_11.below hb12 K_11.lt; have J_12 := J_11.below hb12 J_11.lt; have X_12 := X_11.below hb12 X_11.lt; have M_12 := M_11.below hb12 M_11.lt; have Y_12 := Y_11.below hb12 Y_11.lt; have N_12 := N_11.below hb12 N_11.lt; have B_12 := B_11.below hb12 B_11.lt; have HB_12 := Lib.hid (HB_11.out.trans (hb12.mono HB_11.out.size)))))
  clear r_10 q_10 K_10 J_10 X_10 M_10 Y_10 N_10 HB_10 hb11 r_11 q_11 K_11 J_11 X_11 M_11 Y_11 N_11 B_11 hb12 HB_11 m0 m1 k0 k1
  have m0 := N_12.cell 0
  have m1 := N_12.cell 1
  simp only [List.getElem?_toArray, List.getElem?_cons_zero, List.getElem?_cons_succ] at m0 m1
  have k0 := J_12.cell 0
  have k1 := J_12.cell 1
  simp only [List.getElem?_toArray, List.getElem?_cons_zero, List.getElem?_cons_succ] at k0 k1
  go_wp2_with fail
  go_region_held3 (fun w' => w'.cell? ⟨w8.heap.size, 0, none⟩ = some (.int .i64 b1) ∧ w'.cell? ⟨w8.heap.size, 1, none⟩ = some (.slice (some ⟨g8, 0, none⟩) n1 n1) ∧ w'.cell? ⟨W.heap.size + 1, 0, none⟩ = some (.int .i64 b1) ∧ w'.cell? ⟨W.heap.size + 1, 1, none⟩ = some (.slice A1 n1 c1))
    (first | exact ⟨m0, m1, k0, k1⟩ | exact ⟨N_13.cell 0, N_13.cell 1, J_13.cell 0, J_13.cell 1⟩ | exact ⟨N_14.cell 0, N_14.cell 1, J_14.cell 0, J_14.cell 1⟩)
    (first
      | (go_at_call 45; ((with_reducible refine (toDiagram_any A1 n1 c1 zs1 b1 _ q_12.drew1 hn1').mono ?_); rintro e w13 ⟨g13, rfl, B_13, hg13, hb13⟩; have r_13 := (r_12.drew1.below hb13).more hb13.size; have q_13 := (q_12.drew1.below hb13).more hb13.size; have K_13 := K_12.drew.below hb13 K_12.lt; have J_13 := J_12.drew.below hb13 J_12.lt; have X_13 := X_12.drew.below hb13 X_12.lt; have M_13 := M_12.drew.below hb13 M_12.lt; have Y_13 := Y_12.drew.below hb13 Y_12.lt; have N_13 := N_12.drew.below hb13 N_12.lt; have HB_13 := Lib.hid (HB_12.out.drew.trans (hb13.mono HB_12.out.drew.size))))
      | (go_at_call 47; ((with_reducible refine (eqDiagram_any _ _ _ _ _ _ _ _ _ _ _ (rd_whole Y_13 (by rw [cdn_len, HL1.out]) Y_13.lt) (rd_whole B_13 (by rw [cdn_len, HL1.out]) B_13.lt) hn1' hn1').mono ?_); rw [decide_eq_true ⟨rfl, rfl⟩]; rintro e w14 ⟨rfl, hb14⟩; have r_14 := (r_13.below hb14).more hb14.size; have q_14 := (q_13.below hb14).more hb14.size; have K_14 := K_13.below hb14 K_13.lt; have J_14 := J_13.below hb14 J_13.lt; have X_14 := X_13.below hb14 X_13.lt; have M_14 := M_13.below hb14 M_13.lt; have Y_14 := Y_13.below hb14 Y_13.lt; have N_14 := N_13.below hb14 N_13.lt; have B_14 := B_13.below hb14 B_13.lt; have HB_14 := Lib.hid (HB_13.out.trans (hb14.mono HB_13.out.size)))))
  clear r_12 q_12 K_12 J_12 X_12 M_12 Y_12 N_12 HB_12 hb13 r_13 q_13 K_13 J_13 X_13 M_13 Y_13 N_13 B_13 hb14 HB_13 m0 m1 k0 k1
  go_wp2_with fail
  go_ret
  exact ⟨rfl, HB_14.out⟩

open Go.ChangeShapes Go.WideShapes Go.ChangeAt Go.RowKit
open Go.ChangeMaps (open_string shut_string)
set_option linter.unusedVariables false

set_option maxRecDepth 100000 in
theorem lifted (os : Os) (started : os.Started) (H : Type) (enc : TypeId × Value → H) :
    ReturnsInHanded {} Try.checked os 13 .any (Rows.fnExactEqualDiagramsSpec.pre6 enc Try.prog Try.f13 Rows.fnExactEqualDiagramsRow.domain false) (Rows.fnExactEqualDiagramsSpec.post enc Try.prog Try.f13 false true false false) := by
  refine returnsInHanded_of_change (C := Try.checked) own started (by kernel_rfl) Try.func13
    (ChangeSpec.witness6 (enc := enc) (C := Try.checked) false ⟨#[], #[.agg #[.int .i64 0, .slice none 0 0], .agg #[.int .i64 0, .slice none 0 0]], []⟩ 8 (by kernel_rfl) (by kernel_rfl) (by kernel_rfl) (by kernel_rfl)) ?_
  intro W base args ds gs before hval0 hW hcnd _
  have hval : ∀ (j : Nat) t v, Try.f13.params[j]? = some t → args[j]? = some v → Value.okWide Try.prog W .any base t v := hval0
  have hW' := hW
  have hltp := fun p hp => hW.lt p hp
  obtain ⟨p, q, hA0, hV, rfl, hfz, hnd⟩ := hW
  have hA : DataW.TrodAll enc Try.prog W 0 (fun _ => true) true Try.f13.params.toList args.toList ds p := hA0
  rw [Try.params13] at hA hval
  obtain ⟨v0, vs0, d0, ds0, p0, q0, hargs, rfl, rfl, h0, r0⟩ := trodAll_cons hA
  obtain ⟨v1, vs1, d1, ds1, p1, q1, rfl, rfl, rfl, h1, r1⟩ := trodAll_cons r0
  obtain ⟨rfl, rfl, rfl⟩ := trodAll_nil r1
  obtain rfl : args = #[v0, v1] := by cases args; simp_all
  obtain ⟨rfl, rfl⟩ := trodVars_none hV
  have k0 := h0
  have lt0 : ∀ x ∈ p0, x.block < W.heap.size := by obtain ⟨m, hm⟩ := k0; exact DataW.trod_lt m _ _ _ hm
  have k1 := h1
  have lt1 : ∀ x ∈ p1, x.block < W.heap.size := by obtain ⟨m, hm⟩ := k1; exact DataW.trod_lt m _ _ _ hm
  obtain ⟨l0, x0, rfl, i0⟩ := arg_struct Try.underlying58 (opens_st2 Try.underlying58 (by kernel_rfl) (by kernel_rfl) (opens_int Try.underlying3) (opens_slice (k := 4) Try.underlying56 (by kernel_rfl) (by decide) (opens_st4 Try.underlying84 (by kernel_rfl) (by kernel_rfl) (opens_int Try.underlying3) (opens_int Try.underlying3) (opens_int Try.underlying3) (opens_int Try.underlying3)))) (hval 0 58 v0 rfl rfl) h0
  obtain ⟨l1, x1, rfl, i1⟩ := arg_struct Try.underlying58 (opens_st2 Try.underlying58 (by kernel_rfl) (by kernel_rfl) (opens_int Try.underlying3) (opens_slice (k := 4) Try.underlying56 (by kernel_rfl) (by decide) (opens_st4 Try.underlying84 (by kernel_rfl) (by kernel_rfl) (opens_int Try.underlying3) (opens_int Try.underlying3) (opens_int Try.underlying3) (opens_int Try.underlying3)))) (hval 1 58 v1 rfl rfl) h1
  clear hA0 hval0
  refine (walk W l0 x0 i0 l1 x1 i1).mono fun e W' ⟨he, bel⟩ => ?_
  subst he
  exact ⟨_, rfl, _, _, _, [], _, [], hW', trodAll_mk1 (shut_bool Try.underlying4 _), (trodAll_cons_mk (Below.trod laidOut (by kernel_rfl) (of_decide_eq_true (by kernel_rfl)) k0 bel lt0) (trodAll_cons_mk (Below.trod laidOut (by kernel_rfl) (of_decide_eq_true (by kernel_rfl)) k1 bel lt1) trodAll_mk0)), rfl, bel.frame _, fun h => by cases h⟩

theorem over : Rows.fnExactEqualDiagramsRow.holds Try.pinned (OpenSpec.ofChange Rows.fnExactEqualDiagramsSpec) :=
  OpenClaim.holds_of_wide 13 Try.f13 rfl rfl rfl rfl rfl rfl rfl ⟨rfl, rfl, rfl, rfl, rfl⟩ rfl rfl rfl rfl rfl (by kernel_rfl) Try.func13 (by kernel_rfl)
    (of_decide_eq_true (by kernel_rfl)) (by unfold Func.isWrapper; first | (rw [if_pos (by decide +kernel)]; kernel_rfl) | (rw [if_neg (by decide +kernel)]; exact ⟨rfl, rfl⟩))
    (fun os started H enc _ => lifted os started H enc)

/-- the given statement -/
theorem proved : Rows.FnExactEqualDiagramsSaid := over
end lawFnExactEqualDiagrams
end Go.Proofs.Ytdjagnlmcponaaa
