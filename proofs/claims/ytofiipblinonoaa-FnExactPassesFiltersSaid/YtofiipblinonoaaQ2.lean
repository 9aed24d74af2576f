/- Printed by dec.py: plain functions and the proofs that the code computes them. No statement of the seat is proved here. -/
import Derived.Test.YtofiipblinonoaaQ1
namespace Go.Proofs.Ytofiipblinonoaa
open Go.RowKit
set_option linter.unusedVariables false
set_option maxRecDepth 100000
set_option maxHeartbeats 4000000
def M_spec_LengthFilter (fu : Nat) (p0 : List UInt8) (p1 : List UInt8) (p2 : Int) : Option Bool :=
 ck (i64B ((max (p0.length : Int) (p1.length : Int)) - (min (p0.length : Int) (p1.length : Int)))) <|
 some (decide (((max (p0.length : Int) (p1.length : Int)) - (min (p0.length : Int) (p1.length : Int))) ≤ p2))
theorem M_spec_LengthFilter_ok {fu : Nat} {A : Av} {p0 : List UInt8} {p1 : List UInt8} {p2 : Int} {r : Bool} (hr : M_spec_LengthFilter fu p0 p1 p2 = some r) {w : World} {v0 : Value} {v1 : Value} {v2 : Value} (hA : AvOK A w) (h0 : Rep eStr A w v0 p0) (h1 : Rep eStr A w v1 p1) (h2 : v2 = .int .i64 p2) :
  Calls Try.prog 25 #[v0, v1, v2] w fun e w' => ∃ v, e = .returned v ∧ (v = .bool r ∧ Fr w w') := by
 unfold M_spec_LengthFilter at hr
 obtain ⟨w0, hw0⟩ : ∃ w0, w0 = w := ⟨_, rfl⟩
 have hF : Fr w0 w := hw0 ▸ Fr.refl _
 rw [show Fr w = Fr w0 from hw0 ▸ rfl]
 clear hw0
 refine calls_of_HT2 [.tmp 6] Try.func25 Try.ntmps25 (by decide) rfl rfl (Nat.le_of_ble_eq_true rfl) ?_
 intro R hR
 have f_v0 := h0
 replace h0 : R 0 = v0 := hR 0 _ rfl
 have f_v1 := h1
 replace h1 : R 1 = v1 := hR 1 _ rfl
 replace h2 : R 2 = .int .i64 p2 := (hR 2 _ rfl).trans h2
 clear hR
 refine HT.seq ?_
 refine HT.text (l := ⟨_, true, .raw (.bool false)⟩ :: []) (tl := []) (by kernel_rfl) (by kernel_rfl) (by kernel_rfl) ?_ ?_
 ·exact
   Obls.p (fun R' w' hw hs hd => of_assign rfl) <|
   Obls.nil
 intro R w hw hs hF'
 replace h0 := (hs 0 rfl).trans h0
 replace h1 := (hs 1 rfl).trans h1
 replace h2 := (hs 2 rfl).trans h2
 replace f_v0 := f_v0.fr hw
 replace f_v1 := f_v1.fr hw
 replace hA := hA.fr hw.size
 replace hF := hF.trans hw
 clear hs hF' hw
 refine seqR_nil ?_
 refine HT.seq ?_
 obtain ⟨e1, hr⟩ := ck_some hr
 refine HT.text (l := ⟨_, true, .raw v0⟩ :: ⟨_, true, .raw (.int .i64 (p0.length : Int))⟩ :: ⟨_, true, .raw v1⟩ :: ⟨_, true, .raw (.int .i64 (p1.length : Int))⟩ :: ⟨_, true, .raw (.int .i64 (max (p0.length : Int) (p1.length : Int)))⟩ :: ⟨_, true, .raw v0⟩ :: ⟨_, true, .raw (.int .i64 (p0.length : Int))⟩ :: ⟨_, true, .raw v1⟩ :: ⟨_, true, .raw (.int .i64 (p1.length : Int))⟩ :: ⟨_, true, .raw (.int .i64 (min (p0.length : Int) (p1.length : Int)))⟩ :: ⟨_, true, .raw (.int .i64 ((max (p0.length : Int) (p1.length : Int)) - (min (p0.length : Int) (p1.length : Int))))⟩ :: ⟨_, true, .raw (.int .i64 p2)⟩ :: ⟨_, true, .raw (.bool (decide (((max (p0.length : Int) (p1.length : Int)) - (min (p0.length : Int) (p1.length : Int))) ≤ p2)))⟩ :: ⟨_, true, .raw (.bool (decide (((max (p0.length : Int) (p1.length : Int)) - (min (p0.length : Int) (p1.length : Int))) ≤ p2)))⟩ :: []) (tl := []) (by kernel_rfl) (by kernel_rfl) (by kernel_rfl) ?_ ?_
 ·exact
   Obls.p (fun R' w' hw hs hd => of_move ((hs 0 rfl).trans h0)) <|
   Obls.p (fun R' w' hw hs hd => by have a0 : R' 7 = v0 := hd.g 0 rfl; have ra0 := (f_v0.fr hw).eq a0; exact of_len_str ra0 Try.underlying9) <|
   Obls.p (fun R' w' hw hs hd => of_move ((hs 1 rfl).trans h1)) <|
   Obls.p (fun R' w' hw hs hd => by have a0 : R' 9 = v1 := hd.g 0 rfl; have ra0 := (f_v1.fr hw).eq a0; exact of_len_str ra0 Try.underlying9) <|
   Obls.p (fun R' w' hw hs hd => by have a0 : R' 8 = .int .i64 (p0.length : Int) := hd.g 0 rfl; have a1 : R' 10 = .int .i64 (p1.length : Int) := hd.g 1 rfl; exact of_max2 a0 a1) <|
   Obls.p (fun R' w' hw hs hd => of_move ((hs 0 rfl).trans h0)) <|
   Obls.p (fun R' w' hw hs hd => by have a0 : R' 12 = v0 := hd.g 0 rfl; have ra0 := (f_v0.fr hw).eq a0; exact of_len_str ra0 Try.underlying9) <|
   Obls.p (fun R' w' hw hs hd => of_move ((hs 1 rfl).trans h1)) <|
   Obls.p (fun R' w' hw hs hd => by have a0 : R' 14 = v1 := hd.g 0 rfl; have ra0 := (f_v1.fr hw).eq a0; exact of_len_str ra0 Try.underlying9) <|
   Obls.p (fun R' w' hw hs hd => by have a0 : R' 13 = .int .i64 (p0.length : Int) := hd.g 0 rfl; have a1 : R' 15 = .int .i64 (p1.length : Int) := hd.g 1 rfl; exact of_min2 a0 a1) <|
   Obls.p (fun R' w' hw hs hd => by have a0 : R' 11 = .int .i64 (max (p0.length : Int) (p1.length : Int)) := hd.g 0 rfl; have a1 : R' 16 = .int .i64 (min (p0.length : Int) (p1.length : Int)) := hd.g 1 rfl; exact of_sub a0 a1 e1) <|
   Obls.p (fun R' w' hw hs hd => of_move ((hs 2 rfl).trans h2)) <|
   Obls.p (fun R' w' hw hs hd => by have a0 : R' 17 = .int .i64 ((max (p0.length : Int) (p1.length : Int)) - (min (p0.length : Int) (p1.length : Int))) := hd.g 0 rfl; have a1 : R' 18 = .int .i64 p2 := hd.g 1 rfl; exact of_leq a0 a1) <|
   Obls.p (fun R' w' hw hs hd => by have a0 : R' 19 = .bool (decide (((max (p0.length : Int) (p1.length : Int)) - (min (p0.length : Int) (p1.length : Int))) ≤ p2)) := hd.g 0 rfl; exact of_assign a0) <|
   Obls.nil
 intro R w hw hs hF'
 have h6 : R 6 = .bool (decide (((max (p0.length : Int) (p1.length : Int)) - (min (p0.length : Int) (p1.length : Int))) ≤ p2)) := hF' 13 _ _ rfl rfl rfl
 replace hA := hA.fr hw.size
 replace hF := hF.trans hw
 clear hs hF' hw
 refine seqR_nil ?_
 refine HT.ret ?_
 obtain rfl := Option.some.inj hr
 exact ⟨.inr rfl, [R 6], ⟨rfl, trivial⟩, h6, hF⟩
def M_spec_PassesFilters (fu : Nat) (p0 : List UInt8) (p1 : List UInt8) (p2 : Int) : Option Bool :=
 cl true (M_spec_LengthFilter fu p0 p1 p2) fun x1 =>
 cl (true && (x1 == true)) (M_spec_GramFilter fu p0 p1 (2 : Int) p2) fun x3 =>
 bd (x1 && x3) fun x5 =>
 cl (true && (x5 == true)) (M_spec_GramFilter fu p0 p1 (3 : Int) p2) fun x7 =>
 bd (x5 && x7) fun x9 =>
 some x9
theorem M_spec_PassesFilters_ok {fu : Nat} {A : Av} {p0 : List UInt8} {p1 : List UInt8} {p2 : Int} {r : Bool} (hr : M_spec_PassesFilters fu p0 p1 p2 = some r) {w : World} {v0 : Value} {v1 : Value} {v2 : Value} (hA : AvOK A w) (h0 : Rep eStr A w v0 p0) (h1 : Rep eStr A w v1 p1) (h2 : v2 = .int .i64 p2) :
  Calls Try.prog 20 #[v0, v1, v2] w fun e w' => ∃ v, e = .returned v ∧ (v = .bool r ∧ Fr w w') := by
 unfold M_spec_PassesFilters at hr
 obtain ⟨w0, hw0⟩ : ∃ w0, w0 = w := ⟨_, rfl⟩
 have hF : Fr w0 w := hw0 ▸ Fr.refl _
 rw [show Fr w = Fr w0 from hw0 ▸ rfl]
 clear hw0
 refine calls_of_HT2 [.tmp 6] Try.func20 Try.ntmps20 (by decide) rfl rfl (Nat.le_of_ble_eq_true rfl) ?_
 intro R hR
 have f_v0 := h0
 replace h0 : R 0 = v0 := hR 0 _ rfl
 have f_v1 := h1
 replace h1 : R 1 = v1 := hR 1 _ rfl
 replace h2 : R 2 = .int .i64 p2 := (hR 2 _ rfl).trans h2
 clear hR
 refine HT.seq ?_
 refine HT.text (l := ⟨_, true, .raw (.bool false)⟩ :: []) (tl := []) (by kernel_rfl) (by kernel_rfl) (by kernel_rfl) ?_ ?_
 ·exact
   Obls.p (fun R' w' hw hs hd => of_assign rfl) <|
   Obls.nil
 intro R w hw hs hF'
 replace h0 := (hs 0 rfl).trans h0
 replace h1 := (hs 1 rfl).trans h1
 replace h2 := (hs 2 rfl).trans h2
 replace f_v0 := f_v0.fr hw
 replace f_v1 := f_v1.fr hw
 replace hA := hA.fr hw.size
 replace hF := hF.trans hw
 clear hs hF' hw
 refine seqR_nil ?_
 refine HT.seq ?_
 obtain ⟨x1, q2, hr⟩ := cl_some hr
 obtain ⟨x3, q4, hr⟩ := cl_some hr
 obtain ⟨x5, q6, hr⟩ := bd_some hr
 obtain ⟨x7, q8, hr⟩ := cl_some hr
 obtain ⟨x9, q10, hr⟩ := bd_some hr
 refine HT.text (l := ⟨_, true, .raw v0⟩ :: ⟨_, true, .raw v1⟩ :: ⟨_, true, .raw (.int .i64 p2)⟩ :: ⟨_, true, .raw (.bool x1)⟩ :: ⟨_, true, .raw (.bool x1)⟩ :: ⟨_, (true && (x1 == true)), .raw v0⟩ :: ⟨_, (true && (x1 == true)), .raw v1⟩ :: ⟨_, (true && (x1 == true)), .raw (.int .i64 p2)⟩ :: ⟨_, (true && (x1 == true)), .raw (.bool x3)⟩ :: ⟨_, true, .raw (.bool x5)⟩ :: ⟨_, true, .raw (.bool x5)⟩ :: ⟨_, (true && (x5 == true)), .raw v0⟩ :: ⟨_, (true && (x5 == true)), .raw v1⟩ :: ⟨_, (true && (x5 == true)), .raw (.int .i64 p2)⟩ :: ⟨_, (true && (x5 == true)), .raw (.bool x7)⟩ :: ⟨_, true, .raw (.bool x9)⟩ :: ⟨_, true, .raw (.bool x9)⟩ :: []) (tl := []) (by kernel_rfl) (by kernel_rfl) (by kernel_rfl) ?_ ?_
 ·exact
   Obls.p (fun R' w' hw hs hd => of_move ((hs 0 rfl).trans h0)) <|
   Obls.p (fun R' w' hw hs hd => of_move ((hs 1 rfl).trans h1)) <|
   Obls.p (fun R' w' hw hs hd => of_move ((hs 2 rfl).trans h2)) <|
   Obls.p (fun R' w' hw hs hd => by have a0 : R' 7 = v0 := hd.g 0 rfl; have ra0 := (f_v0.fr hw).eq a0; have a1 : R' 8 = v1 := hd.g 1 rfl; have ra1 := (f_v1.fr hw).eq a1; have a2 : R' 9 = .int .i64 p2 := hd.g 2 rfl; exact of_call Try.call25 (M_spec_LengthFilter_ok (q2 rfl) (hA.fr hw.size) ra0 ra1 a2)) <|
   Obls.p (fun R' w' hw hs hd => by have a0 : R' 10 = .bool x1 := hd.g 0 rfl; exact of_move a0) <|
   Obls.cons (Obl.grd 4 true _ _ _ rfl rfl rfl rfl rfl (by kernel_rfl) fun hg R' w' hw hs hd => by have a0 : R' 0 = v0 := (hs 0 rfl).trans h0; exact of_move a0) <|
   Obls.cons (Obl.grd 4 true _ _ _ rfl rfl rfl rfl rfl (by kernel_rfl) fun hg R' w' hw hs hd => by have a0 : R' 1 = v1 := (hs 1 rfl).trans h1; exact of_move a0) <|
   Obls.cons (Obl.grd 4 true _ _ _ rfl rfl rfl rfl rfl (by kernel_rfl) fun hg R' w' hw hs hd => by have a0 : R' 2 = .int .i64 p2 := (hs 2 rfl).trans h2; exact of_move a0) <|
   Obls.cons (Obl.grd 4 true _ _ _ rfl rfl rfl rfl rfl (by kernel_rfl) fun hg R' w' hw hs hd => by have a0 : R' 12 = v0 := hd 0 _ _ _ rfl rfl rfl rfl hg; have ra0 := (f_v0.fr hw).eq a0; have a1 : R' 13 = v1 := hd 1 _ _ _ rfl rfl rfl rfl hg; have ra1 := (f_v1.fr hw).eq a1; have a3 : R' 14 = .int .i64 p2 := hd 2 _ _ _ rfl rfl rfl rfl hg; exact of_call Try.call18 (M_spec_GramFilter_ok (q4 hg) (hA.fr hw.size) ra0 ra1 rfl a3)) <|
   Obls.p (fun R' w' hw hs hd => by have a0 : R' 11 = .bool x1 := hd.g 0 rfl; exact of_pick x1 a0 (fun hc => by have a1 : R' 15 = .bool x3 := hd 1 _ _ _ rfl rfl rfl rfl (g_and rfl (beq_of hc)); show _ = Value.bool x5; rw [q6, hc]; exact a1) (fun hc => by show _ = Value.bool x5; rw [q6, hc]; exact rfl)) <|
   Obls.p (fun R' w' hw hs hd => by have a0 : R' 16 = .bool x5 := hd.g 0 rfl; exact of_move a0) <|
   Obls.cons (Obl.grd 10 true _ _ _ rfl rfl rfl rfl rfl (by kernel_rfl) fun hg R' w' hw hs hd => by have a0 : R' 0 = v0 := (hs 0 rfl).trans h0; exact of_move a0) <|
   Obls.cons (Obl.grd 10 true _ _ _ rfl rfl rfl rfl rfl (by kernel_rfl) fun hg R' w' hw hs hd => by have a0 : R' 1 = v1 := (hs 1 rfl).trans h1; exact of_move a0) <|
   Obls.cons (Obl.grd 10 true _ _ _ rfl rfl rfl rfl rfl (by kernel_rfl) fun hg R' w' hw hs hd => by have a0 : R' 2 = .int .i64 p2 := (hs 2 rfl).trans h2; exact of_move a0) <|
   Obls.cons (Obl.grd 10 true _ _ _ rfl rfl rfl rfl rfl (by kernel_rfl) fun hg R' w' hw hs hd => by have a0 : R' 18 = v0 := hd 0 _ _ _ rfl rfl rfl rfl hg; have ra0 := (f_v0.fr hw).eq a0; have a1 : R' 19 = v1 := hd 1 _ _ _ rfl rfl rfl rfl hg; have ra1 := (f_v1.fr hw).eq a1; have a3 : R' 20 = .int .i64 p2 := hd 2 _ _ _ rfl rfl rfl rfl hg; exact of_call Try.call18 (M_spec_GramFilter_ok (q8 hg) (hA.fr hw.size) ra0 ra1 rfl a3)) <|
   Obls.p (fun R' w' hw hs hd => by have a0 : R' 17 = .bool x5 := hd.g 0 rfl; exact of_pick x5 a0 (fun hc => by have a1 : R' 21 = .bool x7 := hd 1 _ _ _ rfl rfl rfl rfl (g_and rfl (beq_of hc)); show _ = Value.bool x9; rw [q10, hc]; exact a1) (fun hc => by show _ = Value.bool x9; rw [q10, hc]; exact rfl)) <|
   Obls.p (fun R' w' hw hs hd => by have a0 : R' 22 = .bool x9 := hd.g 0 rfl; exact of_assign a0) <|
   Obls.nil
 intro R w hw hs hF'
 have h6 : R 6 = .bool x9 := hF' 16 _ _ rfl rfl rfl
 replace hA := hA.fr hw.size
 replace hF := hF.trans hw
 clear hs hF' hw
 refine seqR_nil ?_
 refine HT.ret ?_
 obtain rfl := Option.some.inj hr
 exact ⟨.inr rfl, [R 6], ⟨rfl, trivial⟩, h6, hF⟩
def M_impl_LengthFilter (fu : Nat) (p0 : List UInt8) (p1 : List UInt8) (p2 : Int) : Option Bool :=
 ck (i64B ((p0.length : Int) - (p1.length : Int))) <|
 ck (i64B ((p1.length : Int) - (p0.length : Int))) <|
 some (decide ((max ((p0.length : Int) - (p1.length : Int)) ((p1.length : Int) - (p0.length : Int))) ≤ p2))
theorem M_impl_LengthFilter_ok {fu : Nat} {A : Av} {p0 : List UInt8} {p1 : List UInt8} {p2 : Int} {r : Bool} (hr : M_impl_LengthFilter fu p0 p1 p2 = some r) {w : World} {v0 : Value} {v1 : Value} {v2 : Value} (hA : AvOK A w) (h0 : Rep eStr A w v0 p0) (h1 : Rep eStr A w v1 p1) (h2 : v2 = .int .i64 p2) :
  Calls Try.prog 24 #[v0, v1, v2] w fun e w' => ∃ v, e = .returned v ∧ (v = .bool r ∧ Fr w w') := by
 unfold M_impl_LengthFilter at hr
 obtain ⟨w0, hw0⟩ : ∃ w0, w0 = w := ⟨_, rfl⟩
 have hF : Fr w0 w := hw0 ▸ Fr.refl _
 rw [show Fr w = Fr w0 from hw0 ▸ rfl]
 clear hw0
 refine calls_of_HT2 [.tmp 6] Try.func24 Try.ntmps24 (by decide) rfl rfl (Nat.le_of_ble_eq_true rfl) ?_
 intro R hR
 have f_v0 := h0
 replace h0 : R 0 = v0 := hR 0 _ rfl
 have f_v1 := h1
 replace h1 : R 1 = v1 := hR 1 _ rfl
 replace h2 : R 2 = .int .i64 p2 := (hR 2 _ rfl).trans h2
 clear hR
 refine HT.seq ?_
 refine HT.text (l := ⟨_, true, .raw (.bool false)⟩ :: []) (tl := []) (by kernel_rfl) (by kernel_rfl) (by kernel_rfl) ?_ ?_
 ·exact
   Obls.p (fun R' w' hw hs hd => of_assign rfl) <|
   Obls.nil
 intro R w hw hs hF'
 replace h0 := (hs 0 rfl).trans h0
 replace h1 := (hs 1 rfl).trans h1
 replace h2 := (hs 2 rfl).trans h2
 replace f_v0 := f_v0.fr hw
 replace f_v1 := f_v1.fr hw
 replace hA := hA.fr hw.size
 replace hF := hF.trans hw
 clear hs hF' hw
 refine seqR_nil ?_
 refine HT.seq ?_
 obtain ⟨e1, hr⟩ := ck_some hr
 obtain ⟨e2, hr⟩ := ck_some hr
 refine HT.text (l := ⟨_, true, .raw v0⟩ :: ⟨_, true, .raw (.int .i64 (p0.length : Int))⟩ :: ⟨_, true, .raw v1⟩ :: ⟨_, true, .raw (.int .i64 (p1.length : Int))⟩ :: ⟨_, true, .raw (.int .i64 ((p0.length : Int) - (p1.length : Int)))⟩ :: ⟨_, true, .raw v1⟩ :: ⟨_, true, .raw (.int .i64 (p1.length : Int))⟩ :: ⟨_, true, .raw v0⟩ :: ⟨_, true, .raw (.int .i64 (p0.length : Int))⟩ :: ⟨_, true, .raw (.int .i64 ((p1.length : Int) - (p0.length : Int)))⟩ :: ⟨_, true, .raw (.int .i64 (max ((p0.length : Int) - (p1.length : Int)) ((p1.length : Int) - (p0.length : Int))))⟩ :: ⟨_, true, .raw (.int .i64 p2)⟩ :: ⟨_, true, .raw (.bool (decide ((max ((p0.length : Int) - (p1.length : Int)) ((p1.length : Int) - (p0.length : Int))) ≤ p2)))⟩ :: ⟨_, true, .raw (.bool (decide ((max ((p0.length : Int) - (p1.length : Int)) ((p1.length : Int) - (p0.length : Int))) ≤ p2)))⟩ :: []) (tl := []) (by kernel_rfl) (by kernel_rfl) (by kernel_rfl) ?_ ?_
 ·exact
   Obls.p (fun R' w' hw hs hd => of_move ((hs 0 rfl).trans h0)) <|
   Obls.p (fun R' w' hw hs hd => by have a0 : R' 7 = v0 := hd.g 0 rfl; have ra0 := (f_v0.fr hw).eq a0; exact of_len_str ra0 Try.underlying9) <|
   Obls.p (fun R' w' hw hs hd => of_move ((hs 1 rfl).trans h1)) <|
   Obls.p (fun R' w' hw hs hd => by have a0 : R' 9 = v1 := hd.g 0 rfl; have ra0 := (f_v1.fr hw).eq a0; exact of_len_str ra0 Try.underlying9) <|
   Obls.p (fun R' w' hw hs hd => by have a0 : R' 8 = .int .i64 (p0.length : Int) := hd.g 0 rfl; have a1 : R' 10 = .int .i64 (p1.length : Int) := hd.g 1 rfl; exact of_sub a0 a1 e1) <|
   Obls.p (fun R' w' hw hs hd => of_move ((hs 1 rfl).trans h1)) <|
   Obls.p (fun R' w' hw hs hd => by have a0 : R' 12 = v1 := hd.g 0 rfl; have ra0 := (f_v1.fr hw).eq a0; exact of_len_str ra0 Try.underlying9) <|
   Obls.p (fun R' w' hw hs hd => of_move ((hs 0 rfl).trans h0)) <|
   Obls.p (fun R' w' hw hs hd => by have a0 : R' 14 = v0 := hd.g 0 rfl; have ra0 := (f_v0.fr hw).eq a0; exact of_len_str ra0 Try.underlying9) <|
   Obls.p (fun R' w' hw hs hd => by have a0 : R' 13 = .int .i64 (p1.length : Int) := hd.g 0 rfl; have a1 : R' 15 = .int .i64 (p0.length : Int) := hd.g 1 rfl; exact of_sub a0 a1 e2) <|
   Obls.p (fun R' w' hw hs hd => by have a0 : R' 11 = .int .i64 ((p0.length : Int) - (p1.length : Int)) := hd.g 0 rfl; have a1 : R' 16 = .int .i64 ((p1.length : Int) - (p0.length : Int)) := hd.g 1 rfl; exact of_max2 a0 a1) <|
   Obls.p (fun R' w' hw hs hd => of_move ((hs 2 rfl).trans h2)) <|
   Obls.p (fun R' w' hw hs hd => by have a0 : R' 17 = .int .i64 (max ((p0.length : Int) - (p1.length : Int)) ((p1.length : Int) - (p0.length : Int))) := hd.g 0 rfl; have a1 : R' 18 = .int .i64 p2 := hd.g 1 rfl; exact of_leq a0 a1) <|
   Obls.p (fun R' w' hw hs hd => by have a0 : R' 19 = .bool (decide ((max ((p0.length : Int) - (p1.length : Int)) ((p1.length : Int) - (p0.length : Int))) ≤ p2)) := hd.g 0 rfl; exact of_assign a0) <|
   Obls.nil
 intro R w hw hs hF'
 have h6 : R 6 = .bool (decide ((max ((p0.length : Int) - (p1.length : Int)) ((p1.length : Int) - (p0.length : Int))) ≤ p2)) := hF' 13 _ _ rfl rfl rfl
 replace hA := hA.fr hw.size
 replace hF := hF.trans hw
 clear hs hF' hw
 refine seqR_nil ?_
 refine HT.ret ?_
 obtain rfl := Option.some.inj hr
 exact ⟨.inr rfl, [R 6], ⟨rfl, trivial⟩, h6, hF⟩
def M_impl_PassesFilters (fu : Nat) (p0 : List UInt8) (p1 : List UInt8) (p2 : Int) : Option Bool :=
 cl true (M_impl_LengthFilter fu p0 p1 p2) fun x1 =>
 cl (true && (x1 == true)) (M_impl_GramFilter fu p0 p1 (2 : Int) p2) fun x3 =>
 bd (x1 && x3) fun x5 =>
 cl (true && (x5 == true)) (M_impl_GramFilter fu p0 p1 (3 : Int) p2) fun x7 =>
 bd (x5 && x7) fun x9 =>
 some x9
theorem M_impl_PassesFilters_ok {fu : Nat} {A : Av} {p0 : List UInt8} {p1 : List UInt8} {p2 : Int} {r : Bool} (hr : M_impl_PassesFilters fu p0 p1 p2 = some r) {w : World} {v0 : Value} {v1 : Value} {v2 : Value} (hA : AvOK A w) (h0 : Rep eStr A w v0 p0) (h1 : Rep eStr A w v1 p1) (h2 : v2 = .int .i64 p2) :
  Calls Try.prog 21 #[v0, v1, v2] w fun e w' => ∃ v, e = .returned v ∧ (v = .bool r ∧ Fr w w') := by
 unfold M_impl_PassesFilters at hr
 obtain ⟨w0, hw0⟩ : ∃ w0, w0 = w := ⟨_, rfl⟩
 have hF : Fr w0 w := hw0 ▸ Fr.refl _
 rw [show Fr w = Fr w0 from hw0 ▸ rfl]
 clear hw0
 refine calls_of_HT2 [.tmp 6] Try.func21 Try.ntmps21 (by decide) rfl rfl (Nat.le_of_ble_eq_true rfl) ?_
 intro R hR
 have f_v0 := h0
 replace h0 : R 0 = v0 := hR 0 _ rfl
 have f_v1 := h1
 replace h1 : R 1 = v1 := hR 1 _ rfl
 replace h2 : R 2 = .int .i64 p2 := (hR 2 _ rfl).trans h2
 clear hR
 refine HT.seq ?_
 refine HT.text (l := ⟨_, true, .raw (.bool false)⟩ :: []) (tl := []) (by kernel_rfl) (by kernel_rfl) (by kernel_rfl) ?_ ?_
 ·exact
   Obls.p (fun R' w' hw hs hd => of_assign rfl) <|
   Obls.nil
 intro R w hw hs hF'
 replace h0 := (hs 0 rfl).trans h0
 replace h1 := (hs 1 rfl).trans h1
 replace h2 := (hs 2 rfl).trans h2
 replace f_v0 := f_v0.fr hw
 replace f_v1 := f_v1.fr hw
 replace hA := hA.fr hw.size
 replace hF := hF.trans hw
 clear hs hF' hw
 refine seqR_nil ?_
 refine HT.seq ?_
 obtain ⟨x1, q2, hr⟩ := cl_some hr
 obtain ⟨x3, q4, hr⟩ := cl_some hr
 obtain ⟨x5, q6, hr⟩ := bd_some hr
 obtain ⟨x7, q8, hr⟩ := cl_some hr
 obtain ⟨x9, q10, hr⟩ := bd_some hr
 refine HT.text (l := ⟨_, true, .raw v0⟩ :: ⟨_, true, .raw v1⟩ :: ⟨_, true, .raw (.int .i64 p2)⟩ :: ⟨_, true, .raw (.bool x1)⟩ :: ⟨_, true, .raw (.bool x1)⟩ :: ⟨_, (true && (x1 == true)), .raw v0⟩ :: ⟨_, (true && (x1 == true)), .raw v1⟩ :: ⟨_, (true && (x1 == true)), .raw (.int .i64 p2)⟩ :: ⟨_, (true && (x1 == true)), .raw (.bool x3)⟩ :: ⟨_, true, .raw (.bool x5)⟩ :: ⟨_, true, .raw (.bool x5)⟩ :: ⟨_, (true && (x5 == true)), .raw v0⟩ :: ⟨_, (true && (x5 == true)), .raw v1⟩ :: ⟨_, (true && (x5 == true)), .raw (.int .i64 p2)⟩ :: ⟨_, (true && (x5 == true)), .raw (.bool x7)⟩ :: ⟨_, true, .raw (.bool x9)⟩ :: ⟨_, true, .raw (.bool x9)⟩ :: []) (tl := []) (by kernel_rfl) (by kernel_rfl) (by kernel_rfl) ?_ ?_
 ·exact
   Obls.p (fun R' w' hw hs hd => of_move ((hs 0 rfl).trans h0)) <|
   Obls.p (fun R' w' hw hs hd => of_move ((hs 1 rfl).trans h1)) <|
   Obls.p (fun R' w' hw hs hd => of_move ((hs 2 rfl).trans h2)) <|
   Obls.p (fun R' w' hw hs hd => by have a0 : R' 7 = v0 := hd.g 0 rfl; have ra0 := (f_v0.fr hw).eq a0; have a1 : R' 8 = v1 := hd.g 1 rfl; have ra1 := (f_v1.fr hw).eq a1; have a2 : R' 9 = .int .i64 p2 := hd.g 2 rfl; exact of_call Try.call24 (M_impl_LengthFilter_ok (q2 rfl) (hA.fr hw.size) ra0 ra1 a2)) <|
   Obls.p (fun R' w' hw hs hd => by have a0 : R' 10 = .bool x1 := hd.g 0 rfl; exact of_move a0) <|
   Obls.cons (Obl.grd 4 true _ _ _ rfl rfl rfl rfl rfl (by kernel_rfl) fun hg R' w' hw hs hd => by have a0 : R' 0 = v0 := (hs 0 rfl).trans h0; exact of_move a0) <|
   Obls.cons (Obl.grd 4 true _ _ _ rfl rfl rfl rfl rfl (by kernel_rfl) fun hg R' w' hw hs hd => by have a0 : R' 1 = v1 := (hs 1 rfl).trans h1; exact of_move a0) <|
   Obls.cons (Obl.grd 4 true _ _ _ rfl rfl rfl rfl rfl (by kernel_rfl) fun hg R' w' hw hs hd => by have a0 : R' 2 = .int .i64 p2 := (hs 2 rfl).trans h2; exact of_move a0) <|
   Obls.cons (Obl.grd 4 true _ _ _ rfl rfl rfl rfl rfl (by kernel_rfl) fun hg R' w' hw hs hd => by have a0 : R' 12 = v0 := hd 0 _ _ _ rfl rfl rfl rfl hg; have ra0 := (f_v0.fr hw).eq a0; have a1 : R' 13 = v1 := hd 1 _ _ _ rfl rfl rfl rfl hg; have ra1 := (f_v1.fr hw).eq a1; have a3 : R' 14 = .int .i64 p2 := hd 2 _ _ _ rfl rfl rfl rfl hg; exact of_call Try.call19 (M_impl_GramFilter_ok (q4 hg) (hA.fr hw.size) ra0 ra1 rfl a3)) <|
   Obls.p (fun R' w' hw hs hd => by have a0 : R' 11 = .bool x1 := hd.g 0 rfl; exact of_pick x1 a0 (fun hc => by have a1 : R' 15 = .bool x3 := hd 1 _ _ _ rfl rfl rfl rfl (g_and rfl (beq_of hc)); show _ = Value.bool x5; rw [q6, hc]; exact a1) (fun hc => by show _ = Value.bool x5; rw [q6, hc]; exact rfl)) <|
   Obls.p (fun R' w' hw hs hd => by have a0 : R' 16 = .bool x5 := hd.g 0 rfl; exact of_move a0) <|
   Obls.cons (Obl.grd 10 true _ _ _ rfl rfl rfl rfl rfl (by kernel_rfl) fun hg R' w' hw hs hd => by have a0 : R' 0 = v0 := (hs 0 rfl).trans h0; exact of_move a0) <|
   Obls.cons (Obl.grd 10 true _ _ _ rfl rfl rfl rfl rfl (by kernel_rfl) fun hg R' w' hw hs hd => by have a0 : R' 1 = v1 := (hs 1 rfl).trans h1; exact of_move a0) <|
   Obls.cons (Obl.grd 10 true _ _ _ rfl rfl rfl rfl rfl (by kernel_rfl) fun hg R' w' hw hs hd => by have a0 : R' 2 = .int .i64 p2 := (hs 2 rfl).trans h2; exact of_move a0) <|
   Obls.cons (Obl.grd 10 true _ _ _ rfl rfl rfl rfl rfl (by kernel_rfl) fun hg R' w' hw hs hd => by have a0 : R' 18 = v0 := hd 0 _ _ _ rfl rfl rfl rfl hg; have ra0 := (f_v0.fr hw).eq a0; have a1 : R' 19 = v1 := hd 1 _ _ _ rfl rfl rfl rfl hg; have ra1 := (f_v1.fr hw).eq a1; have a3 : R' 20 = .int .i64 p2 := hd 2 _ _ _ rfl rfl rfl rfl hg; exact of_call Try.call19 (M_impl_GramFilter_ok (q8 hg) (hA.fr hw.size) ra0 ra1 rfl a3)) <|
   Obls.p (fun R' w' hw hs hd => by have a0 : R' 17 = .bool x5 := hd.g 0 rfl; exact of_pick x5 a0 (fun hc => by have a1 : R' 21 = .bool x7 := hd 1 _ _ _ rfl rfl rfl rfl (g_and rfl (beq_of hc)); show _ = Value.bool x9; rw [q10, hc]; exact a1) (fun hc => by show _ = Value.bool x9; rw [q10, hc]; exact rfl)) <|
   Obls.p (fun R' w' hw hs hd => by have a0 : R' 22 = .bool x9 := hd.g 0 rfl; exact of_assign a0) <|
   Obls.nil
 intro R w hw hs hF'
 have h6 : R 6 = .bool x9 := hF' 16 _ _ rfl rfl rfl
 replace hA := hA.fr hw.size
 replace hF := hF.trans hw
 clear hs hF' hw
 refine seqR_nil ?_
 refine HT.ret ?_
 obtain rfl := Option.some.inj hr
 exact ⟨.inr rfl, [R 6], ⟨rfl, trivial⟩, h6, hF⟩
def M_laws_FnExactPassesFilters (fu : Nat) (p0 : List UInt8) (p1 : List UInt8) (p2 : Int) : Option Bool :=
 bif (decide ((1048576 : Int) < (p0.length : Int))) then (
  some true
 ) else (
  bif (decide ((1048576 : Int) < (p1.length : Int))) then (
   some true
  ) else (
   cl true (M_spec_PassesFilters fu p0 p1 p2) fun x3 =>
   cl true (M_impl_PassesFilters fu p0 p1 p2) fun x5 =>
   bif (x5 != x3) then (
    some false
   ) else (
    some true
   )
  )
 )
theorem M_laws_FnExactPassesFilters_ok {fu : Nat} {A : Av} {p0 : List UInt8} {p1 : List UInt8} {p2 : Int} {r : Bool} (hr : M_laws_FnExactPassesFilters fu p0 p1 p2 = some r) {w : World} {v0 : Value} {v1 : Value} {v2 : Value} (hA : AvOK A w) (h0 : Rep eStr A w v0 p0) (h1 : Rep eStr A w v1 p1) (h2 : v2 = .int .i64 p2) :
  Calls Try.prog 5 #[v0, v1, v2] w fun e w' => ∃ v, e = .returned v ∧ (v = .bool r ∧ Fr w w') := by
 unfold M_laws_FnExactPassesFilters at hr
 obtain ⟨w0, hw0⟩ : ∃ w0, w0 = w := ⟨_, rfl⟩
 have hF : Fr w0 w := hw0 ▸ Fr.refl _
 rw [show Fr w = Fr w0 from hw0 ▸ rfl]
 clear hw0
 refine calls_of_HT2 [.tmp 6] Try.func5 Try.ntmps5 (by decide) rfl rfl (Nat.le_of_ble_eq_true rfl) ?_
 intro R hR
 have f_v0 := h0
 replace h0 : R 0 = v0 := hR 0 _ rfl
 have f_v1 := h1
 replace h1 : R 1 = v1 := hR 1 _ rfl
 replace h2 : R 2 = .int .i64 p2 := (hR 2 _ rfl).trans h2
 clear hR
 refine HT.seq ?_
 refine HT.text (l := ⟨_, true, .raw (.bool false)⟩ :: []) (tl := []) (by kernel_rfl) (by kernel_rfl) (by kernel_rfl) ?_ ?_
 ·exact
   Obls.p (fun R' w' hw hs hd => of_assign rfl) <|
   Obls.nil
 intro R w hw hs hF'
 replace h0 := (hs 0 rfl).trans h0
 replace h1 := (hs 1 rfl).trans h1
 replace h2 := (hs 2 rfl).trans h2
 replace f_v0 := f_v0.fr hw
 replace f_v1 := f_v1.fr hw
 replace hA := hA.fr hw.size
 replace hF := hF.trans hw
 clear hs hF' hw
 refine seqR_nil ?_
 refine HT.seq ?_
 refine HT.seq ?_
 refine HT.text (l := ⟨_, true, .raw v0⟩ :: ⟨_, true, .raw (.int .i64 (p0.length : Int))⟩ :: ⟨_, true, .raw (.bool (decide ((1048576 : Int) < (p0.length : Int))))⟩ :: []) (tl := []) (by kernel_rfl) (by kernel_rfl) (by kernel_rfl) ?_ ?_
 ·exact
   Obls.p (fun R' w' hw hs hd => of_move ((hs 0 rfl).trans h0)) <|
   Obls.p (fun R' w' hw hs hd => by have a0 : R' 9 = v0 := hd.g 0 rfl; have ra0 := (f_v0.fr hw).eq a0; exact of_len_str ra0 Try.underlying9) <|
   Obls.p (fun R' w' hw hs hd => by have a0 : R' 10 = .int .i64 (p0.length : Int) := hd.g 0 rfl; exact of_gtr a0 rfl) <|
   Obls.nil
 intro R w hw hs hF'
 replace h0 := (hs 0 rfl).trans h0
 replace h1 := (hs 1 rfl).trans h1
 replace h2 := (hs 2 rfl).trans h2
 have h11 : R 11 = .bool (decide ((1048576 : Int) < (p0.length : Int))) := hF' 2 _ _ rfl rfl rfl
 replace f_v0 := f_v0.fr hw
 replace f_v1 := f_v1.fr hw
 replace hA := hA.fr hw.size
 replace hF := hF.trans hw
 clear hs hF' hw
 refine seqR_nil ?_
 refine HT.cond (decide ((1048576 : Int) < (p0.length : Int))) h11 (fun c1 => ?_) (fun c1 => ?_)
 ·have hr := cnd_t c1 hr
  refine HT.seq ?_
  refine HT.text (l := ⟨_, true, .raw (.bool true)⟩ :: []) (tl := []) (by kernel_rfl) (by kernel_rfl) (by kernel_rfl) ?_ ?_
  ·exact
    Obls.p (fun R' w' hw hs hd => of_assign rfl) <|
    Obls.nil
  intro R w hw hs hF'
  have h6 : R 6 = .bool true := hF' 0 _ _ rfl rfl rfl
  replace hA := hA.fr hw.size
  replace hF := hF.trans hw
  clear hs hF' hw
  refine seqR_nil ?_
  refine HT.ret ?_
  obtain rfl := Option.some.inj hr
  exact ⟨.inr rfl, [R 6], ⟨rfl, trivial⟩, h6, hF⟩
 ·have hr := cnd_f c1 hr
  refine HT.skip ?_
  refine HT.seq ?_
  refine HT.seq ?_
  refine HT.text (l := ⟨_, true, .raw v1⟩ :: ⟨_, true, .raw (.int .i64 (p1.length : Int))⟩ :: ⟨_, true, .raw (.bool (decide ((1048576 : Int) < (p1.length : Int))))⟩ :: []) (tl := []) (by kernel_rfl) (by kernel_rfl) (by kernel_rfl) ?_ ?_
  ·exact
    Obls.p (fun R' w' hw hs hd => of_move ((hs 1 rfl).trans h1)) <|
    Obls.p (fun R' w' hw hs hd => by have a0 : R' 12 = v1 := hd.g 0 rfl; have ra0 := (f_v1.fr hw).eq a0; exact of_len_str ra0 Try.underlying9) <|
    Obls.p (fun R' w' hw hs hd => by have a0 : R' 13 = .int .i64 (p1.length : Int) := hd.g 0 rfl; exact of_gtr a0 rfl) <|
    Obls.nil
  intro R w hw hs hF'
  replace h0 := (hs 0 rfl).trans h0
  replace h1 := (hs 1 rfl).trans h1
  replace h2 := (hs 2 rfl).trans h2
  have h14 : R 14 = .bool (decide ((1048576 : Int) < (p1.length : Int))) := hF' 2 _ _ rfl rfl rfl
  replace f_v0 := f_v0.fr hw
  replace f_v1 := f_v1.fr hw
  replace hA := hA.fr hw.size
  replace hF := hF.trans hw
  clear hs hF' hw
  refine seqR_nil ?_
  refine HT.cond (decide ((1048576 : Int) < (p1.length : Int))) h14 (fun c2 => ?_) (fun c2 => ?_)
  ·have hr := cnd_t c2 hr
   refine HT.seq ?_
   refine HT.text (l := ⟨_, true, .raw (.bool true)⟩ :: []) (tl := []) (by kernel_rfl) (by kernel_rfl) (by kernel_rfl) ?_ ?_
   ·exact
     Obls.p (fun R' w' hw hs hd => of_assign rfl) <|
     Obls.nil
   intro R w hw hs hF'
   have h6 : R 6 = .bool true := hF' 0 _ _ rfl rfl rfl
   replace hA := hA.fr hw.size
   replace hF := hF.trans hw
   clear hs hF' hw
   refine seqR_nil ?_
   refine HT.ret ?_
   obtain rfl := Option.some.inj hr
   exact ⟨.inr rfl, [R 6], ⟨rfl, trivial⟩, h6, hF⟩
  ·have hr := cnd_f c2 hr
   refine HT.skip ?_
   refine HT.seq ?_
   obtain ⟨x3, q4, hr⟩ := cl_some hr
   refine HT.text (l := ⟨_, true, .raw v0⟩ :: ⟨_, true, .raw v1⟩ :: ⟨_, true, .raw (.int .i64 p2)⟩ :: ⟨_, true, .raw (.bool x3)⟩ :: ⟨_, true, .raw (.bool x3)⟩ :: []) (tl := []) (by kernel_rfl) (by kernel_rfl) (by kernel_rfl) ?_ ?_
   ·exact
     Obls.p (fun R' w' hw hs hd => of_move ((hs 0 rfl).trans h0)) <|
     Obls.p (fun R' w' hw hs hd => of_move ((hs 1 rfl).trans h1)) <|
     Obls.p (fun R' w' hw hs hd => of_move ((hs 2 rfl).trans h2)) <|
     Obls.p (fun R' w' hw hs hd => by have a0 : R' 15 = v0 := hd.g 0 rfl; have ra0 := (f_v0.fr hw).eq a0; have a1 : R' 16 = v1 := hd.g 1 rfl; have ra1 := (f_v1.fr hw).eq a1; have a2 : R' 17 = .int .i64 p2 := hd.g 2 rfl; exact of_call Try.call20 (M_spec_PassesFilters_ok (q4 rfl) (hA.fr hw.size) ra0 ra1 a2)) <|
     Obls.p (fun R' w' hw hs hd => by have a0 : R' 18 = .bool x3 := hd.g 0 rfl; exact of_assign a0) <|
     Obls.nil
   intro R w hw hs hF'
   replace h0 := (hs 0 rfl).trans h0
   replace h1 := (hs 1 rfl).trans h1
   replace h2 := (hs 2 rfl).trans h2
   have h7 : R 7 = .bool x3 := hF' 4 _ _ rfl rfl rfl
   replace f_v0 := f_v0.fr hw
   replace f_v1 := f_v1.fr hw
   replace hA := hA.fr hw.size
   replace hF := hF.trans hw
   clear hs hF' hw
   refine seqR_nil ?_
   refine HT.seq ?_
   obtain ⟨x5, q6, hr⟩ := cl_some hr
   refine HT.text (l := ⟨_, true, .raw v0⟩ :: ⟨_, true, .raw v1⟩ :: ⟨_, true, .raw (.int .i64 p2)⟩ :: ⟨_, true, .raw (.bool x5)⟩ :: ⟨_, true, .raw (.bool x5)⟩ :: []) (tl := []) (by kernel_rfl) (by kernel_rfl) (by kernel_rfl) ?_ ?_
   ·exact
     Obls.p (fun R' w' hw hs hd => of_move ((hs 0 rfl).trans h0)) <|
     Obls.p (fun R' w' hw hs hd => of_move ((hs 1 rfl).trans h1)) <|
     Obls.p (fun R' w' hw hs hd => of_move ((hs 2 rfl).trans h2)) <|
     Obls.p (fun R' w' hw hs hd => by have a0 : R' 19 = v0 := hd.g 0 rfl; have ra0 := (f_v0.fr hw).eq a0; have a1 : R' 20 = v1 := hd.g 1 rfl; have ra1 := (f_v1.fr hw).eq a1; have a2 : R' 21 = .int .i64 p2 := hd.g 2 rfl; exact of_call Try.call21 (M_impl_PassesFilters_ok (q6 rfl) (hA.fr hw.size) ra0 ra1 a2)) <|
     Obls.p (fun R' w' hw hs hd => by have a0 : R' 22 = .bool x5 := hd.g 0 rfl; exact of_assign a0) <|
     Obls.nil
   intro R w hw hs hF'
   replace h7 := (hs 7 rfl).trans h7
   have h8 : R 8 = .bool x5 := hF' 4 _ _ rfl rfl rfl
   replace hA := hA.fr hw.size
   replace hF := hF.trans hw
   clear hs hF' hw
   refine seqR_nil ?_
   refine HT.seq ?_
   refine HT.seq ?_
   refine HT.text (l := ⟨_, true, .raw (.bool x5)⟩ :: ⟨_, true, .raw (.bool x3)⟩ :: ⟨_, true, .raw (.bool (x5 != x3))⟩ :: []) (tl := []) (by kernel_rfl) (by kernel_rfl) (by kernel_rfl) ?_ ?_
   ·exact
     Obls.p (fun R' w' hw hs hd => of_move ((hs 8 rfl).trans h8)) <|
     Obls.p (fun R' w' hw hs hd => of_move ((hs 7 rfl).trans h7)) <|
     Obls.p (fun R' w' hw hs hd => by have a0 : R' 23 = .bool x5 := hd.g 0 rfl; have a1 : R' 24 = .bool x3 := hd.g 1 rfl; exact of_bneq Try.underlying4 a0 a1) <|
     Obls.nil
   intro R w hw hs hF'
   have h25 : R 25 = .bool (x5 != x3) := hF' 2 _ _ rfl rfl rfl
   replace hA := hA.fr hw.size
   replace hF := hF.trans hw
   clear hs hF' hw
   refine seqR_nil ?_
   refine HT.cond (x5 != x3) h25 (fun c7 => ?_) (fun c7 => ?_)
   ·have hr := cnd_t c7 hr
    refine HT.seq ?_
    refine HT.text (l := ⟨_, true, .raw (.bool false)⟩ :: []) (tl := []) (by kernel_rfl) (by kernel_rfl) (by kernel_rfl) ?_ ?_
    ·exact
      Obls.p (fun R' w' hw hs hd => of_assign rfl) <|
      Obls.nil
    intro R w hw hs hF'
    have h6 : R 6 = .bool false := hF' 0 _ _ rfl rfl rfl
    replace hA := hA.fr hw.size
    replace hF := hF.trans hw
    clear hs hF' hw
    refine seqR_nil ?_
    refine HT.ret ?_
    obtain rfl := Option.some.inj hr
    exact ⟨.inr rfl, [R 6], ⟨rfl, trivial⟩, h6, hF⟩
   ·have hr := cnd_f c7 hr
    refine HT.skip ?_
    refine HT.seq ?_
    refine HT.text (l := ⟨_, true, .raw (.bool true)⟩ :: []) (tl := []) (by kernel_rfl) (by kernel_rfl) (by kernel_rfl) ?_ ?_
    ·exact
      Obls.p (fun R' w' hw hs hd => of_assign rfl) <|
      Obls.nil
    intro R w hw hs hF'
    have h6 : R 6 = .bool true := hF' 0 _ _ rfl rfl rfl
    replace hA := hA.fr hw.size
    replace hF := hF.trans hw
    clear hs hF' hw
    refine seqR_nil ?_
    refine HT.ret ?_
    obtain rfl := Option.some.inj hr
    exact ⟨.inr rfl, [R 6], ⟨rfl, trivial⟩, h6, hF⟩
end Go.Proofs.Ytofiipblinonoaa
