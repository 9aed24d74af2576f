/- Own texts laid together. No statement of the seat is proved here. -/
import Derived.Test.YtmkgocdgkdglnaaZx6
import Derived.Lib.SplitLaws
/- Plain: MonotoneViolation and IsMonotone, program and reference alike. No statement of the seat is proved here. -/
namespace Go.Proofs.Ytmkgocdgkdglnaa
open Go.RowKit
set_option linter.unusedVariables false
set_option linter.unusedSimpArgs false

/-! levels, the program's way -/
def thr (n : Int) (acc : List Int) (t : TTst) : List Int := bif t.1 == n then acc ++ [t.2.1] else acc
theorem thr_len (n : Int) : ∀ (ts : List TTst) (acc : List Int), (ts.foldl (thr n) acc).length ≤ acc.length + ts.length
  | [], acc => Nat.le_refl _
  | t :: ts, acc => by
    rw [List.foldl_cons, List.length_cons]
    have := thr_len n ts (thr n acc t)
    have h1 : (thr n acc t).length ≤ acc.length + 1 := by
      unfold thr
      cases t.1 == n
      · exact Nat.le_succ _
      · rw [cond_true, List.length_append]; exact Nat.le_refl _
    omega
theorem thr_mem (n : Int) : ∀ (ts : List TTst) (acc : List Int) (y : Int), y ∈ ts.foldl (thr n) acc ↔ y ∈ acc ∨ ∃ t ∈ ts, t.1 = n ∧ t.2.1 = y
  | [], acc, y => by simp
  | t :: ts, acc, y => by
    rw [List.foldl_cons, thr_mem n ts]
    have h1 : y ∈ thr n acc t ↔ y ∈ acc ∨ (t.1 = n ∧ t.2.1 = y) := by
      unfold thr
      cases e : t.1 == n
      · have : ¬ t.1 = n := by simpa using e
        simp [this]
      · have : t.1 = n := by simpa using e
        rw [cond_true, List.mem_append, List.mem_singleton]
        simp [this, eq_comm]
    rw [h1]
    constructor
    · rintro ((h | h) | ⟨s, hs, h⟩)
      · exact .inl h
      · exact .inr ⟨t, List.mem_cons_self .., h⟩
      · exact .inr ⟨s, List.mem_cons_of_mem _ hs, h⟩
    · rintro (h | ⟨s, hs, h⟩)
      · exact .inl (.inl h)
      · rcases List.mem_cons.1 hs with rfl | hs
        · exact .inl (.inr h)
        · exact .inr ⟨s, hs, h⟩
theorem lev_sort (r : LRs) (n : Int) : cmpL ((r.flatten.foldl (thr n) [0]).mergeSort fun x y => decide (x ≤ y)) = lev r n := by
  have e : (fun x y : Int => decide (x ≤ y)) = fun x y => !(iLt y x) := by
    funext x y
    exact dec_not (by omega)
  obtain ⟨h1, h2⟩ := lev_prop n r.flatten [0] (List.pairwise_singleton ..)
  rw [e]
  refine sortedS_one sto_iLt (cmpL_sorted sto_iLt (sort_sorted sto_iLt _)) h1 fun x => ?_
  rw [cmpL_mem, List.mem_mergeSort, thr_mem]
  exact (h2 x).symm
theorem gtD_setI {α : Type} [Inhabited α] {xs : List α} {i : Nat} {x : α} (h : i < xs.length) : gtD (xs.set i x) (i : Int) = x := gtD_get (List.getElem?_set_self h)
theorem thr_set {st0 : List (List Int)} {n : Nat} (hn : n < st0.length) : ∀ (ts : List TTst) (acc : List Int), ts.foldl (fun (st : List (List Int)) t => bif t.1 == (n : Int) then st.set n (gtD st (n : Int) ++ [t.2.1]) else st) (st0.set n acc) = st0.set n (ts.foldl (thr n) acc)
  | [], acc => rfl
  | t :: ts, acc => by
    rw [List.foldl_cons, List.foldl_cons]
    have : (bif t.1 == (n : Int) then (st0.set n acc).set n (gtD (st0.set n acc) (n : Int) ++ [t.2.1]) else st0.set n acc) = st0.set n (thr n acc t) := by
      unfold thr
      cases t.1 == (n : Int)
      · rfl
      · rw [cond_true, cond_true, gtD_setI hn, List.set_set]
    rw [this]
    exact thr_set hn ts _
theorem levL1_t {fu : Nat} {st0 : List (List Int)} {n : Nat} {ts : List TTst} (hn : n < 6) (h0 : st0.length = 6) (hf : 1048577 ≤ fu) (hl : ts.length ≤ 9) :
    M_impl_levelsOf_L1 fu (n : Int) ts fu (0 : Int) (st0.set n [0]) = some (st0.set n (ts.foldl (thr n) [0])) := by
  have h := loop_fold (xs := ts) (g := fun (st : List (List Int)) t => bif t.1 == (n : Int) then st.set n (gtD st (n : Int) ++ [t.2.1]) else st) (Inv := fun i st => st.length = 6 ∧ (gtD st (n : Int)).length ≤ 1 + i) (L := M_impl_levelsOf_L1 fu (n : Int) ts) (fun k i st t ht hi => by
    have hlt := at_lt ht
    rw [M_impl_levelsOf_L1, lt_t hlt, cond_true, ck_t (inR_t hlt), gtD_get ht]
    cases t.1 == (n : Int)
    · rw [cond_false, cond_false, ck_t (i64B_n (by omega)), succ_i]
    · rw [cond_true, cond_true, ck_t (inR_t (n := 6) hn), ck_t (lenOK_t (by have := hi.2; rw [List.length_singleton]; omega)), ck_t (inR_t (n := 6) hn), ck_t (i64B_n (by omega)), succ_i, set_nat]) (fun i st t ht hi => by
    cases t.1 == (n : Int)
    · exact ⟨hi.1, Nat.le_succ_of_le hi.2⟩
    · have h1 := hi.1
      have h2 := hi.2
      rw [cond_true]
      refine ⟨by rw [List.length_set]; exact h1, ?_⟩
      rw [gtD_setI (by omega), List.length_append, List.length_singleton]
      omega) (fun k st hi => by rw [M_impl_levelsOf_L1, lt_f]; rfl) (a := st0.set n [0]) ⟨by rw [List.length_set]; exact h0, by rw [gtD_setI (by omega)]; exact Nat.le_refl _⟩ (show ts.length < fu by omega)
  rw [h.1, thr_set (by omega)]
theorem levelsOf_t {fu : Nat} {r : LRs} (hf : 1048577 ≤ fu) (hn : r.length ≤ 3) (hl : ∀ l ∈ r, l.length ≤ 3) : M_impl_levelsOf fu r = some (six.map (lev r)) := by
  unfold M_impl_levelsOf
  have hfl := flat_len (n := 3) hl
  have h := loop_st (n := 6) (st := fun n => ((List.range n).map fun (j : Nat) => lev r (j : Int)) ++ List.replicate (6 - n) ([] : List Int)) (L := M_impl_levelsOf_L0 fu r) (fun k n hn6 => by
    have hlen : (((List.range n).map fun (j : Nat) => lev r (j : Int)) ++ List.replicate (6 - n) ([] : List Int)).length = 6 := by
      rw [List.length_append, List.length_map, List.length_range, List.length_replicate]
      omega
    have ht := thr_len (n : Int) r.flatten [0]
    rw [List.length_singleton] at ht
    rw [M_impl_levelsOf_L0, show decide ((n : Int) < (6 : Int)) = true from decide_eq_true (by omega), cond_true, ck_t (inR_t (n := 6) hn6), all_t hf hn hl, cl_true, set_nat, levL1_t hn6 hlen hf (by omega), cl_true, ck_t (inR_t (n := 6) hn6), gtD_setI (by omega)]
    unfold M_sortI
    rw [ck_t (lenOK_t (by omega)), cl_true, ck_t (inR_t (n := 6) hn6), set_nat, List.set_set, gtD_setI (by omega), compactI_t hf (by rw [List.length_mergeSort]; omega), cl_true, ck_t (inR_t (n := 6) hn6), ck_t (i64B_n (by omega)), set_nat, List.set_set, lev_sort, succ_i]
    congr 1
    have e6 : 6 - n = (6 - (n + 1)) + 1 := by omega
    rw [e6, List.replicate_succ, List.set_append_right _ _ (by rw [List.length_map, List.length_range]; exact Nat.le_refl _), List.length_map, List.length_range, Nat.sub_self, List.set_cons_zero, List.range_succ, List.map_append, List.append_assoc]
    rfl) (fun k => by
    rw [M_impl_levelsOf_L0]
    rfl) (show 6 < fu by omega)
  have h' : M_impl_levelsOf_L0 fu r fu (0 : Int) [[], [], [], [], [], []] = _ := h
  rw [h', cl_true]
  show some (((List.range 6).map fun (j : Nat) => lev r (j : Int)) ++ []) = _
  unfold six
  rw [List.append_nil, List.map_map]
  rfl
/-! one step up -/
theorem loop_some {α β ρ : Type} {xs : List α} {V : α → Option β} {f : β → ρ} {L : Nat → Int → Option (Ex ρ Unit)}
    (hs : ∀ k (i : Nat) x, xs[i]? = some x → L (k + 1) (i : Int) = match V x with | some v => some (.ret (f v)) | none => L k ((i + 1 : Nat) : Int)) (he : ∀ k, L (k + 1) (xs.length : Int) = some (.go ())) {fu : Nat} (hf : xs.length < fu) :
    L fu (0 : Int) = some (match xs.findSome? V with | some v => .ret (f v) | none => .go ()) := by
  have key : ∀ m i k, i + m = xs.length → m < k → L k ((i : Nat) : Int) = some (match (xs.drop i).findSome? V with | some v => .ret (f v) | none => .go ()) := by
    intro m
    induction m with
    | zero =>
      intro i k hi hk
      obtain ⟨k, rfl⟩ : ∃ q, k = q + 1 := ⟨k - 1, by omega⟩
      obtain rfl : i = xs.length := by omega
      rw [he, List.drop_length]
      rfl
    | succ m ih =>
      intro i k hi hk
      obtain ⟨k, rfl⟩ : ∃ q, k = q + 1 := ⟨k - 1, by omega⟩
      have hx := List.getElem?_eq_getElem (show i < xs.length by omega)
      rw [hs k i _ hx, drop_cons hx, List.findSome?_cons]
      cases V xs[i]
      · exact ih (i + 1) k (by omega) (by omega)
      · rfl
  have := key xs.length 0 fu (by omega) hf
  rwa [show ((0 : Nat) : Int) = 0 from rfl, List.drop_zero] at this
def ixL (l : List Int) (x : Int) : Nat := (ixI 0 (l.map fun y => x == y)).getD 0
theorem ixL_at {l : List Int} {x : Int} (h : x ∈ l) : ixI 0 (l.map fun y => x == y) = some (ixL l x) ∧ l[ixL l x]? = some x := by
  have h1 := ixI_any (l.map fun y => x == y) 0
  rw [map_any, show (l.any fun y => x == y) = true from List.any_eq_true.2 ⟨x, h, beq_self_eq_true x⟩] at h1
  unfold ixL
  cases hi : ixI 0 (l.map fun y => x == y) with
  | none => rw [hi] at h1; cases h1
  | some j =>
    refine ⟨rfl, ?_⟩
    obtain ⟨_, h3, _⟩ := ixI_some hi
    rw [Nat.sub_zero, List.getElem?_map] at h3
    show l[j]? = some x
    cases hl : l[j]? with
    | none => rw [hl] at h3; cases h3
    | some y =>
      rw [hl] at h3
      have h4 : (x == y) = true := Option.some.inj h3
      rw [eq_of_beq h4]
theorem index_t {fu : Nat} {l : List Int} {x : Int} (h : x ∈ l) (hl : l.length ≤ 1000) (hf : 1048577 ≤ fu) : M_slices_Index_int_int fu l x = some (ixL l x : Int) := by
  unfold M_slices_Index_int_int
  have h1 := loop_ix (xs := l) (p := fun y => x == y) (L := M_slices_Index_int_int_L0 fu l x) (fun k i y hy => by
    have hi := at_lt hy
    rw [M_slices_Index_int_int_L0, lt_t hi, cond_true, ck_t (inR_t hi), gtD_get hy, ck_t (i64B_n (by omega)), succ_i]) (fun k => by rw [M_slices_Index_int_int_L0, lt_f]; rfl) (show l.length < fu by omega)
  rw [h1, cl_true, (ixL_at h).1]
  rfl
def upV (r : LRs) (g : List Int) (n : Int) : List Int := g.set n.toNat (gtD (lev r n) ((ixL (lev r n) (gtD g n) : Int) + 1))
def upB (r : LRs) (g : List Int) (n : Int) : Bool := decide (ixL (lev r n) (gtD g n) + 1 < (lev r n).length) && !(holdB r (upV r g n))
def upO (r : LRs) (g : List Int) (n : Int) : Option (List Int) := bif upB r g n then some (upV r g n) else none
def rzV (r : LRs) (g : List Int) : Option (List Int) := six.findSome? (upO r g)
theorem six_at {i : Nat} {n : Int} (h : six[i]? = some n) : i < 6 ∧ n = (i : Int) := by
  have hi : i < 6 := by have := at_lt h; simpa [six] using this
  unfold six at h
  rw [List.getElem?_map, List.getElem?_range hi] at h
  exact ⟨hi, (Option.some.inj h).symm⟩
theorem raised_t {fu : Nat} {r : LRs} {g : List Int} (hf : 1048577 ≤ fu) (hr : RsOK r) (hlv : ∀ n, (lev r n).length ≤ 10) (hg : g.length = 6) (hm : ∀ i : Nat, i < 6 → gtD g (i : Int) ∈ lev r (i : Int)) :
    M_impl_raised fu r (six.map (lev r)) g = some (match rzV r g with | some u => (u, true) | none => ([], false)) := by
  unfold M_impl_raised rzV
  have h := loop_some (xs := six) (V := upO r g) (f := fun u => (u, true)) (L := M_impl_raised_L0 fu r (six.map (lev r)) g) (fun k i n hn => by
    obtain ⟨hi, rfl⟩ := six_at hn
    have hmi := hm i hi
    have hl := hlv (i : Int)
    have e1 : gtD (six.map (lev r)) (i : Int) = lev r (i : Int) := by
      refine gtD_get ?_
      rw [List.getElem?_map, hn]
      rfl
    have hj := at_lt (ixL_at hmi).2
    rw [M_impl_raised_L0, hg, show decide ((i : Int) < ((6 : Nat) : Int)) = true from decide_eq_true (by omega), cond_true, ck_t (inR_t (n := 6) hi), ck_t (inR_t (n := 6) hi), e1, index_t hmi (by omega) hf, cl_true, ck_t (i64B_n (by omega)), ck_t (inR_t (n := 6) hi)]
    unfold upO upB upV
    by_cases hlast : ixL (lev r (i : Int)) (gtD g (i : Int)) + 1 = (lev r (i : Int)).length
    · rw [show (((ixL (lev r (i : Int)) (gtD g (i : Int)) : Int) + 1) == ((lev r (i : Int)).length : Int)) = true from beq_of_eq (by omega), cond_true, ck_t (i64B_n (by omega)), succ_i, decide_eq_false (by omega), Bool.false_and, cond_false]
    · rw [show (((ixL (lev r (i : Int)) (gtD g (i : Int)) : Int) + 1) == ((lev r (i : Int)).length : Int)) = false from beq_false_of_ne (by omega), cond_false]
      unfold M_slices_Clone_int_int
      rw [ck_t (lenOK_t (by rw [List.length_nil]; omega)), cl_true, List.nil_append, ck_t (inR_t (n := 6) hi), ck_t (inR_i (by omega) (by omega)), hg, ck_t (inR_t (n := 6) hi), implHold_t (by rw [List.length_set]; omega) hr hf, cl_true, decide_eq_true (show ixL (lev r (i : Int)) (gtD g (i : Int)) + 1 < (lev r (i : Int)).length by omega), Bool.true_and]
      cases holdB r (g.set (i : Int).toNat (gtD (lev r (i : Int)) ((ixL (lev r (i : Int)) (gtD g (i : Int)) : Int) + 1)))
      · rfl
      · rw [Bool.not_true, cond_false, cond_false, ck_t (i64B_n (by omega)), succ_i]) (fun k => by
    rw [M_impl_raised_L0, hg]
    rfl) (show six.length < fu by have : six.length = 6 := rfl; omega)
  rw [h, cl_true]
  cases six.findSome? (upO r g) <;> rfl
/-! the reference -/
theorem foldl_app2 {α β : Type} {f : α → β} : ∀ (l : List α) (a : List β), l.foldl (fun a t => a ++ [f t]) a = a ++ l.map f
  | [], a => by simp
  | x :: l, a => by rw [List.foldl_cons, foldl_app2 l, List.map_cons, List.append_assoc]; rfl
theorem foldl_fm2 {α β : Type} {f : α → List β} : ∀ (l : List α) (a : List β), l.foldl (fun a t => a ++ f t) a = a ++ l.flatMap f
  | [], a => by simp
  | x :: l, a => by rw [List.foldl_cons, foldl_fm2 l, List.flatMap_cons, List.append_assoc]
theorem gr_len {r : LRs} (hlv : ∀ n, (lev r n).length ≤ 10) : ∀ n, (gr r n).length ≤ 10 ^ n
  | 0 => Nat.le_refl _
  | n + 1 => by
    have ih := gr_len hlv n
    have key : ∀ (l : List (List Int)), (l.flatMap fun p => (lev r (n : Int)).map fun x => p ++ [x]).length ≤ 10 * l.length := by
      intro l
      induction l with
      | nil => exact Nat.le_refl _
      | cons p l ih2 =>
        have := hlv (n : Int)
        rw [List.flatMap_cons, List.length_append, List.length_map, List.length_cons]
        omega
    have := key (gr r n)
    rw [gr, Nat.pow_succ]
    omega
theorem gr_mem {r : LRs} : ∀ (n : Nat) (p : List Int), p ∈ gr r n → p.length = n ∧ ∀ i : Nat, i < n → gtD p (i : Int) ∈ lev r (i : Int)
  | 0, p, h => by
    rw [gr, List.mem_singleton] at h
    subst h
    exact ⟨rfl, fun i hi => by omega⟩
  | n + 1, p, h => by
    rw [gr, List.mem_flatMap] at h
    obtain ⟨q, hq, h⟩ := h
    obtain ⟨x, hx, rfl⟩ := List.mem_map.1 h
    obtain ⟨h1, h2⟩ := gr_mem n q hq
    refine ⟨by rw [List.length_append, List.length_singleton, h1], fun i hi => ?_⟩
    by_cases hl : i = n
    · subst hl
      have e : (q ++ [x])[i]? = some x := by rw [List.getElem?_append_right (by omega), h1, Nat.sub_self]; rfl
      rw [gtD_get e]
      exact hx
    · have := h2 i (by omega)
      have hq' := List.getElem?_eq_getElem (show i < q.length by omega)
      have e : (q ++ [x])[i]? = some q[i] := by rw [List.getElem?_append_left (by omega)]; exact hq'
      rw [gtD_get e]
      rwa [gtD_get hq'] at this
theorem grid2_t {fu : Nat} {out acc : List (List Int)} {ls p : List Int} {i : Nat} (hf : 1048577 ≤ fu) (hp : out[i]? = some p) (hpl : p.length ≤ 6) (hl : ls.length ≤ 10) (ha : acc.length ≤ 10000000) :
    M_spec_l14Grid_L2 fu out ls (i : Int) fu (0 : Int) acc = some (acc ++ ls.map fun x => p ++ [x]) := by
  have h := loop_fold (xs := ls) (g := fun (a : List (List Int)) x => a ++ [p ++ [x]]) (Inv := fun j a => a.length ≤ 10000000 + j) (L := M_spec_l14Grid_L2 fu out ls (i : Int)) (fun k j a x hx hi => by
    have hlt := at_lt hx
    rw [M_spec_l14Grid_L2, lt_t hlt, cond_true, ck_t (inR_t (at_lt hp)), gtD_get hp, ck_t (lenOK_t (by rw [List.length_nil]; omega)), ck_t (inR_t hlt), gtD_get hx, List.nil_append, ck_t (lenOK_t (by rw [List.length_singleton]; omega)), ck_t (lenOK_t (by rw [List.length_singleton]; omega)), ck_t (i64B_n (by omega)), succ_i]) (fun j a x hx hi => by
    rw [List.length_append, List.length_singleton]
    omega) (fun k a hi => by rw [M_spec_l14Grid_L2, lt_f]; rfl) (a := acc) (by omega) (show ls.length < fu by omega)
  rw [h.1, foldl_app2]
theorem grid1_t {fu : Nat} {out : List (List Int)} {ls : List Int} (hf : 1048577 ≤ fu) (hp : ∀ p ∈ out, p.length ≤ 6) (ho : out.length ≤ 1000000) (hl : ls.length ≤ 10) :
    M_spec_l14Grid_L1 fu out ls fu (0 : Int) [] = some (out.flatMap fun p => ls.map fun x => p ++ [x]) := by
  have h := loop_fold (xs := out) (g := fun (a : List (List Int)) p => a ++ ls.map fun x => p ++ [x]) (Inv := fun j a => a.length ≤ 10 * j) (L := M_spec_l14Grid_L1 fu out ls) (fun k j a p hx hi => by
    have hlt := at_lt hx
    rw [M_spec_l14Grid_L1, lt_t hlt, cond_true, grid2_t hf hx (hp p (at_mem hx)) hl (by omega), cl_true, ck_t (i64B_n (by omega)), succ_i]) (fun j a p hx hi => by
    rw [List.length_append, List.length_map]
    omega) (fun k a hi => by rw [M_spec_l14Grid_L1, lt_f]; rfl) (a := []) (Nat.le_refl _) (show out.length < fu by omega)
  rw [h.1, foldl_fm2, List.nil_append]
theorem grid_t {fu : Nat} {r : LRs} (hf : 1048577 ≤ fu) (hn : r.length ≤ 3) (hl : ∀ l ∈ r, l.length ≤ 3) (hlv : ∀ n, (lev r n).length ≤ 10) : M_spec_l14Grid fu r = some (gr r 6) := by
  unfold M_spec_l14Grid
  have h := loop_st (n := 6) (st := gr r) (L := M_spec_l14Grid_L0 fu r) (fun k n hn6 => by
    have hle : (gr r n).length ≤ 1000000 := Nat.le_trans (gr_len hlv n) (Nat.le_trans (Nat.pow_le_pow_right (by omega) (show n ≤ 6 by omega)) (by decide))
    rw [M_spec_l14Grid_L0, show decide ((n : Int) < (6 : Int)) = true from decide_eq_true (by omega), cond_true, levels_t hf hn hl, cl_true, grid1_t hf (fun p hp => by have := (gr_mem n p hp).1; omega) hle (hlv _), cl_true, ck_t (i64B_n (by omega)), succ_i]
    rfl) (fun k => by
    rw [M_spec_l14Grid_L0]
    rfl) (show 6 < fu by omega)
  have h' : M_spec_l14Grid_L0 fu r fu (0 : Int) [[]] = _ := h
  rw [h', cl_true]
theorem nodup_at {l : List Int} (h : SortedS iLt l) {i j : Nat} {x : Int} (hi : l[i]? = some x) (hj : l[j]? = some x) : i = j := by
  have hn := SortedS.nodup sto_iLt h
  obtain ⟨h1, e1⟩ := List.getElem?_eq_some_iff.1 hi
  obtain ⟨h2, e2⟩ := List.getElem?_eq_some_iff.1 hj
  have hp := List.pairwise_iff_getElem.1 hn
  rcases Nat.lt_trichotomy i j with h | h | h
  · exact absurd (e1.trans e2.symm) (hp i j h1 h2 h)
  · exact h
  · exact absurd (e2.trans e1.symm) (hp j i h2 h1 h)
theorem findB_noneB {P : Nat → Bool} : ∀ {m i : Nat}, findB P i m = none → ∀ j, i ≤ j → j < i + m → P j = false
  | 0, i, h, j, h1, h2 => by omega
  | m + 1, i, h, j, h1, h2 => by
    unfold findB at h
    cases hp : P i
    · rw [hp] at h
      rcases Nat.lt_or_ge i j with hlt | hge
      · exact findB_noneB (m := m) h j (by omega) (by omega)
      · obtain rfl : j = i := by omega
        exact hp
    · rw [hp] at h
      cases h
theorem viol2_t {fu : Nat} {r : LRs} {out : List (List Int)} {g : List Int} {i n : Nat} (hf : 1048577 ≤ fu) (hr : RsOK r) (hlv : ∀ n, (lev r n).length ≤ 10) (hso : ∀ n, SortedS iLt (lev r n)) (hg : out[i]? = some g) (hgl : g.length = 6) (hn : n < 6) (hm : gtD g (n : Int) ∈ lev r (n : Int)) :
    M_spec_MonotoneViolation_L2 fu r out (i : Int) (n : Int) (lev r (n : Int)) fu (0 : Int) = some (match upO r g (n : Int) with | some u => .ret (g, u, true) | none => .go ()) := by
  have hl := hlv (n : Int)
  obtain ⟨_, hj⟩ := ixL_at hm
  have hjl := at_lt hj
  generalize hJ : ixL (lev r (n : Int)) (gtD g (n : Int)) = J at hj hjl
  generalize hls : lev r (n : Int) = ls at *
  have hsl : SortedS iLt ls := hls ▸ hso (n : Int)
  have h := loop_find (n := ls.length - 1) (P := fun k => (gtD ls (k : Int) == gtD g (n : Int)) && !(holdB r (g.set n (gtD ls ((k : Int) + 1))))) (ret := fun k => (g, g.set n (gtD ls ((k : Int) + 1)), true)) (L := M_spec_MonotoneViolation_L2 fu r out (i : Int) (n : Int) ls) (fun k j hjl => by
    rw [M_spec_MonotoneViolation_L2, ck_t (i64B_n (by omega)), show decide ((j : Int) + 1 < (ls.length : Int)) = true from decide_eq_true (by omega), cond_true, ck_t (inR_t (by omega)), ck_t (inR_t (at_lt hg)), gtD_get hg, hgl, ck_t (inR_t (n := 6) hn)]
    show (bif !(gtD ls (j : Int) == gtD g (n : Int)) then _ else _) = _
    cases gtD ls (j : Int) == gtD g (n : Int)
    · rw [Bool.not_false, cond_true, Bool.false_and, cond_false, ck_t (i64B_n (by omega)), succ_i]
    · rw [Bool.not_true, cond_false, Bool.true_and, ck_t (inR_t (at_lt hg)), ck_t (lenOK_t (by rw [List.length_nil]; omega)), ck_t (i64B_n (by omega)), ck_t (inR_i (by omega) (by omega)), List.nil_append, hgl, ck_t (inR_t (n := 6) hn), set_nat, specHold_t (by rw [List.length_set]; omega) hr hf, cl_true, ck_t (inR_t (at_lt hg)), ck_t (i64B_n (by omega)), succ_i]) (fun k => by
    rw [M_spec_MonotoneViolation_L2, ck_t (i64B_n (by omega)), decide_eq_false (by omega)]
    rfl) (ls.length - 1) 0 fu (by omega) (by omega)
  rw [show ((0 : Nat) : Int) = 0 from rfl] at h
  rw [h]
  congr 1
  have hJ' : ((J : Int) + 1) = ((J : Int) + 1) := rfl
  have e1 : upV r g (n : Int) = g.set n (gtD ls ((J : Int) + 1)) := by unfold upV; rw [hls, hJ, Int.toNat_natCast]
  have e2 : upB r g (n : Int) = (decide (J + 1 < ls.length) && !(holdB r (g.set n (gtD ls ((J : Int) + 1))))) := by unfold upB; rw [e1, hls, hJ]
  unfold upO
  rw [e1, e2]
  have huniq : ∀ k : Nat, k < ls.length → (gtD ls (k : Int) == gtD g (n : Int)) = true → k = J := fun k hk he => by
    have h1 := List.getElem?_eq_getElem hk
    rw [gtD_get h1] at he
    rw [eq_of_beq he] at h1
    exact nodup_at hsl h1 hj
  have hJt : (gtD ls (J : Int) == gtD g (n : Int)) = true := by rw [gtD_get hj]; exact beq_self_eq_true _
  cases hfb : findB (fun k => (gtD ls (k : Int) == gtD g (n : Int)) && !(holdB r (g.set n (gtD ls ((k : Int) + 1))))) 0 (ls.length - 1) with
  | some k =>
    obtain ⟨_, hk, hP⟩ := findB_lt hfb
    rw [Bool.and_eq_true] at hP
    obtain rfl := huniq k (by omega) hP.1
    rw [decide_eq_true (show k + 1 < ls.length by omega), hP.2]
    rfl
  | none =>
    have hno := findB_noneB hfb
    by_cases hlast : J + 1 < ls.length
    · have := hno J (by omega) (by omega)
      rw [hJt, Bool.true_and] at this
      rw [this, Bool.and_false]
      rfl
    · rw [decide_eq_false hlast]
      rfl
def vio (r : LRs) : VF := fun g => bif holdB r g then (rzV r g).map fun u => (g, u) else none
def mvV (r : LRs) : List Int × List Int × Bool := bif rsB r then (match (gr r 6).findSome? (vio r) with | some x => (x.1, x.2, true) | none => ([], [], false)) else ([], [], false)
theorem lev_len {r : LRs} (h1 : r.length ≤ 3) (h2 : ∀ l ∈ r, l.length ≤ 3) (n : Int) : (lev r n).length ≤ 10 := by
  have hfl := flat_len (n := 3) h2
  have := levs_len n r.flatten [0]
  unfold lev
  simp only [List.length_singleton] at this
  omega
theorem specMv_t {fu : Nat} {r : LRs} (hf : 1048577 ≤ fu) (hr : RsOK r) : M_spec_MonotoneViolation fu r = some (mvV r) := by
  unfold M_spec_MonotoneViolation mvV
  rw [specRs_t hf hr, cl_true]
  cases hv : rsB r
  · rfl
  · obtain ⟨h1, h2⟩ := rsB_len hv
    have h3 : ∀ l ∈ r, l.length ≤ 3 := fun l hl => (h2 l hl).1
    have hlv := lev_len h1 h3
    have hso : ∀ n, SortedS iLt (lev r n) := fun n => (lev_prop n r.flatten [0] (List.pairwise_singleton ..)).1
    have hle : (gr r 6).length ≤ 1000000 := gr_len hlv 6
    rw [Bool.not_true, cond_false, grid_t hf h1 h3 hlv, cl_true, cond_true]
    have h := loop_some (xs := gr r 6) (V := vio r) (f := fun x => (x.1, x.2, true)) (L := M_spec_MonotoneViolation_L0 fu r (gr r 6)) (fun k i g hg => by
      obtain ⟨hgl, hgm⟩ := gr_mem 6 g (at_mem hg)
      have hi := at_lt hg
      rw [M_spec_MonotoneViolation_L0, lt_t hi, cond_true, ck_t (inR_t hi), gtD_get hg, specHold_t (by omega) hr hf, cl_true]
      unfold vio
      cases holdB r g
      · rw [Bool.not_false, cond_true, ck_t (i64B_n (by omega)), succ_i]
        rfl
      · rw [Bool.not_true, cond_false, cond_true]
        have hL := loop_some (xs := six) (V := upO r g) (f := fun u => (g, u, true)) (L := M_spec_MonotoneViolation_L1 fu r (gr r 6) (i : Int)) (fun k n y hy => by
          obtain ⟨hn, rfl⟩ := six_at hy
          rw [M_spec_MonotoneViolation_L1, show decide ((n : Int) < (6 : Int)) = true from decide_eq_true (by omega), cond_true, levels_t hf h1 h3, cl_true, viol2_t hf hr hlv hso hg hgl hn (hgm n hn), cl_true]
          cases upO r g (n : Int)
          · show exM (.go ()) _ _ = _
            rw [exM_go', ck_t (i64B_n (by omega)), succ_i]
          · rfl) (fun k => by
          rw [M_spec_MonotoneViolation_L1]
          rfl) (show six.length < fu by have : six.length = 6 := rfl; omega)
        rw [hL, cl_true]
        unfold rzV
        cases six.findSome? (upO r g)
        · show exM (.go ()) _ _ = _
          rw [exM_go', ck_t (i64B_n (by omega)), succ_i]
          rfl
        · rfl) (fun k => by rw [M_spec_MonotoneViolation_L0, lt_f]; rfl) (show (gr r 6).length < fu by omega)
    rw [h, cl_true]
    cases (gr r 6).findSome? (vio r) <;> rfl
theorem implMv_t {fu : Nat} {r : LRs} (hf : 1048577 ≤ fu) (hr : RsOK r) : M_impl_MonotoneViolation fu r = some (mvV r) := by
  unfold M_impl_MonotoneViolation mvV
  rw [implRs_t hf hr, cl_true]
  cases hv : rsB r
  · rfl
  · obtain ⟨h1, h2⟩ := rsB_len hv
    have h3 : ∀ l ∈ r, l.length ≤ 3 := fun l hl => (h2 l hl).1
    have hlv := lev_len h1 h3
    rw [cond_true, levelsOf_t hf h1 h3, cl_true, cond_true]
    have h := fnd_from (V := vio r) (fu := fu) hlv hf (fun g nx hg hgm => by
      rw [implHold_t (by omega) hr hf, cl_true]
      unfold vio
      cases holdB r g
      · exact ⟨nx, rfl, fun a u h => by cases h⟩
      · rw [cond_true, cond_true, raised_t hf hr hlv hg hgm, cl_true]
        cases rzV r g with
        | none => exact ⟨[], rfl, fun a u h => by cases h⟩
        | some u => exact ⟨u, rfl, fun a v h => by injection h with h; injection h⟩) (fun g a u h => by
      unfold vio at h
      cases hb : holdB r g
      · rw [hb] at h; cases h
      · rw [hb, cond_true] at h
        cases hz : rzV r g with
        | none => rw [hz] at h; cases h
        | some v =>
          rw [hz] at h
          injection h with h
          injection h with h
          exact h.symm) 6 fu [0, 0, 0, 0, 0, 0] [] (Nat.le_refl _) (by omega) rfl (fun i hi => by omega)
    obtain ⟨g', nx', k1, k2, k3, k4⟩ := h.r
    have e0 : ((tl r 6).findSome? fun t => vio r (([0, 0, 0, 0, 0, 0] : List Int).take (6 - 6) ++ t)) = (gr r 6).findSome? (vio r) := by rw [gr_six]; rfl
    rw [e0] at k1 k3
    have k1' : mvFrom fu r (six.map (lev r)) fu (0 : Int) [0, 0, 0, 0, 0, 0] [] = _ := k1
    rw [k1', cl_true]
    cases hs : (gr r 6).findSome? (vio r) with
    | none => rfl
    | some x =>
      obtain ⟨rfl, rfl⟩ := k3 x.1 x.2 hs
      rfl
theorem implIs_t {fu : Nat} {r : LRs} (hf : 1048577 ≤ fu) (hr : RsOK r) : M_impl_IsMonotone fu r = some (rsB r && !(mvV r).2.2) := by
  unfold M_impl_IsMonotone
  simp only [implMv_t hf hr, implRs_t hf hr, cl_true, bd_eq]
theorem mv_len {r : LRs} : (mvV r).1.length ≤ 6 ∧ (mvV r).2.1.length ≤ 6 := by
  unfold mvV
  cases rsB r
  · exact ⟨Nat.zero_le _, Nat.zero_le _⟩
  · rw [cond_true]
    cases hs : (gr r 6).findSome? (vio r) with
    | none => exact ⟨Nat.zero_le _, Nat.zero_le _⟩
    | some x =>
      obtain ⟨g, hg, hx⟩ := List.exists_of_findSome?_eq_some hs
      have hl := (gr_mem 6 g hg).1
      unfold vio at hx
      cases hb : holdB r g
      · rw [hb] at hx; cases hx
      · rw [hb, cond_true] at hx
        unfold rzV at hx
        cases hz : six.findSome? (upO r g) with
        | none => rw [hz] at hx; cases hx
        | some u =>
          rw [hz] at hx
          injection hx with hx
          subst hx
          obtain ⟨n, _, hu⟩ := List.exists_of_findSome?_eq_some hz
          unfold upO at hu
          cases hB : upB r g n
          · rw [hB] at hu; cases hu
          · rw [hB] at hu
            injection hu with hu
            subst hu
            refine ⟨Nat.le_of_eq hl, ?_⟩
            unfold upV
            rw [List.length_set]
            exact Nat.le_of_eq hl
end Go.Proofs.Ytmkgocdgkdglnaa
/- Plain: numbers in decimal, the features' names, program and reference alike. No statement of the seat is proved here. -/
namespace Go.Proofs.Ytmkgocdgkdglnaa
open Go.RowKit
set_option linter.unusedVariables false
set_option linter.unusedSimpArgs false

theorem dig_t : ∀ d : Nat, d < 10 → strB [IntKind.u8.wrap ((48 : Int) + (d : Int))] = [UInt8.ofNat (48 + d)] := by
  intro d hd
  have : ∀ d : Fin 10, strB [IntKind.u8.wrap ((48 : Int) + ((d.val : Nat) : Int))] = [UInt8.ofNat (48 + d.val)] := by decide
  exact this ⟨d, hd⟩
theorem tmod_abs (n : Int) : (if n.tmod 10 < 0 then 0 - n.tmod 10 else n.tmod 10) = ((n.natAbs % 10 : Nat) : Int) ∧ (n.tdiv 10).natAbs = n.natAbs / 10 := by
  cases n with
  | ofNat u =>
    have h1 : (Int.ofNat u).tmod 10 = ((u % 10 : Nat) : Int) := rfl
    have h2 : (Int.ofNat u).tdiv 10 = ((u / 10 : Nat) : Int) := rfl
    rw [h1, h2]
    refine ⟨?_, ?_⟩
    · rw [if_neg (by omega)]; rfl
    · rw [Int.natAbs_natCast]; rfl
  | negSucc u =>
    have h1 : (Int.negSucc u).tmod 10 = -(((u + 1) % 10 : Nat) : Int) := rfl
    have h2 : (Int.negSucc u).tdiv 10 = -(((u + 1) / 10 : Nat) : Int) := rfl
    rw [h1, h2, show (Int.negSucc u).natAbs = u + 1 from rfl]
    refine ⟨?_, ?_⟩
    · split <;> omega
    · rw [Int.natAbs_neg, Int.natAbs_natCast]
def decT (u : Nat) : List UInt8 := if u = 0 then [] else Lib.decDigits u
theorem decT_step (u : Nat) (h : u ≠ 0) : decT u = decT (u / 10) ++ [UInt8.ofNat (48 + u % 10)] := by
  unfold decT
  rw [if_neg h, Lib.decDigits]
  by_cases h10 : u < 10
  · rw [dif_pos h10, if_pos (by omega), List.nil_append, Nat.mod_eq_of_lt h10]
  · rw [dif_neg h10, if_neg (by omega)]
theorem decT_len (k u : Nat) (h : u < 10 ^ (k + 1)) : (decT u).length ≤ k + 1 := by
  unfold decT
  split
  · simp
  · exact decDigits_le k u h
theorem spec_digits {fu : Nat} : ∀ (k : Nat) (n : Int) (acc : List UInt8), n.natAbs < 10 ^ k → n.natAbs ≤ 9223372036854775808 → acc.length + k ≤ 1000 → ∀ q, k < q → M_spec_FormatInt_L0 fu q n acc = some (decT n.natAbs ++ acc)
  | 0, n, acc, h, hn, hl, q, hq => by
    obtain ⟨q, rfl⟩ : ∃ z, q = z + 1 := ⟨q - 1, by omega⟩
    have : n = 0 := by rw [Nat.pow_zero] at h; omega
    subst this
    rw [M_spec_FormatInt_L0]
    rfl
  | k + 1, n, acc, h, hn, hl, q, hq => by
    obtain ⟨q, rfl⟩ : ∃ z, q = z + 1 := ⟨q - 1, by omega⟩
    by_cases h0 : n = 0
    · subst h0
      rw [M_spec_FormatInt_L0]
      rfl
    · obtain ⟨h1, h2⟩ := tmod_abs n
      have hm : n.natAbs % 10 < 10 := Nat.mod_lt _ (by omega)
      have hu : n.natAbs ≠ 0 := by omega
      have hd := dig_t (n.natAbs % 10) hm
      have ih := spec_digits (fu := fu) k (n.tdiv 10) ([UInt8.ofNat (48 + n.natAbs % 10)] ++ acc) (by rw [h2]; rw [Nat.pow_succ] at h; omega) (by rw [h2]; omega) (by simp; omega) q (by omega)
      have hr : -9223372036854775808 ≤ n.tdiv 10 ∧ n.tdiv 10 ≤ 9223372036854775807 := by
        generalize n.tdiv 10 = z at h2
        omega
      have hlen : lenOK (([UInt8.ofNat (48 + n.natAbs % 10)] : List UInt8) ++ acc).length = true := lenOK_t (by simp; omega)
      have fin : decT (n.tdiv 10).natAbs ++ ([UInt8.ofNat (48 + n.natAbs % 10)] ++ acc) = decT n.natAbs ++ acc := by rw [h2, decT_step _ hu, List.append_assoc]
      rw [M_spec_FormatInt_L0, show (n != (0 : Int)) = true from by simpa using h0, cond_true, ck_t (show ((10 : Int) != 0) = true from rfl)]
      by_cases ht : n.tmod 10 < 0
      · rw [if_pos ht] at h1
        rw [decide_eq_true ht, cond_true, h1, ck_t (i64B_t (by omega) (by omega)), ck_t (i64B_t (by omega) (by omega)), hd, ck_t hlen, ck_t (show ((10 : Int) != 0) = true from rfl), ck_t (i64B_t hr.1 hr.2), ih, fin]
      · rw [if_neg ht] at h1
        rw [decide_eq_false ht, cond_false, h1, ck_t (i64B_t (by omega) (by omega)), hd, ck_t hlen, ck_t (show ((10 : Int) != 0) = true from rfl), ck_t (i64B_t hr.1 hr.2), ih, fin]
theorem specFI_t {fu : Nat} {n : Int} (hf : 1048577 ≤ fu) (h0 : -9223372036854775808 ≤ n) (h1 : n ≤ 9223372036854775807) : M_spec_FormatInt fu n = some (Lib.itoa n) := by
  unfold M_spec_FormatInt
  by_cases hz : n = 0
  · subst hz
    rw [show ((0 : Int) == 0) = true from rfl, cond_true]
    unfold Lib.itoa
    rw [if_neg (by decide), show (0 : Int).toNat = 0 from rfl, Lib.decDigits, dif_pos (by decide)]
    rfl
  · have hd := spec_digits (fu := fu) 20 n [] (by omega) (by omega) (by simp) fu (by omega)
    have hl := decT_len 19 n.natAbs (by omega)
    rw [List.append_nil] at hd
    have hu : n.natAbs ≠ 0 := by omega
    have e : decT n.natAbs = Lib.decDigits n.natAbs := if_neg hu
    rw [show (n == (0 : Int)) = false from by simpa using hz, cond_false, hd, cl_true]
    unfold Lib.itoa
    by_cases hneg : n < 0
    · rw [decide_eq_true hneg, cond_true, if_pos hneg, ck_t (lenOK_t (by simp; omega)), e]
      rfl
    · rw [decide_eq_false hneg, cond_false, if_neg hneg, e, show n.natAbs = n.toNat from by omega]
theorem specName_t {fu : Nat} {n : Int} (h0 : 0 ≤ n) (h1 : n ≤ 5) : M_spec_FeatureName fu n = some (gtD featL n) := by
  unfold M_spec_FeatureName
  rw [show M_spec_l1In fu n 0 5 = some (decide (0 ≤ n) && decide (n ≤ 5)) from rfl, cl_true, decide_eq_true h0, decide_eq_true h1, Bool.and_self, Bool.not_true, cond_false, ck_t (inR_iff.2 ⟨h0, by show n < 6; omega⟩)]
  rfl
theorem feat_len (n : Int) : (gtD featL n).length ≤ 6 := by
  unfold gtD
  have : ∀ k : Nat, (featL.getD k default).length ≤ 6 := fun k => by
    match k with
    | 0 => decide
    | 1 => decide
    | 2 => decide
    | 3 => decide
    | 4 => decide
    | 5 => decide
    | k + 6 => rw [List.getD_eq_getElem?_getD, List.getElem?_eq_none (by show 6 ≤ k + 6; omega)]; decide
  exact this _
theorem lenOK_s {l : List UInt8} (h : l.length ≤ 1000000) : lenOK l.length = true := lenOK_t (by omega)
/-- sep between the elements, as a loop lays it -/
def jn (sep : List UInt8) : List (List UInt8) → List UInt8
  | [] => []
  | x :: xs => x ++ (xs.map (sep ++ ·)).flatten
theorem jn_snoc (sep : List UInt8) (xs : List (List UInt8)) (x : List UInt8) (h : xs ≠ []) : jn sep (xs ++ [x]) = jn sep xs ++ sep ++ x := by
  cases xs with
  | nil => exact (h rfl).elim
  | cons y ys => simp [jn, List.append_assoc]
theorem jn_one (sep x : List UInt8) : jn sep [x] = x := by simp [jn]
theorem jn_len (sep : List UInt8) (m : Nat) : ∀ (xs : List (List UInt8)), (∀ x ∈ xs, x.length ≤ m) → (jn sep xs).length ≤ xs.length * (m + sep.length)
  | [], h => by simp [jn]
  | x :: xs, h => by
    unfold jn
    have hx := h x List.mem_cons_self
    have key : ∀ ys : List (List UInt8), (∀ y ∈ ys, y.length ≤ m) → ((ys.map (sep ++ ·)).flatten).length ≤ ys.length * (m + sep.length) := by
      intro ys hy
      induction ys with
      | nil => simp
      | cons y ys ih =>
        have h1 := hy y List.mem_cons_self
        have h2 := ih fun z hz => hy z (List.mem_cons_of_mem _ hz)
        rw [List.map_cons, List.flatten_cons, List.length_append, List.length_append, List.length_cons, Nat.add_mul, Nat.one_mul]
        omega
    have := key xs fun z hz => h z (List.mem_cons_of_mem _ hz)
    rw [List.length_append, List.length_cons, Nat.add_mul, Nat.one_mul]
    omega
theorem itoa_le {n : Int} (h0 : -9223372036854775808 ≤ n) (h1 : n ≤ 9223372036854775807) : (Lib.itoa n).length ≤ 21 := itoa_len h0 h1
end Go.Proofs.Ytmkgocdgkdglnaa
/- Plain: what the law FormatRules asks. No statement of the seat is proved here. -/
namespace Go.Proofs.Ytmkgocdgkdglnaa
open Go.RowKit
set_option linter.unusedVariables false
set_option linter.unusedSimpArgs false

def testT (t : TTst) : List UInt8 := gtD featL t.1 ++ (bif t.2.2 then [60] else [62, 61]) ++ Lib.itoa t.2.1
theorem testT_len {t : TTst} (h : (0 ≤ t.1 ∧ t.1 ≤ 5) ∧ 1 ≤ t.2.1 ∧ t.2.1 ≤ 1000) : (testT t).length ≤ 30 := by
  have e2 := itoa_le (n := t.2.1) (by omega) (by omega)
  have e5 := feat_len t.1
  unfold testT
  cases t.2.2 <;> simp <;> omega
def ruleT (l : List TTst) : List UInt8 := jn [44] (l.map testT)
theorem ruleT_len {l : List TTst} (h3 : l.length ≤ 3) (hb : ∀ t ∈ l, (0 ≤ t.1 ∧ t.1 ≤ 5) ∧ 1 ≤ t.2.1 ∧ t.2.1 ≤ 1000) : (ruleT l).length ≤ 93 := by
  have := jn_len [44] 30 (l.map testT) (fun x hx => by
    obtain ⟨t, ht, rfl⟩ := List.mem_map.1 hx
    exact testT_len (hb t ht))
  rw [List.length_map] at this
  unfold ruleT
  simp at this
  omega
theorem specIn1_t {fu : Nat} {r : List (List TTst)} {l : List TTst} {i : Nat} {acc : List UInt8} (hl : r[i]? = some l) (hf : 1048577 ≤ fu) (h3 : l.length ≤ 3) (hb : ∀ t ∈ l, (0 ≤ t.1 ∧ t.1 ≤ 5) ∧ 1 ≤ t.2.1 ∧ t.2.1 ≤ 1000) (ha : acc.length ≤ 1000) :
    M_spec_FormatRules_L1 fu r (i : Int) fu acc (0 : Int) = some (acc ++ jn [44] (l.map testT)) := by
  have hi := at_lt hl
  have hg := gtD_get hl
  have key : ∀ m j k (a : List UInt8), j + m = l.length → m < k → a = acc ++ jn [44] ((l.map testT).take j) → a.length ≤ 1000 + 40 * j → M_spec_FormatRules_L1 fu r (i : Int) k a (j : Int) = some (acc ++ jn [44] (l.map testT)) := by
    intro m
    induction m with
    | zero =>
      intro j k a hj hk he hal
      obtain ⟨k, rfl⟩ : ∃ q, k = q + 1 := ⟨k - 1, by omega⟩
      obtain rfl : j = l.length := by omega
      rw [M_spec_FormatRules_L1, ck_t (inR_t hi), hg, lt_f, cond_false, he, List.take_of_length_le (by simp)]
    | succ m ih =>
      intro j k a hj hk he hal
      obtain ⟨k, rfl⟩ : ∃ q, k = q + 1 := ⟨k - 1, by omega⟩
      have hlt : j < l.length := by omega
      have hgj : gtD l (j : Int) = l[j] := gtD_get (List.getElem?_eq_getElem hlt)
      have hq := hb l[j] (List.getElem_mem hlt)
      have e2 := itoa_le (n := l[j].2.1) (by omega) (by omega)
      have e5 := feat_len l[j].1
      have ht : (l.map testT).take (j + 1) = (l.map testT).take j ++ [testT l[j]] := by rw [List.take_add_one, List.getElem?_map, List.getElem?_eq_getElem hlt]; rfl
      rw [M_spec_FormatRules_L1, ck_t (inR_t hi), hg, lt_t hlt, cond_true, ck_t (inR_t hi), ck_t (inR_t hlt), hgj, specFI_t hf (by omega) (by omega), specName_t (by omega) (by omega)]
      rcases Nat.eq_zero_or_pos j with rfl | hp
      · have h0 : a = acc := by rw [he]; simp [jn]
        subst h0
        rw [show decide ((0 : Int) < ((0 : Nat) : Int)) = false from rfl, cond_false, cl_true, ck_t (lenOK_s (by simp only [List.length_append, List.length_cons, List.length_nil]; omega))]
        have nx : M_spec_FormatRules_L1 fu r (i : Int) k (a ++ testT l[0]) ((0 + 1 : Nat) : Int) = some (a ++ jn [44] (l.map testT)) := by
          refine ih 1 k _ (by omega) (by omega) ?_ (by unfold testT; cases l[0].2.2 <;> simp <;> omega)
          rw [ht, List.take_zero, List.nil_append, jn_one]
        rw [← nx]
        unfold testT
        cases l[0].2.2
        · rw [cond_false, ck_t (lenOK_s (by simp only [List.length_append, List.length_cons, List.length_nil]; omega)), cl_true, ck_t (lenOK_s (by simp only [List.length_append, List.length_cons, List.length_nil]; omega)), ck_t (i64B_n (by omega)), succ_i]
          simp only [List.append_assoc, cond_false]
        · rw [cond_true, ck_t (lenOK_s (by simp only [List.length_append, List.length_cons, List.length_nil]; omega)), cl_true, ck_t (lenOK_s (by simp only [List.length_append, List.length_cons, List.length_nil]; omega)), ck_t (i64B_n (by omega)), succ_i]
          simp only [List.append_assoc, cond_true]
      · rw [show decide ((0 : Int) < (j : Int)) = true from decide_eq_true (by omega), cond_true, ck_t (lenOK_s (by simp only [List.length_append, List.length_cons, List.length_nil]; omega)), cl_true, ck_t (lenOK_s (by simp only [List.length_append, List.length_cons, List.length_nil]; omega))]
        have nx : M_spec_FormatRules_L1 fu r (i : Int) k (a ++ [44] ++ testT l[j]) ((j + 1 : Nat) : Int) = some (acc ++ jn [44] (l.map testT)) := by
          refine ih (j + 1) k _ (by omega) (by omega) ?_ (by unfold testT; cases l[j].2.2 <;> simp <;> omega)
          rw [ht, jn_snoc _ _ _ (by
            intro hz
            have := congrArg List.length hz
            rw [List.length_take, List.length_map, List.length_nil] at this
            omega), he]
          simp only [List.append_assoc]
        rw [← nx]
        unfold testT
        cases l[j].2.2
        · rw [cond_false, ck_t (lenOK_s (by simp only [List.length_append, List.length_cons, List.length_nil]; omega)), cl_true, ck_t (lenOK_s (by simp only [List.length_append, List.length_cons, List.length_nil]; omega)), ck_t (i64B_n (by omega)), succ_i]
          simp only [List.append_assoc, cond_false]
        · rw [cond_true, ck_t (lenOK_s (by simp only [List.length_append, List.length_cons, List.length_nil]; omega)), cl_true, ck_t (lenOK_s (by simp only [List.length_append, List.length_cons, List.length_nil]; omega)), ck_t (i64B_n (by omega)), succ_i]
          simp only [List.append_assoc, cond_true]
  have := key l.length 0 fu acc (by omega) (by omega) (by simp [jn]) (by omega)
  rwa [show ((0 : Nat) : Int) = 0 from rfl] at this
theorem specIn2_t {fu : Nat} {r : List (List TTst)} {l : List TTst} {i : Nat} {acc : List UInt8} (hl : r[i]? = some l) (hf : 1048577 ≤ fu) (h3 : l.length ≤ 3) (hb : ∀ t ∈ l, (0 ≤ t.1 ∧ t.1 ≤ 5) ∧ 1 ≤ t.2.1 ∧ t.2.1 ≤ 1000) (ha : acc.length ≤ 1000) :
    M_spec_FormatRules_L2 fu r (i : Int) fu acc (0 : Int) = some (acc ++ jn [44] (l.map testT)) := by
  have hi := at_lt hl
  have hg := gtD_get hl
  have key : ∀ m j k (a : List UInt8), j + m = l.length → m < k → a = acc ++ jn [44] ((l.map testT).take j) → a.length ≤ 1000 + 40 * j → M_spec_FormatRules_L2 fu r (i : Int) k a (j : Int) = some (acc ++ jn [44] (l.map testT)) := by
    intro m
    induction m with
    | zero =>
      intro j k a hj hk he hal
      obtain ⟨k, rfl⟩ : ∃ q, k = q + 1 := ⟨k - 1, by omega⟩
      obtain rfl : j = l.length := by omega
      rw [M_spec_FormatRules_L2, ck_t (inR_t hi), hg, lt_f, cond_false, he, List.take_of_length_le (by simp)]
    | succ m ih =>
      intro j k a hj hk he hal
      obtain ⟨k, rfl⟩ : ∃ q, k = q + 1 := ⟨k - 1, by omega⟩
      have hlt : j < l.length := by omega
      have hgj : gtD l (j : Int) = l[j] := gtD_get (List.getElem?_eq_getElem hlt)
      have hq := hb l[j] (List.getElem_mem hlt)
      have e2 := itoa_le (n := l[j].2.1) (by omega) (by omega)
      have e5 := feat_len l[j].1
      have ht : (l.map testT).take (j + 1) = (l.map testT).take j ++ [testT l[j]] := by rw [List.take_add_one, List.getElem?_map, List.getElem?_eq_getElem hlt]; rfl
      rw [M_spec_FormatRules_L2, ck_t (inR_t hi), hg, lt_t hlt, cond_true, ck_t (inR_t hi), ck_t (inR_t hlt), hgj, specFI_t hf (by omega) (by omega), specName_t (by omega) (by omega)]
      rcases Nat.eq_zero_or_pos j with rfl | hp
      · have h0 : a = acc := by rw [he]; simp [jn]
        subst h0
        rw [show decide ((0 : Int) < ((0 : Nat) : Int)) = false from rfl, cond_false, cl_true, ck_t (lenOK_s (by simp only [List.length_append, List.length_cons, List.length_nil]; omega))]
        have nx : M_spec_FormatRules_L2 fu r (i : Int) k (a ++ testT l[0]) ((0 + 1 : Nat) : Int) = some (a ++ jn [44] (l.map testT)) := by
          refine ih 1 k _ (by omega) (by omega) ?_ (by unfold testT; cases l[0].2.2 <;> simp <;> omega)
          rw [ht, List.take_zero, List.nil_append, jn_one]
        rw [← nx]
        unfold testT
        cases l[0].2.2
        · rw [cond_false, ck_t (lenOK_s (by simp only [List.length_append, List.length_cons, List.length_nil]; omega)), cl_true, ck_t (lenOK_s (by simp only [List.length_append, List.length_cons, List.length_nil]; omega)), ck_t (i64B_n (by omega)), succ_i]
          simp only [List.append_assoc, cond_false]
        · rw [cond_true, ck_t (lenOK_s (by simp only [List.length_append, List.length_cons, List.length_nil]; omega)), cl_true, ck_t (lenOK_s (by simp only [List.length_append, List.length_cons, List.length_nil]; omega)), ck_t (i64B_n (by omega)), succ_i]
          simp only [List.append_assoc, cond_true]
      · rw [show decide ((0 : Int) < (j : Int)) = true from decide_eq_true (by omega), cond_true, ck_t (lenOK_s (by simp only [List.length_append, List.length_cons, List.length_nil]; omega)), cl_true, ck_t (lenOK_s (by simp only [List.length_append, List.length_cons, List.length_nil]; omega))]
        have nx : M_spec_FormatRules_L2 fu r (i : Int) k (a ++ [44] ++ testT l[j]) ((j + 1 : Nat) : Int) = some (acc ++ jn [44] (l.map testT)) := by
          refine ih (j + 1) k _ (by omega) (by omega) ?_ (by unfold testT; cases l[j].2.2 <;> simp <;> omega)
          rw [ht, jn_snoc _ _ _ (by
            intro hz
            have := congrArg List.length hz
            rw [List.length_take, List.length_map, List.length_nil] at this
            omega), he]
          simp only [List.append_assoc]
        rw [← nx]
        unfold testT
        cases l[j].2.2
        · rw [cond_false, ck_t (lenOK_s (by simp only [List.length_append, List.length_cons, List.length_nil]; omega)), cl_true, ck_t (lenOK_s (by simp only [List.length_append, List.length_cons, List.length_nil]; omega)), ck_t (i64B_n (by omega)), succ_i]
          simp only [List.append_assoc, cond_false]
        · rw [cond_true, ck_t (lenOK_s (by simp only [List.length_append, List.length_cons, List.length_nil]; omega)), cl_true, ck_t (lenOK_s (by simp only [List.length_append, List.length_cons, List.length_nil]; omega)), ck_t (i64B_n (by omega)), succ_i]
          simp only [List.append_assoc, cond_true]
  have := key l.length 0 fu acc (by omega) (by omega) (by simp [jn]) (by omega)
  rwa [show ((0 : Nat) : Int) = 0 from rfl] at this
theorem specFR_t {fu : Nat} {r : List (List TTst)} (hf : 1048577 ≤ fu) (hr : RsOK r) : M_spec_FormatRules fu r = some (bif rsB r then jn [32, 111, 114, 32] (r.map ruleT) else []) := by
  unfold M_spec_FormatRules
  rw [specRs_t hf hr, cl_true]
  cases hv : rsB r
  · rfl
  · obtain ⟨h3, hb⟩ := rsB_len hv
    have key : ∀ m i k (a : List UInt8), i + m = r.length → m < k → a = jn [32, 111, 114, 32] ((r.map ruleT).take i) → a.length ≤ 100 * i → M_spec_FormatRules_L0 fu r k a (i : Int) = some (jn [32, 111, 114, 32] (r.map ruleT)) := by
      intro m
      induction m with
      | zero =>
        intro i k a hi hk he hal
        obtain ⟨k, rfl⟩ : ∃ q, k = q + 1 := ⟨k - 1, by omega⟩
        obtain rfl : i = r.length := by omega
        rw [M_spec_FormatRules_L0, lt_f, cond_false, he, List.take_of_length_le (by simp)]
      | succ m ih =>
        intro i k a hi hk he hal
        obtain ⟨k, rfl⟩ : ∃ q, k = q + 1 := ⟨k - 1, by omega⟩
        have hlt : i < r.length := by omega
        have hg := List.getElem?_eq_getElem hlt
        obtain ⟨hl3, hlb⟩ := hb r[i] (List.getElem_mem hlt)
        have hrl := ruleT_len hl3 hlb
        have ht : (r.map ruleT).take (i + 1) = (r.map ruleT).take i ++ [ruleT r[i]] := by rw [List.take_add_one, List.getElem?_map, hg]; rfl
        rw [M_spec_FormatRules_L0, lt_t hlt, cond_true]
        rcases Nat.eq_zero_or_pos i with rfl | hp
        · have h0 : a = [] := by rw [he]; rfl
          subst h0
          rw [show decide ((0 : Int) < ((0 : Nat) : Int)) = false from rfl, cond_false, specIn2_t hg hf hl3 hlb (by simp), cl_true, ck_t (i64B_n (by omega)), succ_i]
          refine ih 1 k _ (by omega) (by omega) ?_ (by rw [List.nil_append]; exact Nat.le_trans hrl (by omega))
          rw [ht, List.take_zero, List.nil_append, List.nil_append, jn_one]
          rfl
        · rw [show decide ((0 : Int) < (i : Int)) = true from decide_eq_true (by omega), cond_true, ck_t (lenOK_s (by simp only [List.length_append, List.length_cons, List.length_nil]; omega)), specIn1_t hg hf hl3 hlb (by simp; omega), cl_true, ck_t (i64B_n (by omega)), succ_i]
          refine ih (i + 1) k _ (by omega) (by omega) ?_ (by
            have : (jn [44] (r[i].map testT)).length ≤ 93 := hrl
            simp; omega)
          rw [ht, jn_snoc _ _ _ (by
            intro hz
            have := congrArg List.length hz
            rw [List.length_take, List.length_map, List.length_nil] at this
            omega), he]
          rfl
    have := key r.length 0 fu [] (by omega) (by omega) rfl (Nat.le_refl _)
    rw [show ((0 : Nat) : Int) = 0 from rfl] at this
    rw [Bool.not_true, cond_false, this, cl_true]
    rfl
end Go.Proofs.Ytmkgocdgkdglnaa
/- Plain: texts cut at a byte, program and reference alike. No statement of the seat is proved here. -/
namespace Go.Proofs.Ytmkgocdgkdglnaa
open Go.RowKit
set_option linter.unusedVariables false
set_option linter.unusedSimpArgs false

/-- the parts of s between the bytes c -/
def spC (c : UInt8) : List UInt8 → List (List UInt8)
  | [] => [[]]
  | b :: s => if b = c then [] :: spC c s else match spC c s with
    | [] => [[b]]
    | x :: xs => (b :: x) :: xs
theorem spC_ne (c : UInt8) (s : List UInt8) : spC c s ≠ [] := by
  cases s with
  | nil => simp [spC]
  | cons b s =>
    unfold spC
    split
    · simp
    · cases spC c s <;> simp
theorem spC_none {c : UInt8} : ∀ {s : List UInt8}, c ∉ s → spC c s = [s]
  | [], _ => rfl
  | b :: s, h => by
    have h1 : b ≠ c := fun e => h (e ▸ List.mem_cons_self)
    have h2 := spC_none (c := c) (s := s) fun h' => h (List.mem_cons_of_mem _ h')
    unfold spC
    rw [if_neg h1, h2]
theorem spC_app {c : UInt8} : ∀ {x s : List UInt8}, c ∉ x → spC c (x ++ c :: s) = x :: spC c s
  | [], s, _ => by
    show spC c (c :: s) = _
    rw [spC, if_pos rfl]
  | b :: x, s, h => by
    have h1 : b ≠ c := fun e => h (e ▸ List.mem_cons_self)
    have h2 := spC_app (c := c) (x := x) (s := s) fun h' => h (List.mem_cons_of_mem _ h')
    rw [List.cons_append, spC, if_neg h1, h2]
theorem spC_mem (c : UInt8) : ∀ s : List UInt8, ∀ x ∈ spC c s, x.length ≤ s.length
  | [], x, hx => by rw [spC] at hx; rw [List.mem_singleton.1 hx]; exact Nat.le_refl _
  | b :: s, x, hx => by
    unfold spC at hx
    split at hx
    · rcases List.mem_cons.1 hx with rfl | hx
      · exact Nat.zero_le _
      · exact Nat.le_succ_of_le (spC_mem c s x hx)
    · cases h : spC c s with
      | nil => exact absurd h (spC_ne c s)
      | cons y ys =>
        rw [h] at hx
        rcases List.mem_cons.1 hx with rfl | hx
        · have := spC_mem c s y (by rw [h]; exact List.mem_cons_self)
          simp only [List.length_cons]; omega
        · have := spC_mem c s x (by rw [h]; exact List.mem_cons_of_mem _ hx)
          simp only [List.length_cons]; omega
/-- a text laid with a byte between its parts -/
theorem spC_jn {c : UInt8} : ∀ {x : List UInt8} {xs : List (List UInt8)}, (∀ y ∈ x :: xs, c ∉ y) → spC c (x ++ (xs.map ([c] ++ ·)).flatten) = x :: xs
  | x, [], h => by
    rw [List.map_nil, List.flatten_nil, List.append_nil]
    exact spC_none (h x List.mem_cons_self)
  | x, y :: ys, h => by
    rw [List.map_cons, List.flatten_cons, show x ++ (([c] ++ y) ++ (ys.map ([c] ++ ·)).flatten) = x ++ c :: (y ++ (ys.map ([c] ++ ·)).flatten) by simp, spC_app (h x List.mem_cons_self), spC_jn fun z hz => h z (List.mem_cons_of_mem _ hz)]
/-! ### the reference -/
theorem bAt_get' {t : List UInt8} {i : Nat} {c : UInt8} (h : t[i]? = some c) : bAt t (i : Int) = (c.toNat : Int) := by
  unfold bAt
  simp [List.getD_eq_getElem?_getD, h]
theorem subL_mid {s : List UInt8} {a b : Nat} : subL s (a : Int) (b : Int) = (s.drop a).take (b - a) := by simp [subL]
theorem cut_loop {fu : Nat} {s : List UInt8} {c : UInt8} (hs : s.length ≤ 1048576) : ∀ m i a k (acc : List (List UInt8)), i + m = s.length → m < k → a ≤ i → acc.length ≤ i → c ∉ (s.drop a).take (i - a) →
    ∃ q : Nat × List (List UInt8), M_spec_l2Cut_L0 fu s (c.toNat : Int) k (a : Int) (i : Int) acc = some ((q.1 : Int), q.2) ∧ q.1 ≤ s.length ∧ q.2.length ≤ s.length ∧ q.2 ++ [s.drop q.1] = acc ++ spC c (s.drop a) := by
  intro m
  induction m with
  | zero =>
    intro i a k acc hi hk ha hacc hn
    obtain ⟨k, rfl⟩ : ∃ z, k = z + 1 := ⟨k - 1, by omega⟩
    obtain rfl : i = s.length := by omega
    refine ⟨(a, acc), by rw [M_spec_l2Cut_L0, lt_f]; rfl, ha, hacc, ?_⟩
    rw [List.take_of_length_le (by simp)] at hn
    rw [spC_none hn]
  | succ m ih =>
    intro i a k acc hi hk ha hacc hn
    obtain ⟨k, rfl⟩ : ∃ z, k = z + 1 := ⟨k - 1, by omega⟩
    have hlt : i < s.length := by omega
    have hx := List.getElem?_eq_getElem hlt
    have hdrop : s.drop a = (s.drop a).take (i - a) ++ s[i] :: s.drop (i + 1) := by
      have h1 : (s.drop a).drop (i - a) = s[i] :: s.drop (i + 1) := by
        rw [List.drop_drop, show a + (i - a) = i by omega]
        exact List.drop_eq_getElem_cons hlt
      rw [← h1, List.take_append_drop]
    rw [M_spec_l2Cut_L0, lt_t hlt, cond_true, ck_t (inR_t hlt), bAt_get' hx]
    by_cases hc : s[i] = c
    · have e : ((s[i].toNat : Int) == (c.toNat : Int)) = true := by rw [hc]; simp
      obtain ⟨q, h1, h2, h3, h4⟩ := ih (i + 1) (i + 1) k (acc ++ [(s.drop a).take (i - a)]) (by omega) (by omega) (Nat.le_refl _) (by simp; omega) (by simp)
      refine ⟨q, ?_, h2, h3, ?_⟩
      · rw [e, cond_true, ck_t (subR_iff.2 ⟨by omega, by omega, by omega⟩), ck_t (lenOK_t (by simp; omega)), ck_t (i64B_n (by omega)), ck_t (i64B_n (by omega)), succ_i, subL_mid]
        exact h1
      · have e3 := congrArg (spC c) hdrop
        rw [hc, spC_app hn] at e3
        rw [h4, e3, List.append_assoc]
        rfl
    · have e : ((s[i].toNat : Int) == (c.toNat : Int)) = false := by
        rw [beq_eq_false_iff_ne]
        intro h
        exact hc (UInt8.toNat_inj.1 (by omega))
      obtain ⟨q, h1, h2, h3, h4⟩ := ih (i + 1) a k acc (by omega) (by omega) (by omega) (by omega) (by
        have ht : (s.drop a).take (i + 1 - a) = (s.drop a).take (i - a) ++ [s[i]] := by
          rw [show i + 1 - a = (i - a) + 1 by omega, List.take_add_one, List.getElem?_drop, show a + (i - a) = i by omega, hx]
          rfl
        rw [ht]
        intro h
        rcases List.mem_append.1 h with h | h
        · exact hn h
        · exact hc (List.mem_singleton.1 h).symm)
      refine ⟨q, ?_, h2, h3, h4⟩
      rw [e, cond_false, ck_t (i64B_n (by omega)), succ_i]
      exact h1
theorem l2Cut_t {fu : Nat} {s : List UInt8} {c : UInt8} (hf : 1048577 ≤ fu) (hs : s.length ≤ 1048576) : M_spec_l2Cut fu s (c.toNat : Int) = some (spC c s) := by
  obtain ⟨q, h1, h2, h3, h4⟩ := cut_loop (fu := fu) (c := c) hs s.length 0 0 fu [] (by omega) (by omega) (Nat.le_refl _) (Nat.zero_le _) (by simp)
  unfold M_spec_l2Cut
  have e : subL s (q.1 : Int) (s.length : Int) = s.drop q.1 := by
    unfold subL
    exact List.take_of_length_le (by simp only [List.length_drop]; omega)
  rw [show (0 : Int) = ((0 : Nat) : Int) from rfl, h1, cl_true]
  dsimp only
  rw [ck_t (subR_iff.2 ⟨by omega, by omega, by omega⟩), e, ck_t (lenOK_t (by simp; omega)), h4]
  simp
/-! ### the program -/
end Go.Proofs.Ytmkgocdgkdglnaa
/- Plain: numbers read from texts, program and reference alike. No statement of the seat is proved here. -/
namespace Go.Proofs.Ytmkgocdgkdglnaa
open Go.RowKit
set_option linter.unusedVariables false
set_option linter.unusedSimpArgs false

/-- s is the decimal text of n, a number of nine digits at most -/
def IsI (s : List UInt8) (n : Int) : Prop := Lib.itoa n = s ∧ -999999999 ≤ n ∧ n ≤ 999999999
theorem dig_nat (d : Nat) (h : d < 10) : (UInt8.ofNat (48 + d)).toNat = 48 + d := by
  rw [UInt8.toNat_ofNat']
  omega
theorem dec_small {u : Nat} (h : u < 10) : Lib.decDigits u = [UInt8.ofNat (48 + u)] := by rw [Lib.decDigits, dif_pos h]
theorem dec_big {u : Nat} (h : ¬ u < 10) : Lib.decDigits u = Lib.decDigits (u / 10) ++ [UInt8.ofNat (48 + u % 10)] := by rw [Lib.decDigits, dif_neg h]
theorem dec_dig (u : Nat) : ∀ c ∈ Lib.decDigits u, 48 ≤ c.toNat ∧ c.toNat ≤ 57 := by
  induction u using Nat.strongRecOn with
  | _ u ih =>
    intro c hc
    by_cases h : u < 10
    · rw [dec_small h] at hc
      rw [List.mem_singleton.1 hc, dig_nat u h]
      omega
    · rw [dec_big h] at hc
      rcases List.mem_append.1 hc with hc | hc
      · exact ih (u / 10) (by omega) c hc
      · rw [List.mem_singleton.1 hc, dig_nat _ (Nat.mod_lt _ (by omega))]
        omega
theorem dec_ne (u : Nat) : Lib.decDigits u ≠ [] := by
  by_cases h : u < 10
  · rw [dec_small h]; simp
  · rw [dec_big h]; simp
/-! ### the reference's scan -/
def scS (p : Nat × Nat) (c : UInt8) : Nat × Nat := if 48 ≤ c.toNat ∧ c.toNat ≤ 57 then (p.1 * 10 + (c.toNat - 48), p.2 + 1) else p
theorem sc_dec (u : Nat) : (Lib.decDigits u).foldl scS (0, 0) = (u, (Lib.decDigits u).length) := by
  induction u using Nat.strongRecOn with
  | _ u ih =>
    by_cases h : u < 10
    · rw [dec_small h]
      have := dig_nat u h
      simp only [List.foldl_cons, List.foldl_nil, scS, this, List.length_singleton]
      rw [if_pos (by omega)]
      simp
    · have hd := dig_nat (u % 10) (Nat.mod_lt _ (by omega))
      rw [dec_big h, List.foldl_append, ih (u / 10) (by omega)]
      simp only [List.foldl_cons, List.foldl_nil, scS, hd, List.length_append, List.length_singleton]
      rw [if_pos (by omega)]
      congr 1
      omega
theorem sc_lt : ∀ (s : List UInt8) (p : Nat × Nat), p.1 < 10 ^ p.2 → (s.foldl scS p).1 < 10 ^ (s.foldl scS p).2
  | [], p, h => h
  | c :: s, p, h => by
    rw [List.foldl_cons]
    refine sc_lt s _ ?_
    unfold scS
    split
    · show p.1 * 10 + (c.toNat - 48) < 10 ^ (p.2 + 1)
      rw [Nat.pow_succ]
      omega
    · exact h
theorem sc_cnt : ∀ (s : List UInt8) (p : Nat × Nat), (s.foldl scS p).2 ≤ p.2 + s.length
  | [], p => Nat.le_refl _
  | c :: s, p => by
    have := sc_cnt s (scS p c)
    rw [List.foldl_cons, List.length_cons]
    have h : (scS p c).2 ≤ p.2 + 1 := by
      unfold scS
      split
      · exact Nat.le_refl _
      · exact Nat.le_succ _
    omega
theorem pow_le11 {k : Nat} (h : k ≤ 11) : 10 ^ k ≤ 100000000000 := Nat.le_trans (Nat.pow_le_pow_right (by omega) h) (by omega)
theorem scan_t {fu : Nat} {s : List UInt8} (hs : s.length ≤ 1048576) : ∀ m i k (p : Nat × Nat), (i + m = s.length ∨ (m = 0 ∧ 11 ≤ i)) → i ≤ 11 → m < k → p.1 < 10 ^ p.2 → p.2 ≤ i → (s.take 11).take i = s.take i →
    M_spec_ParseInt_L0 fu s k (p.1 : Int) (p.2 : Int) (i : Int) = some (((((s.take 11).drop i).foldl scS p).1 : Int), ((((s.take 11).drop i).foldl scS p).2 : Int)) := by
  intro m
  induction m with
  | zero =>
    intro i k p hi h11 hk hp hpi ht
    obtain ⟨k, rfl⟩ : ∃ z, k = z + 1 := ⟨k - 1, by omega⟩
    have hd : (s.take 11).drop i = [] := List.drop_eq_nil_of_le (by rw [List.length_take]; omega)
    have hc : (decide ((i : Int) < (s.length : Int)) && decide ((i : Int) < 11)) = false := by
      rw [Bool.and_eq_false_imp, decide_eq_true_eq, decide_eq_false_iff_not]
      omega
    rw [M_spec_ParseInt_L0, bd_eq, hc, cond_false, hd]
    rfl
  | succ m ih =>
    intro i k p hi h11 hk hp hpi ht
    obtain ⟨k, rfl⟩ : ∃ z, k = z + 1 := ⟨k - 1, by omega⟩
    have hlt : i < s.length := by omega
    by_cases h : i < 11
    · have hc : (decide ((i : Int) < (s.length : Int)) && decide ((i : Int) < 11)) = true := by
        rw [Bool.and_eq_true, decide_eq_true_eq, decide_eq_true_eq]
        omega
      have hx := List.getElem?_eq_getElem hlt
      have hb := bAt_get' hx
      have h256 : s[i].toNat < 256 := UInt8.toNat_lt _
      have hdrop : (s.take 11).drop i = s[i] :: (s.take 11).drop (i + 1) := by
        rw [List.drop_eq_getElem_cons (by rw [List.length_take]; omega), List.getElem_take]
      have hpb : p.1 ≤ 100000000000 := Nat.le_of_lt (Nat.lt_of_lt_of_le hp (pow_le11 (by omega)))
      have hw : IntKind.i64.wrap (IntKind.u8.wrap ((s[i].toNat : Int) - 48)) = ((s[i].toNat - 48 : Nat) : Int) ∨ s[i].toNat < 48 := by
        rcases Nat.lt_or_ge s[i].toNat 48 with h' | h'
        · exact .inr h'
        · left
          have e : ((s[i].toNat : Int) - 48) = ((s[i].toNat - 48 : Nat) : Int) := by omega
          rw [e]
          have h1 : IntKind.u8.wrap ((s[i].toNat - 48 : Nat) : Int) = ((s[i].toNat - 48 : Nat) : Int) := by
            unfold IntKind.wrap
            simp [IntKind.bits, IntKind.signed]
            omega
          rw [h1]
          exact IntWalk.i64_in _ (by omega)
      have hnext : ∀ q : Nat × Nat, q.1 < 10 ^ q.2 → q.2 ≤ i + 1 → M_spec_ParseInt_L0 fu s k (q.1 : Int) (q.2 : Int) ((i + 1 : Nat) : Int) = some (((((s.take 11).drop (i + 1)).foldl scS q).1 : Int), ((((s.take 11).drop (i + 1)).foldl scS q).2 : Int)) := fun q h1 h2 =>
        ih (i + 1) k q (by omega) (by omega) (by omega) h1 h2 (by rw [List.take_take, Nat.min_eq_left (by omega)])
      rw [M_spec_ParseInt_L0, bd_eq, hc, cond_true, ck_t (inR_t hlt), hb, ck_t (by rw [inR_t hlt, Bool.or_true]), bd_eq, hdrop, List.foldl_cons]
      by_cases hdg : 48 ≤ s[i].toNat ∧ s[i].toNat ≤ 57
      · have hd : (decide ((48 : Int) ≤ (s[i].toNat : Int)) && decide ((s[i].toNat : Int) ≤ 57)) = true := by
          rw [Bool.and_eq_true, decide_eq_true_eq, decide_eq_true_eq]
          omega
        have hw' := hw.resolve_right (by omega)
        have e : scS p s[i] = (p.1 * 10 + (s[i].toNat - 48), p.2 + 1) := if_pos hdg
        have hq := hnext (p.1 * 10 + (s[i].toNat - 48), p.2 + 1) (by show _ < 10 ^ (p.2 + 1); rw [Nat.pow_succ]; omega) (by show p.2 + 1 ≤ i + 1; omega)
        rw [hd, cond_true, hw', ck_t (i64B_t (by omega) (by omega)), ck_t (inR_t hlt), ck_t (i64B_t (by omega) (by omega)), ck_t (i64B_t (by omega) (by omega)), ck_t (i64B_n (by omega)), e, ← hq]
        congr 1
      · have hd : (decide ((48 : Int) ≤ (s[i].toNat : Int)) && decide ((s[i].toNat : Int) ≤ 57)) = false := by
          rw [Bool.and_eq_false_imp, decide_eq_true_eq, decide_eq_false_iff_not]
          omega
        have e : scS p s[i] = p := if_neg hdg
        rw [hd, cond_false, ck_t (i64B_n (by omega)), e, succ_i]
        exact hnext p hp (by omega)
    · have hd : (s.take 11).drop i = [] := List.drop_eq_nil_of_le (by rw [List.length_take]; omega)
      have hc : (decide ((i : Int) < (s.length : Int)) && decide ((i : Int) < 11)) = false := by
        rw [Bool.and_eq_false_imp, decide_eq_true_eq, decide_eq_false_iff_not]
        omega
      rw [M_spec_ParseInt_L0, bd_eq, hc, cond_false, hd]
      rfl
theorem itoa_pos {n : Int} (h : 0 ≤ n) : Lib.itoa n = Lib.decDigits n.toNat := by unfold Lib.itoa; rw [if_neg (by omega)]
theorem itoa_neg' {n : Int} (h : n < 0) : Lib.itoa n = 45 :: Lib.decDigits n.natAbs := by unfold Lib.itoa; rw [if_pos h]
theorem dec_len9 {u : Nat} (h : u ≤ 999999999) : (Lib.decDigits u).length ≤ 9 := decDigits_le 8 u (by omega)
/-- what a text of a number looks like -/
theorem isI_scan {s : List UInt8} {n : Int} (h : IsI s n) : s.length ≤ 10 ∧ 0 < s.length ∧ s.foldl scS (0, 0) = (n.natAbs, (Lib.decDigits n.natAbs).length) ∧ (Lib.decDigits n.natAbs).length ≤ 9 ∧ (s[0]? = some 45 ↔ n < 0) := by
  obtain ⟨rfl, h1, h2⟩ := h
  have hl := dec_len9 (u := n.natAbs) (by omega)
  have hp := List.length_pos_iff.2 (dec_ne n.natAbs)
  by_cases hn : n < 0
  · rw [itoa_neg' hn]
    refine ⟨by simp; omega, by simp, ?_, hl, by simp [hn]⟩
    rw [List.foldl_cons, show scS (0, 0) 45 = (0, 0) from rfl, sc_dec]
  · rw [itoa_pos (by omega), show n.toNat = n.natAbs by omega]
    refine ⟨by omega, hp, sc_dec _, hl, ?_⟩
    constructor
    · intro h
      have := dec_dig n.natAbs 45 (List.mem_of_getElem? h)
      exact absurd this.1 (by decide)
    · intro h; omega
/-- read as a number, or not -/
def RdI (s : List UInt8) (r : Int × Bool) : Prop := (∃ n, IsI s n ∧ r = (n, true)) ∨ ((∀ n, ¬ IsI s n) ∧ r = (0, false))
theorem isI_one {s : List UInt8} {n m : Int} (h : IsI s n) (k : IsI s m) : n = m := by
  have a := isI_scan h
  have b := isI_scan k
  have e : n.natAbs = m.natAbs := by
    have := a.2.2.1.symm.trans b.2.2.1
    injection this
  have := a.2.2.2.2
  have := b.2.2.2.2
  by_cases hs : s[0]? = some 45
  · have := a.2.2.2.2.1 hs
    have := b.2.2.2.2.1 hs
    omega
  · have h1 : ¬ n < 0 := fun h => hs (a.2.2.2.2.2 h)
    have h2 : ¬ m < 0 := fun h => hs (b.2.2.2.2.2 h)
    omega
theorem RdI.one {s : List UInt8} {r q : Int × Bool} (h : RdI s r) (k : RdI s q) : r = q := by
  rcases h with ⟨n, h1, rfl⟩ | ⟨h1, rfl⟩ <;> rcases k with ⟨m, k1, rfl⟩ | ⟨k1, rfl⟩
  · rw [isI_one h1 k1]
  · exact absurd h1 (k1 n)
  · exact absurd k1 (h1 m)
  · rfl
theorem RdI.no {s : List UInt8} (h : RdI s (0, false)) : ∀ n, ¬ IsI s n := by
  rcases h with ⟨n, _, h⟩ | ⟨h, _⟩
  · cases h
  · exact h
theorem specPI_t {fu : Nat} {s : List UInt8} (hf : 1048577 ≤ fu) (hs : s.length ≤ 1048576) : ∃ r, M_spec_ParseInt fu s = some r ∧ RdI s r := by
  have hsc := scan_t (fu := fu) hs s.length 0 fu (0, 0) (.inl (by omega)) (by omega) (by omega) (by decide) (Nat.le_refl _) (by simp)
  rw [List.drop_zero] at hsc
  have hlt := sc_lt (s.take 11) (0, 0) (by decide)
  have hct := sc_cnt (s.take 11) (0, 0)
  have htk : (s.take 11).length ≤ 11 := by rw [List.length_take]; omega
  generalize hp : (s.take 11).foldl scS (0, 0) = p at hsc hlt hct
  have hpb : p.1 ≤ 100000000000 := Nat.le_of_lt (Nat.lt_of_lt_of_le hlt (pow_le11 (by omega)))
  have hM : M_spec_ParseInt_L0 fu s fu 0 0 0 = some ((p.1 : Int), (p.2 : Int)) := hsc
  have h45 : ((decide ((0 : Int) < (s.length : Int))) && ((bAt s (0 : Int)) == (45 : Int))) = decide (s[0]? = some 45) := by
    cases s with
    | nil => rfl
    | cons b l =>
      have hb : bAt (b :: l) (0 : Int) = (b.toNat : Int) := bAt_get' (i := 0) rfl
      rw [hb, decide_eq_true (by simp), Bool.true_and]
      by_cases e : b = 45
      · subst e; rfl
      · rw [decide_eq_false (by simpa using e), beq_eq_false_iff_ne]
        intro h
        exact e (UInt8.toNat_inj.1 (by show b.toNat = 45; omega))
  have hck : (!(true && ((decide ((0 : Int) < (s.length : Int))) == true)) || inR (0 : Int) s.length) = true := by
    cases s with
    | nil => rfl
    | cons b l => rw [inR_iff.2 ⟨Int.le_refl _, by simp⟩, Bool.or_true]
  -- both arms read alike
  have arm : ∀ z : Int, (z = (p.1 : Int) ∧ s[0]? ≠ some 45) ∨ (z = 0 - (p.1 : Int) ∧ s[0]? = some 45) →
      ∃ r, (bd ((decide ((9 : Int) < (p.2 : Int))) || (decide ((10 : Int) < (s.length : Int)))) fun x33 =>
        cl (true && (x33 == false)) (M_spec_FormatInt fu z) fun x35 =>
        bd (x33 || (!(x35 == s))) fun x37 =>
        bif x37 then (some ((0 : Int), false)) else (some (z, true))) = some r ∧ RdI s r := by
    intro z hz
    rw [bd_eq]
    have key : ∀ n, IsI s n → n = z ∧ p.2 ≤ 9 ∧ s.length ≤ 10 := fun n hn => by
      obtain ⟨a1, a2, a3, a4, a5⟩ := isI_scan hn
      rw [List.take_of_length_le (by omega), a3] at hp
      subst hp
      refine ⟨?_, a4, a1⟩
      rcases hz with ⟨rfl, h⟩ | ⟨rfl, h⟩
      · have : ¬ n < 0 := fun hn => h (a5.2 hn)
        show n = (n.natAbs : Int)
        omega
      · have := a5.1 h
        show n = 0 - (n.natAbs : Int)
        omega
    cases hg : (decide ((9 : Int) < (p.2 : Int))) || (decide ((10 : Int) < (s.length : Int)))
    · rw [Bool.or_eq_false_iff, decide_eq_false_iff_not, decide_eq_false_iff_not] at hg
      have h9 : p.1 < 1000000000 := Nat.lt_of_lt_of_le hlt (Nat.le_trans (Nat.pow_le_pow_right (n := 10) (by omega) (show p.2 ≤ 9 by omega)) (by omega))
      rw [show (true && (false == false)) = true from rfl, specFI_t hf (by omega) (by omega), cl_true, bd_eq, Bool.false_or]
      cases he : Lib.itoa z == s
      · refine ⟨_, by rw [Bool.not_false, cond_true], .inr ⟨fun n hn => ?_, rfl⟩⟩
        obtain ⟨rfl, _⟩ := key n hn
        rw [hn.1, beq_self_eq_true] at he
        cases he
      · exact ⟨_, by rw [Bool.not_true, cond_false], .inl ⟨z, ⟨by simpa using he, by omega, by omega⟩, rfl⟩⟩
    · rw [show (true && (true == false)) = false from rfl, cl_false, bd_eq, Bool.true_or, cond_true]
      refine ⟨_, rfl, .inr ⟨fun n hn => ?_, rfl⟩⟩
      obtain ⟨_, h1, h2⟩ := key n hn
      rw [Bool.or_eq_true, decide_eq_true_eq, decide_eq_true_eq] at hg
      omega
  unfold M_spec_ParseInt
  rw [hM, cl_true, ck_t hck, bd_eq, h45]
  by_cases hs0 : s[0]? = some 45
  · rw [decide_eq_true hs0, cond_true, ck_t (i64B_t (by omega) (by omega))]
    exact arm _ (.inr ⟨rfl, hs0⟩)
  · rw [decide_eq_false hs0, cond_false]
    exact arm _ (.inl ⟨rfl, hs0⟩)
/-! ### the program -/
end Go.Proofs.Ytmkgocdgkdglnaa
/- Plain: what the law ParseRules asks: splitting, tests read back. No statement of the seat is proved here. -/
namespace Go.Proofs.Ytmkgocdgkdglnaa
open Go.RowKit
set_option linter.unusedVariables false
set_option linter.unusedSimpArgs false

/-! ### letters -/
theorem feat_all {p : Nat → List UInt8 → Prop} (h0 : p 0 [110, 97, 109, 101]) (h1 : p 1 [116, 111, 107, 101, 110, 115]) (h2 : p 2 [115, 111, 117, 110, 100]) (h3 : p 3 [99, 105, 116, 121]) (h4 : p 4 [121, 101, 97, 114]) (h5 : p 5 [112, 104, 111, 110, 101]) (i : Nat) (hi : i < 6) : p i (gtD featL (i : Int)) := by
  match i, hi with
  | 0, _ => exact h0
  | 1, _ => exact h1
  | 2, _ => exact h2
  | 3, _ => exact h3
  | 4, _ => exact h4
  | 5, _ => exact h5
theorem name_ch {i : Nat} (hi : i < 6) : ∀ c ∈ gtD featL (i : Int), 97 ≤ c.toNat :=
  feat_all (p := fun _ l => ∀ c ∈ l, 97 ≤ c.toNat) (by decide) (by decide) (by decide) (by decide) (by decide) (by decide) i hi
theorem name_ne {i : Nat} (hi : i < 6) : gtD featL (i : Int) ≠ [] :=
  feat_all (p := fun _ l => l ≠ []) (by decide) (by decide) (by decide) (by decide) (by decide) (by decide) i hi
theorem name_hd {i m : Nat} (hi : i < 6) (hm : m < 6) (h : i ≠ m) : (gtD featL (i : Int)).head? ≠ (gtD featL (m : Int)).head? := by
  have key : ∀ a b : Fin 6, a.val ≠ b.val → (featL.getD a.val default).head? ≠ (featL.getD b.val default).head? := by decide
  exact key ⟨i, hi⟩ ⟨m, hm⟩ h
theorem take_ne {a b r : List UInt8} (ha : a ≠ []) (hb : b ≠ []) (h : a.head? ≠ b.head?) : ((a ++ r).take b.length == b) = false := by
  cases a with
  | nil => exact (ha rfl).elim
  | cons c a =>
    cases b with
    | nil => exact (hb rfl).elim
    | cons d b =>
      have hcd : ¬ c = d := fun e => h (by simp [e])
      rw [beq_eq_false_iff_ne]
      intro e
      simp at e
      exact hcd e.1
theorem not_in {l : List UInt8} {n : Nat} (h : ∀ c ∈ l, n ≤ c.toNat) {d : UInt8} (hd : d.toNat < n) : d ∉ l := fun hm => by have := h d hm; omega
theorem itoa_ch {n : Int} (h : 0 ≤ n) : ∀ c ∈ Lib.itoa n, 48 ≤ c.toNat ∧ c.toNat ≤ 57 := by
  rw [itoa_pos h]
  exact dec_dig _
theorem itoa_ne {n : Int} (h : 0 ≤ n) : Lib.itoa n ≠ [] := by
  rw [itoa_pos h]
  exact dec_ne _
def TstOK (t : TTst) : Prop := (0 ≤ t.1 ∧ t.1 ≤ 5) ∧ 1 ≤ t.2.1 ∧ t.2.1 ≤ 1000
theorem testT_ch {t : TTst} (h : TstOK t) : ∀ c ∈ testT t, 48 ≤ c.toNat := by
  obtain ⟨i, e⟩ : ∃ i : Nat, t.1 = i := ⟨t.1.toNat, by have := h.1; omega⟩
  have hi : i < 6 := by have := h.1; omega
  intro c hc
  unfold testT at hc
  rcases List.mem_append.1 hc with hc | hc
  · rcases List.mem_append.1 hc with hc | hc
    · rw [e] at hc
      have := name_ch hi c hc
      omega
    · cases hb : t.2.2
      · rw [hb] at hc
        exact (show ∀ c ∈ ([62, 61] : List UInt8), 48 ≤ c.toNat by decide) c hc
      · rw [hb] at hc
        exact (show ∀ c ∈ ([60] : List UInt8), 48 ≤ c.toNat by decide) c hc
  · exact (itoa_ch (by have := h.2; omega) c hc).1
theorem jn_mem {sep : List UInt8} : ∀ {xs : List (List UInt8)} {c : UInt8}, c ∈ jn sep xs → c ∈ sep ∨ ∃ x ∈ xs, c ∈ x
  | [], c, h => by simp [jn] at h
  | x :: xs, c, h => by
    rw [jn, List.mem_append] at h
    rcases h with h | h
    · exact .inr ⟨x, List.mem_cons_self .., h⟩
    · obtain ⟨z, hz, hc⟩ := List.mem_flatten.1 h
      obtain ⟨y, hy, rfl⟩ := List.mem_map.1 hz
      rcases List.mem_append.1 hc with hc | hc
      · exact .inl hc
      · exact .inr ⟨y, List.mem_cons_of_mem _ hy, hc⟩
theorem ruleT_ch {l : List TTst} (h : ∀ t ∈ l, TstOK t) : ∀ c ∈ ruleT l, 44 ≤ c.toNat := by
  intro c hc
  unfold ruleT at hc
  rcases jn_mem hc with hc | ⟨x, hx, hc⟩
  · exact (show ∀ c ∈ ([44] : List UInt8), 44 ≤ c.toNat by decide) c hc
  · obtain ⟨t, ht, rfl⟩ := List.mem_map.1 hx
    have := testT_ch (h t ht) c hc
    omega
/-! ### instances of a text -/
abbrev sepR : List UInt8 := [32, 111, 114, 32]
theorem rdI_itoa {n : Int} {r : Int × Bool} (h : RdI (Lib.itoa n) r) (h0 : 0 ≤ n) (h1 : n ≤ 1000) : r = (n, true) :=
  h.one (.inl ⟨n, ⟨rfl, by omega, by omega⟩, rfl⟩)
/-! ### a test, the reference's way -/
def nmO (fu : Nat) (x : List UInt8) (i : Int) : Option TTst :=
  bif decide ((gtD featL i).length < x.length) && (x.take (gtD featL i).length == gtD featL i) then (
    bif bAt (x.drop (gtD featL i).length) 0 == 60 then some (i, ((M_spec_ParseInt fu ((x.drop (gtD featL i).length).drop 1)).getD default).1, true)
    else bif decide (2 < (x.drop (gtD featL i).length).length) && ((x.drop (gtD featL i).length).take 2 == [62, 61]) then some (i, ((M_spec_ParseInt fu ((x.drop (gtD featL i).length).drop 2)).getD default).1, false) else none)
  else none
theorem loop_someS {α β ρ σ : Type} {xs : List α} {V : α → Option β} {f : β → ρ} {e : σ} {L : Nat → Int → Option (Ex ρ σ)}
    (hs : ∀ k (i : Nat) x, xs[i]? = some x → L (k + 1) (i : Int) = match V x with | some v => some (.ret (f v)) | none => L k ((i + 1 : Nat) : Int)) (he : ∀ k, L (k + 1) (xs.length : Int) = some (.go e)) {fu : Nat} (hf : xs.length < fu) :
    L fu (0 : Int) = some (match xs.findSome? V with | some v => .ret (f v) | none => .go e) := by
  have key : ∀ m i k, i + m = xs.length → m < k → L k ((i : Nat) : Int) = some (match (xs.drop i).findSome? V with | some v => .ret (f v) | none => .go e) := by
    intro m
    induction m with
    | zero =>
      intro i k hi hk
      obtain ⟨k, rfl⟩ : ∃ q, k = q + 1 := ⟨k - 1, by omega⟩
      obtain rfl : i = xs.length := by omega
      rw [he, List.drop_length]
      rfl
    | succ m ih =>
      intro i k hi hk
      obtain ⟨k, rfl⟩ : ∃ q, k = q + 1 := ⟨k - 1, by omega⟩
      have hx := List.getElem?_eq_getElem (show i < xs.length by omega)
      rw [hs k i _ hx, drop_cons hx, List.findSome?_cons]
      cases V xs[i]
      · exact ih (i + 1) k (by omega) (by omega)
      · rfl
  have := key xs.length 0 fu (by omega) hf
  rwa [show ((0 : Nat) : Int) = 0 from rfl, List.drop_zero] at this
def six0 : List Int := (List.range 6).map fun (j : Nat) => (j : Int)
theorem six0_at {i : Nat} {n : Int} (h : six0[i]? = some n) : i < 6 ∧ n = (i : Int) := by
  have hi : i < 6 := by have := at_lt h; simpa [six0] using this
  unfold six0 at h
  rw [List.getElem?_map, List.getElem?_range hi] at h
  exact ⟨hi, (Option.some.inj h).symm⟩
def tS (fu : Nat) (x : List UInt8) : TTst := match six0.findSome? (nmO fu x) with | some t => t | none => ((0 : Int), (0 : Int), false)
theorem lt_len {a b : Nat} : decide ((a : Int) < (b : Int)) = decide (a < b) := by
  by_cases h : a < b
  · rw [decide_eq_true h, decide_eq_true (by omega)]
  · rw [decide_eq_false h, decide_eq_false (by omega)]
theorem l14Test_t {fu : Nat} {x : List UInt8} (hf : 1048577 ≤ fu) (hx : x.length ≤ 1048576) : M_spec_l14Test fu x = some (tS fu x) := by
  unfold M_spec_l14Test tS
  have h := loop_someS (xs := six0) (V := nmO fu x) (f := fun t => t) (e := ((0 : Int), (0 : Int), false)) (L := fun k i => M_spec_l14Test_L0 fu x k i ((0 : Int), (0 : Int), false)) (fun k i n hn => by
    obtain ⟨hi, rfl⟩ := six0_at hn
    have hlen := feat_len (i : Int)
    show M_spec_l14Test_L0 fu x (k + 1) (i : Int) _ = _
    rw [M_spec_l14Test_L0, show decide ((i : Int) < (6 : Int)) = true from decide_eq_true (by omega), cond_true, specName_t (by omega) (by omega), cl_true]
    unfold nmO
    generalize hname : gtD featL (i : Int) = nm at hlen
    rw [lt_len]
    by_cases hlt : nm.length < x.length
    · rw [decide_eq_true hlt, subR_k (by omega), Bool.or_true, ck_tt, bd_eq, subL_take]
      cases hb : (x.take nm.length == nm)
      · rw [Bool.and_false, cond_false, cond_false, ck_t (i64B_n (by omega)), succ_i]
      · rw [Bool.and_true, cond_true, cond_true, ck_t (subR_d (by omega)), subL_drop]
        generalize hu : x.drop nm.length = u
        have hul : u.length = x.length - nm.length := by rw [← hu, List.length_drop]
        obtain ⟨r1, hr1, _⟩ := specPI_t (fu := fu) (s := u.drop 1) hf (by rw [List.length_drop]; omega)
        obtain ⟨r2, hr2, _⟩ := specPI_t (fu := fu) (s := u.drop 2) hf (by rw [List.length_drop]; omega)
        have e1 : subL u (1 : Int) (u.length : Int) = u.drop 1 := subL_drop u 1
        have e2 : subL u (2 : Int) (u.length : Int) = u.drop 2 := subL_drop u 2
        have e3 : subL u 0 (2 : Int) = u.take 2 := subL_take u 2
        rw [ck_t (inR_0 (by omega))]
        cases bAt u 0 == 60
        · rw [cond_false, cond_false, e3]
          by_cases h2 : 2 < u.length
          · rw [show decide ((2 : Int) < (u.length : Int)) = true from decide_eq_true (by omega), show subR 0 (2 : Int) u.length = true from subR_k (k := 2) (by omega), Bool.or_true, ck_tt, bd_eq, decide_eq_true h2]
            cases (u.take 2 == [62, 61])
            · rw [Bool.and_false, cond_false, cond_false, ck_t (i64B_n (by omega)), succ_i]
            · rw [Bool.and_true, cond_true, cond_true, ck_t (show subR (2 : Int) (u.length : Int) u.length = true from subR_d (k := 2) (by omega)), e2, hr2, cl_true]
              rfl
          · rw [show decide ((2 : Int) < (u.length : Int)) = false from decide_eq_false (by omega), decide_eq_false h2]
            show ck true _ = _
            rw [ck_tt, bd_eq, Bool.false_and, cond_false, cond_false, ck_t (i64B_n (by omega)), succ_i]
        · rw [cond_true, cond_true, ck_t (show subR (1 : Int) (u.length : Int) u.length = true from subR_d (k := 1) (by omega)), e1, hr1, cl_true]
          rfl
    · rw [decide_eq_false hlt]
      show ck true _ = _
      rw [ck_tt, bd_eq, Bool.false_and, Bool.false_and, cond_false, cond_false, ck_t (i64B_n (by omega)), succ_i]) (fun k => by
    show M_spec_l14Test_L0 fu x (k + 1) (6 : Int) _ = _
    rw [M_spec_l14Test_L0]
    rfl) (show six0.length < fu by have : six0.length = 6 := rfl; omega)
  have h' : M_spec_l14Test_L0 fu x fu (0 : Int) ((0 : Int), ((0 : Int), false)) = _ := h
  rw [h', cl_true]
  cases six0.findSome? (nmO fu x) <;> rfl
theorem findSome_at {α β : Type} {V : α → Option β} {b : β} : ∀ {xs : List α} {i : Nat} {x : α}, xs[i]? = some x → V x = some b → (∀ j y, j < i → xs[j]? = some y → V y = none) → xs.findSome? V = some b
  | [], i, x, h, _, _ => by simp at h
  | z :: xs, 0, x, h, hV, _ => by
    simp at h
    subst h
    rw [List.findSome?_cons, hV]
  | z :: xs, i + 1, x, h, hV, hn => by
    rw [List.findSome?_cons, hn 0 z (by omega) rfl]
    exact findSome_at (i := i) h hV fun j y hj hy => hn (j + 1) y (by omega) hy
theorem tS_t {fu : Nat} {t : TTst} (hf : 1048577 ≤ fu) (h : TstOK t) : tS fu (testT t) = t := by
  obtain ⟨n, thr, below⟩ := t
  obtain ⟨i, e⟩ : ∃ i : Nat, n = i := ⟨n.toNat, by have := h.1; simp only at this; omega⟩
  subst e
  have hi : i < 6 := by have := h.1.2; simp only at this; omega
  have h1 : 1 ≤ thr ∧ thr ≤ 1000 := h.2
  have e5 := itoa_le (n := thr) (by omega) (by omega)
  obtain ⟨r, hr, hd⟩ := specPI_t (fu := fu) (s := Lib.itoa thr) hf (by omega)
  obtain rfl := rdI_itoa hd (by omega) h1.2
  have hne := List.length_pos_iff.2 (itoa_ne (n := thr) (by omega))
  have hat : six0[i]? = some (i : Int) := by
    unfold six0
    rw [List.getElem?_map, List.getElem?_range hi]
    rfl
  have key : six0.findSome? (nmO fu (testT ((i : Int), thr, below))) = some ((i : Int), thr, below) := by
    refine findSome_at hat ?_ fun j y hj hy => ?_
    · unfold nmO testT
      cases below
      · have e1 : (gtD featL (i : Int) ++ ([62, 61] : List UInt8) ++ Lib.itoa thr).take (gtD featL (i : Int)).length = gtD featL (i : Int) := by rw [List.append_assoc, List.take_left]
        have e2 : (gtD featL (i : Int) ++ ([62, 61] : List UInt8) ++ Lib.itoa thr).drop (gtD featL (i : Int)).length = 62 :: 61 :: Lib.itoa thr := by rw [List.append_assoc, List.drop_left]; rfl
        simp only [cond_false, e1, e2, beq_self_eq_true, Bool.and_true]
        rw [decide_eq_true (by simp), cond_true, show (bAt (62 :: 61 :: Lib.itoa thr) 0 == 60) = false from rfl, cond_false, decide_eq_true (by simp; omega)]
        show (bif true && (([62, 61] : List UInt8) == [62, 61]) then some (_, ((M_spec_ParseInt fu (Lib.itoa thr)).getD default).1, false) else none) = _
        rw [hr]
        rfl
      · have e1 : (gtD featL (i : Int) ++ ([60] : List UInt8) ++ Lib.itoa thr).take (gtD featL (i : Int)).length = gtD featL (i : Int) := by rw [List.append_assoc, List.take_left]
        have e2 : (gtD featL (i : Int) ++ ([60] : List UInt8) ++ Lib.itoa thr).drop (gtD featL (i : Int)).length = 60 :: Lib.itoa thr := by rw [List.append_assoc, List.drop_left]; rfl
        simp only [cond_true, e1, e2, beq_self_eq_true, Bool.and_true]
        rw [decide_eq_true (by simp), cond_true, show (bAt (60 :: Lib.itoa thr) 0 == 60) = true from rfl, cond_true]
        show some (_, ((M_spec_ParseInt fu (Lib.itoa thr)).getD default).1, true) = _
        rw [hr]
        rfl
    · obtain ⟨hj6, rfl⟩ := six0_at hy
      unfold nmO testT
      rw [List.append_assoc, take_ne (name_ne hi) (name_ne hj6) (name_hd hi hj6 (by omega)), Bool.and_false]
      rfl
  unfold tS
  rw [key]
end Go.Proofs.Ytmkgocdgkdglnaa
/- Plain: what the law ParseRules asks: both parsers undo the format. No statement of the seat is proved here. -/
namespace Go.Proofs.Ytmkgocdgkdglnaa
open Go.RowKit
set_option linter.unusedVariables false
set_option linter.unusedSimpArgs false

def frT (R : List (List TTst)) : List UInt8 := jn sepR (R.map ruleT)
def fr (R : List (List TTst)) : List UInt8 := bif rsB R then frT R else []
/-! ### the program's loops -/
theorem rule_parts {l : List TTst} (h : ∀ t ∈ l, TstOK t) (hl : l ≠ []) : spC 44 (ruleT l) = l.map testT := by
  have hno : ∀ y ∈ l.map testT, (44 : UInt8) ∉ y := fun y hy => by
    obtain ⟨t, ht, rfl⟩ := List.mem_map.1 hy
    exact not_in (testT_ch (h t ht)) (by decide)
  cases l with
  | nil => exact (hl rfl).elim
  | cons t l => exact spC_jn hno
theorem rs_ok2 {R : List (List TTst)} (h : rsB R = true) : 1 ≤ R.length ∧ R.length ≤ 3 ∧ ∀ l ∈ R, (l ≠ [] ∧ l.length ≤ 3) ∧ ∀ t ∈ l, TstOK t := by
  obtain ⟨h1, h2⟩ := rsB_len h
  unfold rsB at h
  rw [Bool.and_eq_true, inI_iff] at h
  obtain ⟨⟨h3, _⟩, h4⟩ := h
  refine ⟨by omega, h1, fun l hl => ⟨⟨fun e => ?_, (h2 l hl).1⟩, (h2 l hl).2⟩⟩
  subst e
  have : (R.any fun l => !(ruleB l)) = true := List.any_eq_true.2 ⟨[], hl, rfl⟩
  rw [this] at h4
  cases h4
theorem ruleT_no {l : List TTst} (h : ∀ t ∈ l, TstOK t) : (32 : UInt8) ∉ ruleT l := not_in (ruleT_ch h) (by decide)
theorem frT_ne {R : List (List TTst)} (h : rsB R = true) : frT R ≠ [] := by
  obtain ⟨h1, _, h3⟩ := rs_ok2 h
  match R, h1, h3 with
  | l :: R, _, h3 =>
    obtain ⟨⟨hl, _⟩, ht⟩ := h3 l (List.mem_cons_self ..)
    match l, hl, ht with
    | t :: l, _, ht =>
      have hk := ht t (List.mem_cons_self ..)
      obtain ⟨i, e⟩ : ∃ i : Nat, t.1 = i := ⟨t.1.toNat, by have := hk.1; omega⟩
      have hn := name_ne (i := i) (by have := hk.1; omega)
      unfold frT ruleT
      rw [List.map_cons, List.map_cons, jn, jn]
      unfold testT
      rw [e]
      intro h
      simp at h
      exact hn h.1
/-- what both parsers keep -/
structure PRk (s : List UInt8) (r : List (List TTst) × Bool) : Prop where
  no : r = ([], false) ∨ ∃ R, r = (R, true) ∧ fr R = s ∧ s ≠ []
  yes : ∀ R, rsB R = true → frT R = s → r = (R, true)
theorem fr_of {R : List (List TTst)} {s : List UInt8} (h : fr R = s) (hs : s ≠ []) : rsB R = true ∧ frT R = s := by
  unfold fr at h
  cases hv : rsB R
  · rw [hv] at h
    exact (hs h.symm).elim
  · rw [hv] at h
    exact ⟨rfl, h⟩
theorem PRk.one {s : List UInt8} {r q : List (List TTst) × Bool} (h : PRk s r) (k : PRk s q) : r = q := by
  rcases h.no with h1 | ⟨R, h1, h2, h3⟩
  · rcases k.no with k1 | ⟨Q, k1, k2, k3⟩
    · rw [h1, k1]
    · obtain ⟨a, b⟩ := fr_of k2 k3
      rw [h.yes Q a b, k1]
  · obtain ⟨a, b⟩ := fr_of h2 h3
    rw [h1, k.yes R a b]
/-! ### the reference's loops -/
theorem loop_takeN {α β : Type} {xs : List α} {N : Nat} {f : α → β} {L : Nat → Int → List β → Option (List β)}
    (hs : ∀ k (i : Nat) acc x, xs[i]? = some x → i < N → acc.length = i → L (k + 1) (i : Int) acc = L k ((i + 1 : Nat) : Int) (acc ++ [f x]))
    (he : ∀ k (i : Nat) acc, (i = xs.length ∨ i = N) → L (k + 1) (i : Int) acc = some acc) {fu : Nat} (hf : N < fu) : L fu (0 : Int) [] = some ((xs.take N).map f) := by
  have key : ∀ m i k acc, i + m = N → i ≤ xs.length → m < k → acc.length = i → L k ((i : Nat) : Int) acc = some (acc ++ ((xs.drop i).take m).map f) := by
    intro m
    induction m with
    | zero =>
      intro i k acc hi hl hk ha
      obtain ⟨k, rfl⟩ : ∃ q, k = q + 1 := ⟨k - 1, by omega⟩
      rw [he k i acc (.inr (by omega)), List.take_zero, List.map_nil, List.append_nil]
    | succ m ih =>
      intro i k acc hi hl hk ha
      obtain ⟨k, rfl⟩ : ∃ q, k = q + 1 := ⟨k - 1, by omega⟩
      by_cases hlt : i < xs.length
      · have hx := List.getElem?_eq_getElem hlt
        rw [hs k i acc _ hx (by omega) ha, ih (i + 1) k _ (by omega) (by omega) (by omega) (by rw [List.length_append, List.length_singleton, ha]), drop_cons hx, List.take_succ_cons, List.map_cons, List.append_assoc]
        rfl
      · rw [he k i acc (.inl (by omega)), List.drop_eq_nil_of_le (by omega), List.take_nil, List.map_nil, List.append_nil]
  have := key N 0 fu [] (by omega) (Nat.zero_le _) hf rfl
  rwa [show ((0 : Nat) : Int) = 0 from rfl, List.drop_zero, List.nil_append] at this
def rulS (fu : Nat) (q : List UInt8) : List TTst := ((spC 44 q).take 4).map (tS fu)
theorem specL1_t {fu : Nat} {q : List UInt8} (hf : 1048577 ≤ fu) (hq : q.length ≤ 1048576) : M_spec_ParseRules_L1 fu (spC 44 q) fu (0 : Int) [] = some (rulS fu q) := by
  refine loop_takeN (xs := spC 44 q) (N := 4) (f := tS fu) (L := M_spec_ParseRules_L1 fu (spC 44 q)) (fun k i acc x hx h4 ha => ?_) (fun k i acc h => ?_) (show 4 < fu by omega)
  · have hi := at_lt hx
    have hxl := spC_mem 44 q x (at_mem hx)
    rw [M_spec_ParseRules_L1, bd_eq, lt_t hi, decide_eq_true (show (i : Int) ≤ 3 by omega), Bool.and_self, cond_true, ck_t (inR_t hi), gtD_get hx, l14Test_t hf (by omega), cl_true, ck_t (lenOK_t (by rw [List.length_singleton]; omega)), ck_t (i64B_n (by omega)), succ_i]
  · have hc : (decide ((i : Int) < ((spC 44 q).length : Int)) && decide ((i : Int) ≤ 3)) = false := by
      rw [Bool.and_eq_false_imp, decide_eq_true_eq, decide_eq_false_iff_not]
      omega
    rw [M_spec_ParseRules_L1, bd_eq, hc]
    rfl
def goN {α σ : Type} (g : Nat → σ → α → σ) (xs : List α) : Nat → Nat → σ → σ
  | 0, _, s => s
  | m + 1, i, s => match xs[i]? with
    | some x => goN g xs m (i + 1) (g i s x)
    | none => s
theorem loop_goN {α σ : Type} {xs : List α} {N : Nat} {g : Nat → σ → α → σ} {Inv : Nat → σ → Prop} {L : Nat → Int → σ → Option σ}
    (hs : ∀ k (i : Nat) s x, xs[i]? = some x → i < N → Inv i s → L (k + 1) (i : Int) s = L k ((i + 1 : Nat) : Int) (g i s x)) (hI : ∀ (i : Nat) s x, xs[i]? = some x → Inv i s → Inv (i + 1) (g i s x))
    (he : ∀ k (i : Nat) s, (xs.length ≤ i ∨ i = N) → L (k + 1) (i : Int) s = some s) {s : σ} (h0 : Inv 0 s) {fu : Nat} (hf : N < fu) :
    L fu (0 : Int) s = some (goN g xs N 0 s) ∧ ∃ i, i ≤ N ∧ Inv i (goN g xs N 0 s) := by
  have key : ∀ m i k s, i + m = N → m < k → Inv i s → L k ((i : Nat) : Int) s = some (goN g xs m i s) ∧ ∃ j, j ≤ N ∧ Inv j (goN g xs m i s) := by
    intro m
    induction m with
    | zero =>
      intro i k s hi hk hv
      obtain ⟨k, rfl⟩ : ∃ q, k = q + 1 := ⟨k - 1, by omega⟩
      exact ⟨he k i s (.inr (by omega)), i, by omega, hv⟩
    | succ m ih =>
      intro i k s hi hk hv
      obtain ⟨k, rfl⟩ : ∃ q, k = q + 1 := ⟨k - 1, by omega⟩
      by_cases hlt : i < xs.length
      · have hx := List.getElem?_eq_getElem hlt
        have e : goN g xs (m + 1) i s = goN g xs m (i + 1) (g i s xs[i]) := by rw [goN, hx]
        rw [e, hs k i s _ hx (by omega) hv]
        exact ih (i + 1) k _ (by omega) (by omega) (hI i s _ hx hv)
      · have hx : xs[i]? = none := List.getElem?_eq_none (by omega)
        have e : goN g xs (m + 1) i s = s := by rw [goN, hx]
        rw [e]
        exact ⟨he k i s (.inl (by omega)), i, by omega, hv⟩
  exact key N 0 fu s (by omega) hf h0
def gS (fu : Nat) (i : Nat) (acc : List (List TTst)) (q : List UInt8) : List (List TTst) := bif i % 2 == 1 then acc else acc ++ [rulS fu q]
theorem specL0_t {fu : Nat} {s : List UInt8} (hf : 1048577 ≤ fu) (hs : s.length ≤ 1048576) : ∃ R, M_spec_ParseRules_L0 fu (spC 32 s) fu (0 : Int) [] [] = some R ∧ R = goN (gS fu) (spC 32 s) 7 0 [] ∧ RsOK R := by
  have h := loop_goN (xs := spC 32 s) (N := 7) (g := gS fu) (Inv := fun i acc => acc.length ≤ i ∧ ∀ l ∈ acc, l.length ≤ 4) (L := fun k i acc => M_spec_ParseRules_L0 fu (spC 32 s) k i acc []) (fun k i acc q hx h7 hv => by
    have hi := at_lt hx
    have hql := spC_mem 32 s q (at_mem hx)
    show M_spec_ParseRules_L0 fu (spC 32 s) (k + 1) (i : Int) acc [] = _
    rw [M_spec_ParseRules_L0, bd_eq, lt_t hi, decide_eq_true (show (i : Int) ≤ 6 by omega), Bool.and_self, cond_true]
    show (bif ((((i % 2 : Nat) : Int)) == (1 : Int)) then _ else _) = _
    have e : ((((i % 2 : Nat) : Int)) == (1 : Int)) = (i % 2 == 1) := by
      rcases Nat.mod_two_eq_zero_or_one i with h | h <;> rw [h] <;> rfl
    rw [e]
    unfold gS
    cases i % 2 == 1
    · have hcut : M_spec_l2Cut fu q (44 : Int) = some (spC 44 q) := l2Cut_t (c := 44) hf (by omega)
      rw [cond_false, cond_false, ck_t (inR_t hi), gtD_get hx, hcut, cl_true, specL1_t hf (by omega), cl_true, ck_t (lenOK_t (by first | (rw [List.length_singleton]; have := hv.1; omega) | (have := hv.1; omega))), ck_t (i64B_n (by omega)), succ_i]
    · rw [cond_true, cond_true, ck_t (i64B_n (by omega)), succ_i]) (fun i acc q hx hv => by
    unfold gS
    cases i % 2 == 1
    · refine ⟨?_, fun l hl => ?_⟩
      · have := hv.1
        rw [cond_false, List.length_append, List.length_singleton]
        omega
      · rw [cond_false] at hl
        rcases List.mem_append.1 hl with hl | hl
        · exact hv.2 l hl
        · rw [List.mem_singleton.1 hl]
          unfold rulS
          rw [List.length_map, List.length_take]
          omega
    · exact ⟨Nat.le_succ_of_le hv.1, hv.2⟩) (fun k i acc h => by
    have hc : (decide ((i : Int) < ((spC 32 s).length : Int)) && decide ((i : Int) ≤ 6)) = false := by
      rw [Bool.and_eq_false_imp, decide_eq_true_eq, decide_eq_false_iff_not]
      omega
    show M_spec_ParseRules_L0 fu (spC 32 s) (k + 1) (i : Int) acc [] = _
    rw [M_spec_ParseRules_L0, bd_eq, hc]
    rfl) (s := []) ⟨Nat.le_refl _, fun l hl => by cases hl⟩ (show 7 < fu by omega)
  obtain ⟨h1, j, hj, h2, h3⟩ := h
  exact ⟨_, h1, rfl, by omega, fun l hl => by have := h3 l hl; omega⟩
theorem rulS_t {fu : Nat} {l : List TTst} (hf : 1048577 ≤ fu) (h : ∀ t ∈ l, TstOK t) (hl : l ≠ []) (h3 : l.length ≤ 3) : rulS fu (ruleT l) = l := by
  unfold rulS
  rw [rule_parts h hl, List.take_of_length_le (by rw [List.length_map]; omega), List.map_map]
  refine (List.map_congr_left fun t ht => ?_).trans (List.map_id l)
  exact tS_t hf (h t ht)
theorem spC_or {x y : List UInt8} (hx : (32 : UInt8) ∉ x) : spC 32 (x ++ sepR ++ y) = x :: [111, 114] :: spC 32 y := by
  rw [List.append_assoc]
  show spC 32 (x ++ 32 :: (([111, 114] : List UInt8) ++ 32 :: y)) = _
  rw [spC_app hx, spC_app (by decide)]
theorem specPR_t {fu : Nat} {s : List UInt8} (hf : 1048577 ≤ fu) (hs : s.length ≤ 1048576) : ∃ r, M_spec_ParseRules fu s = some r ∧ PRk s r := by
  unfold M_spec_ParseRules
  have hcut : M_spec_l2Cut fu s (32 : Int) = some (spC 32 s) := l2Cut_t (c := 32) hf hs
  obtain ⟨Q, hQ, eQ, hok⟩ := specL0_t (fu := fu) hf hs
  have efr : M_spec_FormatRules fu Q = some (fr Q) := specFR_t hf hok
  rw [hcut, cl_true, hQ, cl_true, efr, cl_if, bd_eq]
  have hval : ∀ R, rsB R = true → frT R = s → Q = R := fun R hv e => by
    obtain ⟨k1, k2, k3⟩ := rs_ok2 hv
    have hr : ∀ l ∈ R, rulS fu (ruleT l) = l ∧ (32 : UInt8) ∉ ruleT l := fun l hl => ⟨rulS_t hf (k3 l hl).2 (k3 l hl).1.1 (k3 l hl).1.2, ruleT_no (k3 l hl).2⟩
    rw [eQ, ← e]
    unfold frT
    match R, k1, k2, hr with
    | [a], _, _, hr =>
      obtain ⟨a1, a2⟩ := hr a (by simp)
      rw [List.map_cons, List.map_nil, jn_one, spC_none a2]
      show ([] ++ [rulS fu (ruleT a)]) = _
      rw [a1]
      rfl
    | [a, b], _, _, hr =>
      obtain ⟨a1, a2⟩ := hr a (by simp)
      obtain ⟨b1, b2⟩ := hr b (by simp)
      have e2 : jn sepR ([a, b].map ruleT) = ruleT a ++ sepR ++ ruleT b := by simp [jn]
      rw [e2, spC_or a2, spC_none b2]
      show ([] ++ [rulS fu (ruleT a)] ++ [rulS fu (ruleT b)]) = _
      rw [a1, b1]
      rfl
    | [a, b, c], _, _, hr =>
      obtain ⟨a1, a2⟩ := hr a (by simp)
      obtain ⟨b1, b2⟩ := hr b (by simp)
      obtain ⟨c1, c2⟩ := hr c (by simp)
      have e2 : jn sepR ([a, b, c].map ruleT) = ruleT a ++ sepR ++ (ruleT b ++ sepR ++ ruleT c) := by simp [jn]
      rw [e2, spC_or a2, spC_or b2, spC_none c2]
      show ([] ++ [rulS fu (ruleT a)] ++ [rulS fu (ruleT b)] ++ [rulS fu (ruleT c)]) = _
      rw [a1, b1, c1]
      rfl
  cases hn : (s == [])
  · have hne : s ≠ [] := by simpa using hn
    rw [show (bif (true && (false == false)) then fr Q else default) = fr Q from rfl, Bool.false_or]
    cases hb : (fr Q == s)
    · refine ⟨_, rfl, .inl rfl, fun R hv e => ?_⟩
      obtain rfl := hval R hv e
      have : fr Q = s := by unfold fr; rw [hv]; exact e
      rw [this] at hb
      simp at hb
    · refine ⟨_, rfl, .inr ⟨_, rfl, eq_of_beq hb, hne⟩, fun R hv e => ?_⟩
      rw [hval R hv e]
  · refine ⟨_, rfl, .inl rfl, fun R hv e => ?_⟩
    have e0 : s = [] := by simpa using hn
    exact absurd (e.trans e0) (frT_ne hv)
end Go.Proofs.Ytmkgocdgkdglnaa
/- Plain: the drawing functions give something, and nothing long. No statement of the seat is proved here. -/
namespace Go.Proofs.Ytmkgocdgkdglnaa
open Go.RowKit
set_option linter.unusedVariables false
set_option linter.unusedSimpArgs false

/-- something is given, and P holds of it -/
def Sm {α : Type} (o : Option α) (P : α → Prop) : Prop := ∃ r, o = some r ∧ P r
section
variable {α β : Type}
theorem Sm.some {r : α} {P : α → Prop} (h : P r) : Sm (some r) P := ⟨r, rfl, h⟩
theorem Sm.cl [Inhabited α] {o : Option α} {P : α → Prop} {k : α → Option β} {Q : β → Prop} (h : Sm o P) (hk : ∀ r, P r → Sm (k r) Q) : Sm (cl true o k) Q := by
  obtain ⟨r, rfl, hr⟩ := h
  rw [cl_true]
  exact hk r hr
theorem Sm.ck {o : Option α} {P : α → Prop} {b : Bool} (hb : b = true) (h : Sm o P) : Sm (ck b o) P := by rw [ck_t hb]; exact h
theorem Sm.bd {e : α} {k : α → Option β} {Q : β → Prop} (h : Sm (k e) Q) : Sm (bd e k) Q := h
theorem Sm.bif {x y : Option α} {P : α → Prop} {b : Bool} (h1 : b = true → Sm x P) (h2 : b = false → Sm y P) : Sm (bif b then x else y) P := by
  cases b
  · exact h2 rfl
  · exact h1 rfl
theorem Sm.mono {o : Option α} {P Q : α → Prop} (h : Sm o P) (hq : ∀ r, P r → Q r) : Sm o Q := let ⟨r, e, hr⟩ := h; ⟨r, e, hq r hr⟩
end
abbrev TCur := List Int × Int × Int
/-- a cursor over bytes -/
def COK (c : TCur) : Prop := c.1.length ≤ 1048576 ∧ (∀ x ∈ c.1, 0 ≤ x ∧ x ≤ 255) ∧ 0 ≤ c.2.1
theorem i64_wrap {n : Int} (h0 : -9223372036854775808 ≤ n) (h1 : n ≤ 9223372036854775807) : IntKind.i64.wrap n = n := IntWalk.i64_in _ (by omega)
theorem bit_le (a : Int) {m : Nat} (hm : m ≤ 4611686018427387904) : 0 ≤ bitI (fun u v => u &&& v) .i64 a (m : Int) ∧ bitI (fun u v => u &&& v) .i64 a (m : Int) ≤ m := by
  unfold bitI
  dsimp only
  have h : ((BitVec.ofInt IntKind.i64.bits a) &&& (BitVec.ofInt IntKind.i64.bits (m : Int))).toNat ≤ m := by
    rw [BitVec.toNat_and]
    refine Nat.le_trans Nat.and_le_right ?_
    rw [show (BitVec.ofInt IntKind.i64.bits (m : Int)) = BitVec.ofNat IntKind.i64.bits m from BitVec.ofInt_natCast _ _, BitVec.toNat_ofNat]
    exact Nat.mod_le _ _
  rw [i64_wrap (by omega) (by omega)]
  omega
theorem gtD_mem {α : Type} [Inhabited α] {xs : List α} {i : Int} (h0 : 0 ≤ i) (h1 : i < xs.length) : gtD xs i ∈ xs := by
  obtain ⟨n, rfl⟩ : ∃ n : Nat, i = (n : Int) := ⟨i.toNat, by omega⟩
  have hn : n < xs.length := by omega
  rw [gtD_get (List.getElem?_eq_getElem hn)]
  exact List.getElem_mem hn
theorem new_t {fu : Nat} {b : List Int} (hf : 1048577 ≤ fu) (hb : b.length ≤ 1048576) (hx : ∀ x ∈ b, 0 ≤ x ∧ x ≤ 255) : Sm (M_spec_l1New fu b) COK := by
  unfold M_spec_l1New
  refine .ck (i64B_t (by omega) (by omega)) ?_
  have key : ∀ m i k (h : Int), i + m = b.length → m < k → 0 ≤ h → h ≤ 1100000000 → Sm (M_spec_l1New_L0 fu b k h (i : Int)) fun _ => True := by
    intro m
    induction m with
    | zero =>
      intro i k h hi hk h0 h1
      obtain ⟨k, rfl⟩ : ∃ q, k = q + 1 := ⟨k - 1, by omega⟩
      obtain rfl : i = b.length := by omega
      rw [M_spec_l1New_L0, lt_f]
      exact .some trivial
    | succ m ih =>
      intro i k h hi hk h0 h1
      obtain ⟨k, rfl⟩ : ∃ q, k = q + 1 := ⟨k - 1, by omega⟩
      have hlt : i < b.length := by omega
      have hm := hx _ (gtD_mem (xs := b) (i := (i : Int)) (by omega) (by omega))
      rw [M_spec_l1New_L0]
      refine .bd (.bif (fun _ => ?_) fun _ => .some trivial)
      rw [i64_wrap (n := gtD b (i : Int)) (by omega) (by omega)]
      refine .ck (i64B_t (by omega) (by omega)) (.ck (inR_t hlt) (.ck (i64B_t (by omega) (by omega)) (.ck (i64B_t (by omega) (by omega)) (.ck (i64B_n (by omega)) ?_))))
      have hq := bit_le (h * 131 + gtD b (i : Int) + 7) (m := 1073741823) (by omega)
      exact ih (i + 1) k _ (by omega) (by omega) hq.1 (Int.le_trans hq.2 (by omega))
  refine .cl (key b.length 0 fu _ (by omega) (by omega) (by omega) (by omega)) fun s _ => .some ⟨hb, hx, Int.le_refl _⟩
theorem byte_t {fu : Nat} {c : TCur} (hc : COK c) : Sm (M_spec_l1Byte fu c) fun r => COK r.2 ∧ 0 ≤ r.1 ∧ r.1 ≤ 255 := by
  unfold M_spec_l1Byte
  refine .ck rfl (.ck rfl (.bif (fun h => ?_) fun h => ?_))
  · rw [decide_eq_true_eq] at h
    replace h : c.2.1 < (c.1.length : Int) := h
    have hi := hc.2.2
    have hl := hc.1
    refine .ck (inR_iff.2 ⟨hi, h⟩) (.some ⟨⟨hl, hc.2.1, ?_⟩, bit_le _ (m := 255) (by omega)⟩)
    show 0 ≤ IntKind.i64.wrap (c.2.1 + 1)
    rw [i64_wrap (by omega) (by omega)]
    omega
  · exact .some ⟨⟨hc.1, hc.2.1, hc.2.2⟩, bit_le _ (m := 255) (by omega)⟩
theorem tmod_in {x n : Int} (h0 : 0 ≤ x) (hn : 0 < n) : 0 ≤ x.tmod n ∧ x.tmod n < n := ⟨Int.tmod_nonneg _ h0, Int.tmod_lt_of_pos _ hn⟩
theorem below_t {fu : Nat} {c : TCur} {n : Int} (hc : COK c) : Sm (M_spec_l1Below fu c n) fun r => COK r.2 ∧ 0 ≤ r.1 ∧ (0 < n → r.1 < n) := by
  unfold M_spec_l1Below
  refine .bif (fun h => ?_) fun h => ?_
  · rw [decide_eq_true_eq] at h
    exact .some ⟨hc, Int.le_refl _, fun h' => by omega⟩
  · rw [decide_eq_false_iff_not] at h
    have hn : (n != 0) = true := by simp; omega
    refine .bif (fun _ => ?_) fun _ => ?_
    · refine .cl (byte_t hc) fun r hr => .ck hn (.some ?_)
      have := tmod_in (n := n) hr.2.1 (by omega)
      exact ⟨hr.1, this.1, fun _ => this.2⟩
    · refine .cl (byte_t hc) fun r1 h1 => .cl (byte_t h1.1) fun r2 h2 => .cl (byte_t h2.1) fun r3 h3 => .cl (byte_t h3.1) fun r4 h4 => ?_
      have a1 := h1.2; have a2 := h2.2; have a3 := h3.2; have a4 := h4.2
      refine .ck (i64B_t (by omega) (by omega)) (.ck (i64B_t (by omega) (by omega)) (.ck (i64B_t (by omega) (by omega)) (.ck (i64B_t (by omega) (by omega)) (.ck (i64B_t (by omega) (by omega)) (.ck (i64B_t (by omega) (by omega)) (.ck hn (.some ?_)))))))
      have := tmod_in (x := r1.1 * 16777216 + r2.1 * 65536 + r3.1 * 256 + r4.1) (n := n) (by omega) (by omega)
      exact ⟨h4.1, this.1, fun _ => this.2⟩
theorem once_t {fu : Nat} {c : TCur} {n : Int} (hc : COK c) : Sm (M_spec_l1Once fu c n) fun r => COK r.2 := by
  unfold M_spec_l1Once
  exact .cl (below_t hc) fun r hr => .some hr.1
theorem pick_t {fu : Nat} {c : TCur} {l : List (List UInt8)} (hc : COK c) (hl : 0 < l.length) : Sm (M_spec_l1Pick fu c l) fun r => COK r.2 ∧ r.1 ∈ l := by
  unfold M_spec_l1Pick
  refine .cl (below_t hc) fun r hr => ?_
  have h1 := hr.2.2 (by omega)
  exact .ck (inR_iff.2 ⟨hr.2.1, h1⟩) (.some ⟨hr.1, gtD_mem hr.2.1 h1⟩)
theorem pickInt_t {fu : Nat} {c : TCur} {l : List Int} (hc : COK c) (hl : 0 < l.length) : Sm (M_spec_l1PickInt fu c l) fun r => COK r.2 ∧ r.1 ∈ l := by
  unfold M_spec_l1PickInt
  refine .cl (below_t hc) fun r hr => ?_
  have h1 := hr.2.2 (by omega)
  exact .ck (inR_iff.2 ⟨hr.2.1, h1⟩) (.some ⟨hr.1, gtD_mem hr.2.1 h1⟩)
theorem take_len {α : Type} {xs : List α} {lo hi : Int} : (subL xs lo hi).length ≤ xs.length := by
  unfold subL
  rw [List.length_take, List.length_drop]
  omega
end Go.Proofs.Ytmkgocdgkdglnaa
/- Plain: what the law FnMonotone asks: what is drawn, domination, the grid of levels. No statement of the seat is proved here. -/
namespace Go.Proofs.Ytmkgocdgkdglnaa
open Go.RowKit
set_option linter.unusedVariables false
set_option linter.unusedSimpArgs false

/-! ### the known rules -/
theorem it3 {n : Nat} {a b c : Nat} (h : n = a * 100 + b * 10 + c) (ha : 0 < a) (h1 : a < 10) (h2 : b < 10) (h3 : c < 10) : Lib.itoa (n : Int) = [UInt8.ofNat (48 + a), UInt8.ofNat (48 + b), UInt8.ofNat (48 + c)] := by
  rw [itoa_pos (by omega), Int.toNat_natCast, dec_big (by omega), dec_big (by omega), dec_small (by omega), show n % 10 = c by omega, show n / 10 % 10 = b by omega, show n / 10 / 10 = a by omega]
  rfl
theorem it1000 : Lib.itoa 1000 = [49, 48, 48, 48] := by
  rw [itoa_pos (by omega)]
  show Lib.decDigits 1000 = _
  rw [dec_big (by omega), dec_big (by omega), dec_big (by omega), dec_small (by omega)]
  rfl
theorem it400 : Lib.itoa 400 = [52, 48, 48] := it3 (n := 400) (a := 4) (b := 0) (c := 0) rfl (by omega) (by omega) (by omega) (by omega)
theorem it500 : Lib.itoa 500 = [53, 48, 48] := it3 (n := 500) (a := 5) (b := 0) (c := 0) rfl (by omega) (by omega) (by omega) (by omega)
theorem it600 : Lib.itoa 600 = [54, 48, 48] := it3 (n := 600) (a := 6) (b := 0) (c := 0) rfl (by omega) (by omega) (by omega) (by omega)
theorem it700 : Lib.itoa 700 = [55, 48, 48] := it3 (n := 700) (a := 7) (b := 0) (c := 0) rfl (by omega) (by omega) (by omega) (by omega)
theorem it800 : Lib.itoa 800 = [56, 48, 48] := it3 (n := 800) (a := 8) (b := 0) (c := 0) rfl (by omega) (by omega) (by omega) (by omega)
theorem it900 : Lib.itoa 900 = [57, 48, 48] := it3 (n := 900) (a := 9) (b := 0) (c := 0) rfl (by omega) (by omega) (by omega) (by omega)
def knw : List (List (List TTst)) := [[[(0, 800, false), (5, 800, false)]], [[(0, 900, false)], [(1, 500, false), (5, 400, false)]], [[(2, 500, false), (4, 700, false)], [(5, 1000, false)]], [[(0, 700, false), (4, 500, true)]], [[(1, 1000, false)], [(0, 800, false), (3, 500, false), (4, 800, false)], [(5, 1000, false)]], [[(5, 500, true)], [(5, 500, false)]], [[(0, 600, false)]]]
def lit : List (List UInt8) := [[110, 97, 109, 101, 62, 61, 56, 48, 48, 44, 112, 104, 111, 110, 101, 62, 61, 56, 48, 48], [110, 97, 109, 101, 62, 61, 57, 48, 48, 32, 111, 114, 32, 116, 111, 107, 101, 110, 115, 62, 61, 53, 48, 48, 44, 112, 104, 111, 110, 101, 62, 61, 52, 48, 48], [115, 111, 117, 110, 100, 62, 61, 53, 48, 48, 44, 121, 101, 97, 114, 62, 61, 55, 48, 48, 32, 111, 114, 32, 112, 104, 111, 110, 101, 62, 61, 49, 48, 48, 48], [110, 97, 109, 101, 62, 61, 55, 48, 48, 44, 121, 101, 97, 114, 60, 53, 48, 48], [116, 111, 107, 101, 110, 115, 62, 61, 49, 48, 48, 48, 32, 111, 114, 32, 110, 97, 109, 101, 62, 61, 56, 48, 48, 44, 99, 105, 116, 121, 62, 61, 53, 48, 48, 44, 121, 101, 97, 114, 62, 61, 56, 48, 48, 32, 111, 114, 32, 112, 104, 111, 110, 101, 62, 61, 49, 48, 48, 48], [112, 104, 111, 110, 101, 60, 53, 48, 48, 32, 111, 114, 32, 112, 104, 111, 110, 101, 62, 61, 53, 48, 48], [110, 97, 109, 101, 62, 61, 54, 48, 48]]
theorem knw_lit : knw.map frT = lit := by
  unfold knw
  simp only [List.map_cons, List.map_nil, frT, ruleT, testT, jn, it400, it500, it600, it700, it800, it900, it1000, cond_true, cond_false]
  rfl
theorem knw_ok : ∀ R ∈ knw, rsB R = true := by decide
theorem lit_len : ∀ s ∈ lit, s.length ≤ 100 := by decide
def RB (r : List (List TTst)) : Prop := r ≠ [] ∧ r.length ≤ 3 ∧ ∀ l ∈ r, l ≠ [] ∧ l.length ≤ 3
theorem known_t {fu : Nat} {c : TCur} (hf : 1048577 ≤ fu) (hc : COK c) : Sm (M_spec_l14Known fu c) fun r => COK r.2 ∧ RB r.1 := by
  unfold M_spec_l14Known
  refine Sm.cl (pick_t (l := lit) hc (by decide)) fun p ⟨h1, h2⟩ => ?_
  have hl := lit_len _ h2
  rw [← knw_lit] at h2
  obtain ⟨R, hR, e⟩ := List.mem_map.1 h2
  have hv := knw_ok R hR
  obtain ⟨r, hr, hk⟩ := specPR_t (fu := fu) (s := p.1) hf (by omega)
  rw [hr, cl_true, hk.yes R hv e]
  obtain ⟨k1, k2, k3⟩ := rs_ok2 hv
  exact Sm.some ⟨h1, fun e => (by have e : R = [] := e; rw [e] at k1; simp at k1), k2, fun l hl => (k3 l hl).1⟩
/-! ### drawn rules -/
theorem rulesL1_t {fu : Nat} (hf : 1048577 ≤ fu) : ∀ (m i k : Nat) (c : TCur) (l : List TTst), i + m = 6 → m < k → COK c → l.length ≤ 3 → (m = 0 → l ≠ []) → Sm (M_spec_l14Rules_L1 fu k (i : Int) c l) fun r => COK r.1 ∧ r.2 ≠ [] ∧ r.2.length ≤ 3 := by
  intro m
  induction m with
  | zero =>
    intro i k c l hi hk hc hl hn
    obtain ⟨k, rfl⟩ : ∃ q, k = q + 1 := ⟨k - 1, by omega⟩
    rw [M_spec_l14Rules_L1, decide_eq_false (by omega), cond_false]
    exact Sm.some ⟨hc, hn rfl, hl⟩
  | succ m ih =>
    intro i k c l hi hk hc hl hn
    obtain ⟨k, rfl⟩ : ∃ q, k = q + 1 := ⟨k - 1, by omega⟩
    rw [M_spec_l14Rules_L1, decide_eq_true (by omega), cond_true]
    by_cases h3 : l.length < 3
    · rw [decide_eq_true (by omega), cond_true]
      refine Sm.cl (once_t hc) fun x hx => ?_
      rw [bd_eq, bd_eq, bd_eq, Bool.true_and]
      refine Sm.bif (fun h => ?_) fun h => ?_
      · refine Sm.cl (pickInt_t hx (by decide)) fun y hy => Sm.cl (once_t hy.1) fun z hz => ?_
        refine Sm.ck (lenOK_t (by rw [List.length_singleton]; omega)) (Sm.ck (i64B_n (by omega)) ?_)
        exact ih (i + 1) k _ _ (by omega) (by omega) hz (by rw [List.length_append, List.length_singleton]; omega) fun _ => by simp
      · refine Sm.ck (i64B_n (by omega)) ?_
        refine ih (i + 1) k _ _ (by omega) (by omega) hx hl fun e hl0 => ?_
        have h5 : i = 5 := by omega
        subst h5
        rw [hl0, Bool.or_eq_false_iff] at h
        exact absurd h.2 (by decide)
    · rw [decide_eq_false (by omega), cond_false]
      refine Sm.ck (i64B_n (by omega)) ?_
      exact ih (i + 1) k _ _ (by omega) (by omega) hc hl fun _ e => by rw [e] at h3; exact h3 (by decide)
theorem rulesL0_t {fu : Nat} (hf : 1048577 ≤ fu) : ∀ (n k : Nat) (c : TCur) (r : List (List TTst)), n < k → COK c → r.length + n ≤ 3 → (n = 0 → r ≠ []) → (∀ l ∈ r, l ≠ [] ∧ l.length ≤ 3) → Sm (M_spec_l14Rules_L0 fu k (n : Int) c r) fun q => COK q.1 ∧ RB q.2 := by
  intro n
  induction n with
  | zero =>
    intro k c r hk hc hr hn hl
    obtain ⟨k, rfl⟩ : ∃ q, k = q + 1 := ⟨k - 1, by omega⟩
    rw [M_spec_l14Rules_L0, decide_eq_false (by omega), cond_false]
    exact Sm.some ⟨hc, hn rfl, (by show r.length ≤ 3; omega), hl⟩
  | succ n ih =>
    intro k c r hk hc hr hn hl
    obtain ⟨k, rfl⟩ : ∃ q, k = q + 1 := ⟨k - 1, by omega⟩
    rw [M_spec_l14Rules_L0, decide_eq_true (by omega), cond_true]
    refine Sm.cl (rulesL1_t hf 6 0 fu c [] (by omega) (by omega) hc (Nat.zero_le _) (by omega)) fun s ⟨s1, s2, s3⟩ => ?_
    refine Sm.ck (lenOK_t (by omega)) (Sm.ck (i64B_t (by omega) (by omega)) ?_)
    rw [show ((n + 1 : Nat) : Int) - 1 = (n : Int) by omega]
    refine ih k _ _ (by omega) s1 (by rw [List.length_append, List.length_singleton]; omega) (fun _ => by simp) fun l hm => ?_
    rcases List.mem_append.1 hm with hm | hm
    · exact hl l hm
    · rw [List.mem_singleton.1 hm]
      exact ⟨s2, s3⟩
theorem rules_t {fu : Nat} {c : TCur} (hf : 1048577 ≤ fu) (hc : COK c) : Sm (M_spec_l14Rules fu c) fun r => COK r.2 ∧ RB r.1 := by
  unfold M_spec_l14Rules
  refine Sm.cl (once_t hc) fun x hx => Sm.bif (fun _ => ?_) fun _ => ?_
  · exact Sm.cl (known_t hf hx) fun r ⟨h1, h2⟩ => Sm.some ⟨h1, h2⟩
  · refine Sm.cl (below_t hx) fun y ⟨h1, h2, h3⟩ => ?_
    have h3 := h3 (by decide)
    obtain ⟨n, hn⟩ : ∃ n : Nat, y.1 = n := ⟨y.1.toNat, by omega⟩
    refine Sm.ck (i64B_t (by omega) (by omega)) ?_
    rw [show (1 : Int) + y.1 = ((n + 1 : Nat) : Int) by omega]
    exact Sm.cl (rulesL0_t hf (n + 1) fu _ [] (by omega) h1 (by simp; omega) (by omega) fun l hl => by cases hl) fun s ⟨s1, s2⟩ => Sm.some ⟨s1, s2⟩
theorem anyR_t {fu : Nat} {c : TCur} (hf : 1048577 ≤ fu) (hc : COK c) : Sm (M_spec_l14Any fu c) fun r => RsOK r.1 := by
  unfold M_spec_l14Any
  refine Sm.cl (rules_t hf hc) fun r ⟨h1, h2, h3, h4⟩ => Sm.cl (below_t h1) fun y ⟨y1, _, _⟩ => ?_
  have hp := List.length_pos_iff.2 h2
  have hg : gtD r.1 (0 : Int) ∈ r.1 := gtD_mem (by omega) (by omega)
  have hgl := List.length_pos_iff.2 (h4 _ hg).1
  have hok : RsOK r.1 := ⟨by omega, fun l hl => by have := (h4 l hl).2; omega⟩
  have hset : ∀ l' : List TTst, l'.length ≤ 3 → RsOK (r.1.set (0 : Int).toNat l') := fun l' hl' => by
    refine ⟨by rw [List.length_set]; omega, fun l hl => ?_⟩
    rcases List.mem_or_eq_of_mem_set hl with hl | rfl
    · have := (h4 l hl).2; omega
    · omega
  refine Sm.bif (fun _ => ?_) fun _ => Sm.bif (fun _ => ?_) fun _ => Sm.bif (fun _ => ?_) fun _ => Sm.some hok
  · refine Sm.ck (inR_0 hp) (Sm.cl (pickInt_t y1 (by decide)) fun z hz => Sm.ck (inR_0 hgl) (Sm.some ?_))
    exact hset _ (by rw [List.length_set]; exact (h4 _ hg).2)
  · refine Sm.ck (inR_0 hp) (Sm.cl (pickInt_t y1 (by decide)) fun z hz => Sm.ck (inR_0 hgl) (Sm.some ?_))
    exact hset _ (by rw [List.length_set]; exact (h4 _ hg).2)
  · refine Sm.ck (lenOK_t (by omega)) (Sm.some ⟨by rw [List.length_append, List.length_singleton]; omega, fun l hl => ?_⟩)
    rcases List.mem_append.1 hl with hl | hl
    · exact hok.2 l hl
    · rw [List.mem_singleton.1 hl]; exact Nat.zero_le _
theorem dMv_t {fu : Nat} {b : List Int} (hf : 1048577 ≤ fu) (hb : b.length ≤ 1048576) (hx : ∀ x ∈ b, 0 ≤ x ∧ x ≤ 255) : Sm (M_spec_DrawMonotoneViolation fu b) RsOK := by
  unfold M_spec_DrawMonotoneViolation
  exact Sm.cl (new_t hf hb hx) fun c hc => Sm.cl (anyR_t hf hc) fun r hr => Sm.some hr
/-! ### drawn vectors -/
theorem vecL_t {fu : Nat} : ∀ (m i k : Nat) (c : TCur) (l : List Int), i + m = 6 → m < k → COK c → l.length = i → Sm (M_spec_l9Vector_L0 fu k (i : Int) c l) fun r => COK r.1 ∧ r.2.length = 6 := by
  intro m
  induction m with
  | zero =>
    intro i k c l hi hk hc hl
    obtain ⟨k, rfl⟩ : ∃ q, k = q + 1 := ⟨k - 1, by omega⟩
    rw [M_spec_l9Vector_L0, decide_eq_false (by omega), cond_false]
    exact Sm.some ⟨hc, (by show l.length = 6; omega)⟩
  | succ m ih =>
    intro i k c l hi hk hc hl
    obtain ⟨k, rfl⟩ : ∃ q, k = q + 1 := ⟨k - 1, by omega⟩
    rw [M_spec_l9Vector_L0, decide_eq_true (by omega), cond_true]
    refine Sm.cl (pickInt_t hc (by decide)) fun x hx => Sm.ck (lenOK_t (by rw [List.length_singleton]; omega)) (Sm.ck (i64B_n (by omega)) ?_)
    exact ih (i + 1) k _ _ (by omega) (by omega) hx.1 (by rw [List.length_append, List.length_singleton, hl])
theorem vec_t {fu : Nat} {c : TCur} (hf : 1048577 ≤ fu) (hc : COK c) : Sm (M_spec_l9Vector fu c) fun r => COK r.2 ∧ r.1.length = 6 := by
  unfold M_spec_l9Vector
  exact Sm.cl (vecL_t 6 0 fu c [] (by omega) (by omega) hc rfl) fun s ⟨h1, h2⟩ => Sm.some ⟨h1, h2⟩
theorem any9_t {fu : Nat} {c : TCur} (hf : 1048577 ≤ fu) (hc : COK c) : Sm (M_spec_l9Any fu c) fun r => COK r.2 ∧ r.1.length ≤ 6 := by
  unfold M_spec_l9Any
  refine Sm.cl (vec_t hf hc) fun x ⟨h1, h2⟩ => Sm.cl (below_t h1) fun y ⟨y1, _, _⟩ => Sm.bif (fun _ => ?_) fun _ => Sm.bif (fun _ => ?_) fun _ => Sm.some ⟨y1, (by show x.1.length ≤ 6; omega)⟩
  · exact Sm.cl (pickInt_t y1 (by decide)) fun z hz => Sm.ck (inR_0 (by omega)) (Sm.some ⟨hz.1, (by show (x.1.set _ _).length ≤ 6; rw [List.length_set]; omega)⟩)
  · refine Sm.ck (subR_iff.2 ⟨by omega, by omega, by omega⟩) (Sm.some ⟨y1, ?_⟩)
    have := take_len (xs := x.1) (lo := 1) (hi := (x.1.length : Int))
    show (subL x.1 1 (x.1.length : Int)).length ≤ 6
    omega
theorem dDom_t {fu : Nat} {b : List Int} (hf : 1048577 ≤ fu) (hb : b.length ≤ 1048576) (hx : ∀ x ∈ b, 0 ≤ x ∧ x ≤ 255) : Sm (M_spec_DrawDominatesFeatures fu b) fun r => r.1.length ≤ 6 ∧ r.2.length ≤ 6 := by
  unfold M_spec_DrawDominatesFeatures
  refine Sm.cl (new_t hf hb hx) fun c hc => Sm.cl (any9_t hf hc) fun x ⟨x1, x2⟩ => Sm.ck (lenOK_t (by rw [List.length_nil]; omega)) (Sm.cl (below_t x1) fun y ⟨y1, _, _⟩ => ?_)
  rw [List.nil_append]
  refine Sm.bif (fun _ => ?_) fun _ => Sm.bif (fun _ => ?_) fun _ => Sm.some ⟨x2, x2⟩
  · exact Sm.cl (any9_t hf y1) fun z ⟨_, z2⟩ => Sm.some ⟨x2, z2⟩
  · refine Sm.bif (fun h => ?_) fun _ => Sm.some ⟨x2, x2⟩
    rw [decide_eq_true_eq] at h
    exact Sm.cl (below_t y1) fun z ⟨_, z2, z3⟩ => Sm.ck (inR_i z2 (z3 (by omega))) (Sm.some ⟨x2, by rw [List.length_set]; exact x2⟩)
/-! ### domination -/
def dmB (f g : List Int) : Bool := (fvB f && fvB g) && (findB (fun k => decide (gtD f (k : Int) < gtD g (k : Int))) 0 (min f.length g.length)).isNone
theorem implDom_t {fu : Nat} {f g : List Int} (hf : 1048577 ≤ fu) (h1 : f.length ≤ 1000) (h2 : g.length ≤ 1000) : M_impl_DominatesFeatures fu f g = some (dmB f g) := by
  unfold M_impl_DominatesFeatures dmB
  rw [impl_fv (by omega) hf, cl_true, impl_fv (by omega) hf, cl_if, bd_eq]
  cases e1 : fvB f
  · rfl
  · cases e2 : fvB g
    · rfl
    · have l1 := fv_len e1
      have l2 := fv_len e2
      have h := loop_find (n := f.length) (P := fun k => decide (gtD f (k : Int) < gtD g (k : Int))) (ret := fun _ => false) (L := M_impl_DominatesFeatures_L0 fu f g) (fun k i hi => by
        rw [M_impl_DominatesFeatures_L0, lt_t hi, cond_true, ck_t (inR_t hi), ck_t (inR_t (by omega)), ck_t (i64B_n (by omega)), succ_i]) (fun k => by rw [M_impl_DominatesFeatures_L0, lt_f]; rfl) f.length 0 fu (by omega) (by omega)
      rw [show ((0 : Nat) : Int) = 0 from rfl] at h
      show (cl true (M_impl_DominatesFeatures_L0 fu f g fu 0) fun rl8 => exM rl8 (fun r => some r) fun s10 => some true) = _
      rw [h, cl_true, show min f.length g.length = f.length by omega]
      cases findB (fun k => decide (gtD f (k : Int) < gtD g (k : Int))) 0 f.length <;> rfl
theorem specDom_t {fu : Nat} {f g : List Int} (hf : 1048577 ≤ fu) (h1 : f.length ≤ 1000) (h2 : g.length ≤ 1000) : M_spec_DominatesFeatures fu f g = some (dmB f g) := by
  unfold M_spec_DominatesFeatures dmB
  have h := loop_find (n := min f.length g.length) (P := fun k => decide (gtD f (k : Int) < gtD g (k : Int))) (ret := fun _ => false) (L := M_spec_DominatesFeatures_L0 fu f g) (fun k i hi => by
    rw [M_spec_DominatesFeatures_L0, bd_eq, lt_t (by omega), lt_t (by omega), Bool.and_self, cond_true, ck_t (inR_t (by omega)), ck_t (inR_t (by omega)), ck_t (i64B_n (by omega)), succ_i]) (fun k => by
    have hc : (decide (((min f.length g.length : Nat) : Int) < (f.length : Int)) && decide (((min f.length g.length : Nat) : Int) < (g.length : Int))) = false := by
      rw [Bool.and_eq_false_imp, decide_eq_true_eq, decide_eq_false_iff_not]
      omega
    rw [M_spec_DominatesFeatures_L0, bd_eq, hc]
    rfl) (min f.length g.length) 0 fu (by omega) (by omega)
  rw [show ((0 : Nat) : Int) = 0 from rfl] at h
  rw [h, cl_true]
  cases findB (fun k => decide (gtD f (k : Int) < gtD g (k : Int))) 0 (min f.length g.length)
  · show (cl true (M_spec_IsFeatureVector fu f) _) = _
    rw [spec_fv (by omega) hf, cl_true, spec_fv (by omega) hf, cl_if, bd_eq]
    cases fvB f <;> cases fvB g <;> rfl
  · show some false = _
    simp
theorem same_t {fu : Nat} {l : List Int} (hf : 1048577 ≤ fu) (hl : l.length ≤ 1000) : M_laws_sameInts fu l l = some true := by
  unfold M_laws_sameInts
  have h := loop_find (n := l.length) (P := fun _ => false) (ret := fun _ => false) (L := M_laws_sameInts_L0 fu l l) (fun k i hi => by
    rw [M_laws_sameInts_L0, lt_t hi, cond_true, ck_t (inR_t hi), ck_t (inR_t hi), bne_self_eq_false, cond_false, cond_false, ck_t (i64B_n (by omega)), succ_i]) (fun k => by rw [M_laws_sameInts_L0, lt_f]; rfl) l.length 0 fu (by omega) (by omega)
  rw [show ((0 : Nat) : Int) = 0 from rfl, findB_no] at h
  rw [bne_self_eq_false, cond_false, h]
  rfl
end Go.Proofs.Ytmkgocdgkdglnaa
/- Plain: rules without a violation in the grid are monotone; the law FnMonotone. No statement of the seat is proved here. -/
namespace Go.Proofs.Ytmkgocdgkdglnaa
open Go.RowKit
set_option linter.unusedVariables false
set_option linter.unusedSimpArgs false

theorem lev_lv {r : LRs} (n : Int) : SortedS iLt (lev r n) ∧ ∀ y, y ∈ lev r n ↔ y = 0 ∨ ∃ t ∈ r.flatten, t.1 = n ∧ t.2.1 = y := by
  obtain ⟨h1, h2⟩ := lev_prop n r.flatten [0] (List.pairwise_singleton ..)
  exact ⟨h1, fun y => by rw [show lev r n = r.flatten.foldl (levG n) [0] from rfl, h2, List.mem_singleton]⟩
theorem lev_in {r : LRs} (hv : rsB r = true) {n y : Int} (h : y ∈ lev r n) : 0 ≤ y ∧ y ≤ 1000 := by
  rcases ((lev_lv n).2 y).1 h with rfl | ⟨t, ht, _, rfl⟩
  · omega
  · obtain ⟨l, hl, htl⟩ := List.mem_flatten.1 ht
    have := ((rsB_len hv).2 l hl).2 t htl
    omega
theorem fv_of {xs : List Int} (hl : xs.length = 6) (h : ∀ i : Nat, i < 6 → 0 ≤ gtD xs (i : Int) ∧ gtD xs (i : Int) ≤ 1000) : fvB xs = true := by
  unfold fvB
  have : findB (fun k => !inI (gtD xs (k : Int)) 0 1000) 0 xs.length = none := by
    cases hf : findB (fun k => !inI (gtD xs (k : Int)) 0 1000) 0 xs.length with
    | none => rfl
    | some j =>
      obtain ⟨_, hj, hp⟩ := findB_lt hf
      rw [Bool.not_eq_true', ← Bool.not_eq_true] at hp
      exact absurd (inI_iff.2 (h j (by omega))) hp
  rw [this, hl]
  rfl
theorem fv_at {xs : List Int} (h : fvB xs = true) {i : Nat} (hi : i < 6) : 0 ≤ gtD xs (i : Int) ∧ gtD xs (i : Int) ≤ 1000 := by
  have hl := fv_len h
  unfold fvB at h
  rw [Bool.and_eq_true, Option.isNone_iff_eq_none] at h
  have := findB_noneB h.1 i (Nat.zero_le _) (by omega)
  rw [Bool.not_eq_false'] at this
  exact inI_iff.1 this
theorem dm_iff {f g : List Int} : dmB f g = true ↔ (fvB f = true ∧ fvB g = true) ∧ ∀ i : Nat, i < 6 → gtD g (i : Int) ≤ gtD f (i : Int) := by
  unfold dmB
  rw [Bool.and_eq_true, Bool.and_eq_true, Option.isNone_iff_eq_none]
  constructor
  · rintro ⟨⟨h1, h2⟩, h3⟩
    refine ⟨⟨h1, h2⟩, fun i hi => ?_⟩
    have := findB_noneB h3 i (Nat.zero_le _) (by have := fv_len h1; have := fv_len h2; omega)
    rw [decide_eq_false_iff_not] at this
    omega
  · rintro ⟨⟨h1, h2⟩, h3⟩
    refine ⟨⟨h1, h2⟩, ?_⟩
    cases hf : findB (fun k => decide (gtD f (k : Int) < gtD g (k : Int))) 0 (min f.length g.length) with
    | none => rfl
    | some j =>
      obtain ⟨_, hj, hp⟩ := findB_lt hf
      rw [decide_eq_true_eq] at hp
      have := h3 j (by have := fv_len h1; omega)
      omega
/-! ### places in vectors -/
theorem gtD_set_ne {xs : List Int} {i j : Nat} {y : Int} (h : i ≠ j) : gtD (xs.set i y) (j : Int) = gtD xs (j : Int) := by
  unfold gtD
  rw [Int.toNat_natCast, List.getD_eq_getElem?_getD, List.getD_eq_getElem?_getD, List.getElem?_set_ne h]
theorem ext6 {a b : List Int} (ha : a.length = 6) (hb : b.length = 6) (h : ∀ i : Nat, i < 6 → gtD a (i : Int) = gtD b (i : Int)) : a = b := by
  refine List.ext_getElem (by omega) fun i h1 h2 => ?_
  have := h i (by omega)
  rw [gtD_get (List.getElem?_eq_getElem h1), gtD_get (List.getElem?_eq_getElem h2)] at this
  exact this
/-! ### the floor in the grid -/
def flo1 (l : List Int) (x : Int) : Int := (l.filter fun y => decide (y ≤ x)).foldl max 0
theorem foldl_max : ∀ (l : List Int) (a : Int), a ≤ l.foldl max a ∧ (∀ y ∈ l, y ≤ l.foldl max a) ∧ (l.foldl max a = a ∨ l.foldl max a ∈ l)
  | [], a => ⟨Int.le_refl _, fun y h => (by cases h), .inl rfl⟩
  | x :: l, a => by
    obtain ⟨h1, h2, h3⟩ := foldl_max l (max a x)
    rw [List.foldl_cons]
    refine ⟨by omega, fun y hy => ?_, ?_⟩
    · rcases List.mem_cons.1 hy with rfl | hy
      · omega
      · exact h2 y hy
    · rcases h3 with h3 | h3
      · rw [h3]
        by_cases h : a ≤ x
        · exact .inr (by rw [show max a x = x by omega]; exact List.mem_cons_self ..)
        · exact .inl (by omega)
      · exact .inr (List.mem_cons_of_mem _ h3)
theorem flo1_t {l : List Int} {x : Int} (h0 : 0 ∈ l) (hx : 0 ≤ x) : flo1 l x ∈ l ∧ flo1 l x ≤ x ∧ ∀ y ∈ l, y ≤ x → y ≤ flo1 l x := by
  unfold flo1
  obtain ⟨h1, h2, h3⟩ := foldl_max (l.filter fun y => decide (y ≤ x)) 0
  have hm : (l.filter fun y => decide (y ≤ x)).foldl max 0 ∈ l.filter fun y => decide (y ≤ x) := by
    rcases h3 with h3 | h3
    · rw [h3]; exact List.mem_filter.2 ⟨h0, decide_eq_true hx⟩
    · exact h3
  obtain ⟨a, b⟩ := List.mem_filter.1 hm
  exact ⟨a, of_decide_eq_true b, fun y hy hyx => h2 y (List.mem_filter.2 ⟨hy, decide_eq_true hyx⟩)⟩
def flo (r : LRs) (g : List Int) : List Int := six.map fun n => flo1 (lev r n) (gtD g n)
theorem flo_len (r : LRs) (g : List Int) : (flo r g).length = 6 := by unfold flo; rw [List.length_map]; rfl
theorem flo_at {r : LRs} {g : List Int} {i : Nat} (hi : i < 6) : gtD (flo r g) (i : Int) = flo1 (lev r (i : Int)) (gtD g (i : Int)) := by
  refine gtD_get ?_
  unfold flo six
  rw [List.map_map, List.getElem?_map, List.getElem?_range hi]
  rfl
theorem zero_lev (r : LRs) (n : Int) : (0 : Int) ∈ lev r n := ((lev_lv n).2 0).2 (.inl rfl)
theorem flo_p {r : LRs} {g : List Int} (hg : fvB g = true) {i : Nat} (hi : i < 6) : gtD (flo r g) (i : Int) ∈ lev r (i : Int) ∧ gtD (flo r g) (i : Int) ≤ gtD g (i : Int) ∧ ∀ y ∈ lev r (i : Int), y ≤ gtD g (i : Int) → y ≤ gtD (flo r g) (i : Int) := by
  rw [flo_at hi]
  exact flo1_t (zero_lev r _) (fv_at hg hi).1
theorem flo_fv {r : LRs} {g : List Int} (hv : rsB r = true) (hg : fvB g = true) : fvB (flo r g) = true := fv_of (flo_len r g) fun i hi => lev_in hv (flo_p hg hi).1
theorem hold_congr {r : LRs} {f g : List Int} (h : ∀ l ∈ r, rulH f l = rulH g l) : holdB r f = holdB r g := by
  unfold holdB fstR
  rw [List.map_congr_left h]
theorem hold_flo {r : LRs} {g : List Int} (hv : rsB r = true) (hg : fvB g = true) : holdB r g = holdB r (flo r g) := by
  refine hold_congr fun l hl => ?_
  unfold rulH
  rw [hg, flo_fv hv hg]
  congr 2
  have ht : ∀ t ∈ l, tstH g t = tstH (flo r g) t := fun t ht => by
    have hb := ((rsB_len hv).2 l hl).2 t ht
    obtain ⟨i, e⟩ : ∃ i : Nat, t.1 = i := ⟨t.1.toNat, by omega⟩
    have hi : i < 6 := by omega
    obtain ⟨p1, p2, p3⟩ := flo_p (r := r) hg hi
    unfold tstH
    rw [hg, flo_fv hv hg, e]
    have hm : t.2.1 ∈ lev r (i : Int) := ((lev_lv _).2 _).2 (.inr ⟨t, List.mem_flatten.2 ⟨l, hl, ht⟩, e, rfl⟩)
    have : decide (gtD g (i : Int) < t.2.1) = decide (gtD (flo r g) (i : Int) < t.2.1) := by
      refine decide_eq_decide.2 ⟨fun h => by omega, fun h => ?_⟩
      refine Classical.byContradiction fun hn => ?_
      have := p3 _ hm (by omega)
      omega
    rw [this]
  have key : ∀ m : List TTst, (∀ t ∈ m, tstH g t = tstH (flo r g) t) → (m.any fun t => !(tstH g t)) = (m.any fun t => !(tstH (flo r g) t)) := by
    intro m
    induction m with
    | nil => intro _; rfl
    | cons t m ih =>
      intro h
      rw [List.any_cons, List.any_cons, h t (List.mem_cons_self ..), ih fun x hx => h x (List.mem_cons_of_mem _ hx)]
  exact key l ht
/-! ### the grid -/
theorem gr_in {r : LRs} : ∀ (n : Nat) (p : List Int), p.length = n → (∀ i : Nat, i < n → gtD p (i : Int) ∈ lev r (i : Int)) → p ∈ gr r n
  | 0, p, h, _ => by
    rw [gr, List.mem_singleton]
    exact List.length_eq_zero_iff.1 h
  | n + 1, p, h, hm => by
    have hne : p ≠ [] := fun e => by rw [e] at h; simp at h
    have e := (List.dropLast_concat_getLast hne).symm
    have hdl : p.dropLast.length = n := by rw [List.length_dropLast]; omega
    have hlast : gtD p (n : Int) = p.getLast hne := by
      refine gtD_get ?_
      have h1 : p[n]? = (p.dropLast ++ [p.getLast hne])[n]? := congrArg (fun l : List Int => l[n]?) e
      rw [h1, List.getElem?_append_right (by omega), hdl, Nat.sub_self]
      rfl
    rw [gr, List.mem_flatMap]
    refine ⟨p.dropLast, gr_in n _ hdl fun i hi => ?_, List.mem_map.2 ⟨p.getLast hne, ?_, e.symm⟩⟩
    · have := hm i (by omega)
      have h1 : p[i]? = some p[i] := List.getElem?_eq_getElem (by omega)
      have h2 : p.dropLast[i]? = some p[i] := by rw [List.getElem?_dropLast, if_pos (by omega)]; exact h1
      rw [gtD_get h2]
      rwa [gtD_get h1] at this
    · have := hm n (by omega)
      rwa [hlast] at this
/-- no violation -/
def NoV (r : LRs) : Prop := ∀ a : List Int, a.length = 6 → (∀ i : Nat, i < 6 → gtD a (i : Int) ∈ lev r (i : Int)) → holdB r a = true → ∀ i : Nat, i < 6 → upB r a (i : Int) = false
theorem noV_of {r : LRs} (hv : rsB r = true) (h : (mvV r).2.2 = false) : NoV r := by
  intro a hl ha hh i hi
  unfold mvV at h
  rw [hv, cond_true] at h
  have hn : (gr r 6).findSome? (vio r) = none := by
    cases hs : (gr r 6).findSome? (vio r) with
    | none => rfl
    | some x => rw [hs] at h; cases h
  have h1 := List.findSome?_eq_none_iff.1 hn a (gr_in 6 a hl ha)
  unfold vio at h1
  rw [hh, cond_true] at h1
  have h2 : rzV r a = none := by
    cases hz : rzV r a with
    | none => rfl
    | some u => rw [hz] at h1; cases h1
  unfold rzV at h2
  have hm : (i : Int) ∈ six := List.mem_map.2 ⟨i, List.mem_range.2 hi, rfl⟩
  have h3 := List.findSome?_eq_none_iff.1 h2 _ hm
  unfold upO at h3
  cases hb : upB r a (i : Int)
  · rfl
  · rw [hb] at h3; cases h3
theorem lev_lt {r : LRs} {n : Int} {j k : Nat} {x y : Int} (hx : (lev r n)[j]? = some x) (hy : (lev r n)[k]? = some y) (h : x ≤ y) : j ≤ k := by
  obtain ⟨h1, e1⟩ := List.getElem?_eq_some_iff.1 hx
  obtain ⟨h2, e2⟩ := List.getElem?_eq_some_iff.1 hy
  rcases Nat.lt_or_ge k j with hlt | hge
  · have := (List.pairwise_iff_getElem.1 (lev_lv (r := r) n).1) k j h2 h1 hlt
    rw [e1, e2] at this
    unfold iLt at this
    rw [decide_eq_true_eq] at this
    omega
  · exact hge
/-- one feature raised, level by level -/
theorem raise1 {r : LRs} (hn : NoV r) {i : Nat} (hi : i < 6) : ∀ (m j : Nat) (a : List Int) (x y : Int), a.length = 6 → (∀ i : Nat, i < 6 → gtD a (i : Int) ∈ lev r (i : Int)) → holdB r a = true → (lev r (i : Int))[j]? = some x → gtD a (i : Int) = x → (lev r (i : Int))[j + m]? = some y → holdB r (a.set i y) = true := by
  intro m
  induction m with
  | zero =>
    intro j a x y hl ha hh hx hax hy
    rw [Nat.add_zero, hx] at hy
    obtain rfl := Option.some.inj hy
    have : a.set i x = a := by
      rw [← hax]
      refine ext6 (by rw [List.length_set]; exact hl) hl fun k hk => ?_
      by_cases e : i = k
      · subst e; rw [gtD_setI (by omega)]
      · rw [gtD_set_ne e]
    rw [this]
    exact hh
  | succ m ih =>
    intro j a x y hl ha hh hx hax hy
    have hj1 : j + 1 < (lev r (i : Int)).length := by have := at_lt hy; omega
    have hz := List.getElem?_eq_getElem hj1
    have hu := hn a hl ha hh i hi
    have hix : ixL (lev r (i : Int)) (gtD a (i : Int)) = j := by
      have h1 := (ixL_at (ha i hi)).2
      rw [hax] at h1 ⊢
      exact nodup_at (lev_lv _).1 h1 hx
    unfold upB upV at hu
    rw [hix, decide_eq_true hj1, Bool.true_and, Bool.not_eq_false', Int.toNat_natCast, show ((j : Int) + 1) = ((j + 1 : Nat) : Int) from rfl, gtD_get hz] at hu
    have hset : (a.set i (lev r (i : Int))[j + 1]).set i y = a.set i y := List.set_set ..
    rw [← hset]
    refine ih (j + 1) _ _ y (by rw [List.length_set]; exact hl) (fun k hk => ?_) hu hz (gtD_setI (by omega)) (by rw [show j + 1 + m = j + (m + 1) by omega]; exact hy)
    by_cases e : i = k
    · subst e; rw [gtD_setI (by omega)]; exact List.getElem_mem _
    · rw [gtD_set_ne e]; exact ha k hk
theorem raise_all {r : LRs} (hn : NoV r) {a b : List Int} (ha : a.length = 6) (hb : b.length = 6) (h1 : ∀ i : Nat, i < 6 → gtD a (i : Int) ∈ lev r (i : Int)) (h2 : ∀ i : Nat, i < 6 → gtD b (i : Int) ∈ lev r (i : Int)) (hle : ∀ i : Nat, i < 6 → gtD a (i : Int) ≤ gtD b (i : Int)) (hh : holdB r a = true) : holdB r b = true := by
  have key : ∀ n : Nat, n ≤ 6 → ∃ c : List Int, c.length = 6 ∧ holdB r c = true ∧ (∀ i : Nat, i < n → gtD c (i : Int) = gtD b (i : Int)) ∧ ∀ i : Nat, n ≤ i → i < 6 → gtD c (i : Int) = gtD a (i : Int) := by
    intro n
    induction n with
    | zero => intro _; exact ⟨a, ha, hh, fun i hi => by omega, fun i _ _ => rfl⟩
    | succ n ih =>
      intro h6
      obtain ⟨c, c1, c2, c3, c4⟩ := ih (by omega)
      have hcm : ∀ i : Nat, i < 6 → gtD c (i : Int) ∈ lev r (i : Int) := fun i hi => by
        rcases Nat.lt_or_ge i n with h | h
        · rw [c3 i h]; exact h2 i hi
        · rw [c4 i h hi]; exact h1 i hi
      obtain ⟨j, hj⟩ := List.getElem?_of_mem (h1 n (by omega))
      obtain ⟨k, hk⟩ := List.getElem?_of_mem (h2 n (by omega))
      have hjk := lev_lt hj hk (hle n (by omega))
      refine ⟨c.set n (gtD b (n : Int)), by rw [List.length_set]; exact c1, raise1 hn (i := n) (by omega) (k - j) j c _ _ c1 hcm c2 hj (c4 n (Nat.le_refl _) (by omega)) (by rw [show j + (k - j) = k by omega]; exact hk), fun i hi => ?_, fun i hi h => ?_⟩
      · by_cases e : n = i
        · subst e; exact gtD_setI (by omega)
        · rw [gtD_set_ne e]; exact c3 i (by omega)
      · rw [gtD_set_ne (by omega)]; exact c4 i (by omega) h
  obtain ⟨c, c1, c2, c3, _⟩ := key 6 (Nat.le_refl _)
  rw [← ext6 c1 hb c3]
  exact c2
theorem monotone {r : LRs} (hv : rsB r = true) (h : (mvV r).2.2 = false) {f g : List Int} (hd : dmB f g = true) (hh : holdB r g = true) : holdB r f = true := by
  obtain ⟨⟨hf, hg⟩, hle⟩ := dm_iff.1 hd
  rw [hold_flo hv hf]
  rw [hold_flo hv hg] at hh
  refine raise_all (noV_of hv h) (flo_len r g) (flo_len r f) (fun i hi => (flo_p hg hi).1) (fun i hi => (flo_p hf hi).1) (fun i hi => ?_) hh
  obtain ⟨p1, p2, _⟩ := flo_p (r := r) hg hi
  exact (flo_p (r := r) hf hi).2.2 _ p1 (by have := hle i hi; omega)
/-! ### a violation is real -/
theorem violation {r : LRs} (h : (mvV r).2.2 = true) : holdB r (mvV r).1 = true ∧ holdB r (mvV r).2.1 = false ∧ dmB (mvV r).2.1 (mvV r).1 = true := by
  unfold mvV at h ⊢
  cases hv : rsB r
  · rw [hv] at h; cases h
  · rw [hv, cond_true] at h
    rw [cond_true]
    cases hs : (gr r 6).findSome? (vio r) with
    | none => rw [hs] at h; cases h
    | some x =>
      obtain ⟨a, ha, hx⟩ := List.exists_of_findSome?_eq_some hs
      obtain ⟨hal, ham⟩ := gr_mem 6 a ha
      unfold vio at hx
      cases hb : holdB r a
      · rw [hb] at hx; cases hx
      · rw [hb, cond_true] at hx
        unfold rzV at hx
        cases hz : six.findSome? (upO r a) with
        | none => rw [hz] at hx; cases hx
        | some u =>
          rw [hz] at hx
          injection hx with hx
          subst hx
          obtain ⟨n, hn, hu⟩ := List.exists_of_findSome?_eq_some hz
          obtain ⟨i, hi, rfl⟩ := List.mem_map.1 hn
          have hi := List.mem_range.1 hi
          unfold upO at hu
          cases hB : upB r a (i : Int)
          · rw [hB] at hu; cases hu
          · rw [hB] at hu
            injection hu with hu
            subst hu
            unfold upB at hB
            rw [Bool.and_eq_true, decide_eq_true_eq, Bool.not_eq_true'] at hB
            refine ⟨hb, hB.2, ?_⟩
            show dmB (upV r a (i : Int)) a = true
            have hz2 := List.getElem?_eq_getElem hB.1
            have hix := (ixL_at (ham i hi)).2
            have hup : upV r a (i : Int) = a.set i (lev r (i : Int))[ixL (lev r (i : Int)) (gtD a (i : Int)) + 1] := by
              unfold upV
              rw [Int.toNat_natCast, show ((ixL (lev r (i : Int)) (gtD a (i : Int)) : Int) + 1) = ((ixL (lev r (i : Int)) (gtD a (i : Int)) + 1 : Nat) : Int) from rfl, gtD_get hz2]
            have hfa : fvB a = true := fv_of hal fun k hk => lev_in hv (ham k hk)
            have hum : ∀ k : Nat, k < 6 → gtD (upV r a (i : Int)) (k : Int) ∈ lev r (k : Int) := fun k hk => by
              rw [hup]
              by_cases e : i = k
              · subst e; rw [gtD_setI (by omega)]; exact List.getElem_mem _
              · rw [gtD_set_ne e]; exact ham k hk
            refine dm_iff.2 ⟨⟨fv_of (by rw [hup, List.length_set]; exact hal) fun k hk => lev_in hv (hum k hk), hfa⟩, fun k hk => ?_⟩
            rw [hup]
            by_cases e : i = k
            · subst e
              rw [gtD_setI (by omega)]
              refine Classical.byContradiction fun hc => ?_
              have := lev_lt hz2 hix (by omega)
              omega
            · rw [gtD_set_ne e]; exact Int.le_refl _
theorem law_FnMonotone {fu : Nat} {b : List Int} (hf : 1048577 ≤ fu) (hx : ∀ x ∈ b, 0 ≤ x ∧ x ≤ 255) : M_laws_FnMonotone fu b = some true := by
  unfold M_laws_FnMonotone M_laws_big
  rw [cl_true]
  cases hl : decide ((1048576 : Int) < (b.length : Int))
  · rw [decide_eq_false_iff_not] at hl
    have hb : b.length ≤ 1048576 := by omega
    rw [cond_false]
    obtain ⟨r, hr, hok⟩ := dMv_t (fu := fu) hf hb hx
    obtain ⟨q, hq, q1, q2⟩ := dDom_t (fu := fu) hf hb hx
    obtain ⟨l1, l2⟩ := mv_len (r := r)
    have hvi := violation (r := r)
    have hmo : (mvV r).2.2 = false → dmB q.1 q.2 = true → holdB r q.2 = true → holdB r q.1 = true := fun h hd hh => by
      cases hv : rsB r
      · exfalso
        unfold holdB fstR at hh
        rw [hv] at hh
        exact absurd (show decide ((0 : Int) ≤ -1) = true from hh) (by decide)
      · exact monotone hv h hd hh
    have hval : (mvV r).2.2 = true → rsB r = true := fun h => by
      cases hv : rsB r
      · unfold mvV at h; rw [hv] at h; cases h
      · rfl
    rw [hr, cl_true, implMv_t hf hok, cl_true, specMv_t hf hok, cl_true, bne_self_eq_false, same_t hf (by omega), cl_if, bd_eq, same_t hf (by omega), cl_if, bd_eq, implIs_t hf hok, cl_if, specRs_t hf hok, cl_if, bd_eq, bd_eq]
    have e0 : (bif (true && (false == false)) then true else default) = true := rfl
    rw [e0]
    have e1 : (false || !true) = false := rfl
    rw [e1, e0, e1, show (bif (true && (false == false)) then (rsB r && !(mvV r).2.2) else default) = (rsB r && !(mvV r).2.2) from rfl, show (bif (true && (false == false)) then rsB r else default) = rsB r from rfl, bne_self_eq_false, Bool.or_self, cond_false]
    cases hm : (mvV r).2.2
    · rw [cond_false, hq, cl_true, implDom_t hf (by omega) (by omega), cl_true, specDom_t hf (by omega) (by omega), cl_true, bne_self_eq_false, cond_false, specHold_t (by omega) hok hf, cl_true, cl_if, bd_eq, implHold_t (by omega) hok hf, cl_if, bd_eq]
      have := hmo hm
      cases hd : dmB q.1 q.2
      · rfl
      · cases hh : holdB r q.2
        · rfl
        · rw [this hd hh]
          rfl
    · obtain ⟨v1, v2, v3⟩ := hvi hm
      rw [cond_true, implHold_t (by omega) hok hf, cl_true, implHold_t (by omega) hok hf, cl_if, bd_eq, implDom_t hf (by omega) (by omega), cl_if, bd_eq, v1, v2, v3]
      rfl
  · rw [cond_true]
end Go.Proofs.Ytmkgocdgkdglnaa
