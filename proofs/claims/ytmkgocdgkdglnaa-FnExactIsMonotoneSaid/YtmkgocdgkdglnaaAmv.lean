/- Plain: MonotoneViolation and IsMonotone, program and reference alike. No statement of the seat is proved here. -/
import Derived.Test.YtmkgocdgkdglnaaAmvg
import Derived.Test.YtmkgocdgkdglnaaArh
import Derived.Test.YtmkgocdgkdglnaaAcmpi
namespace Go.Proofs.Ytmkgocdgkdglnaa
open Go.RowKit
set_option linter.unusedVariables false
set_option linter.unusedSimpArgs false

/-! levels, the program's way -/
def thr (n : Int) (acc : List Int) (t : TTst) : List Int := bif t.1 == n then acc ++ [t.2.1] else acc
theorem thr_len (n : Int) : ∀ (ts : List TTst) (acc : List Int), (ts.foldl (thr n) acc).length ≤ acc.length + ts.length
  | [], acc => Nat.le_refl _
  | t :: ts, acc => by
    rw [List.foldl_cons, List.length_cons]
    have := thr_len n ts (thr n acc t)
    have h1 : (thr n acc t).length ≤ acc.length + 1 := by
      unfold thr
      cases t.1 == n
      · exact Nat.le_succ _
      · rw [cond_true, List.length_append]; exact Nat.le_refl _
    omega
theorem thr_mem (n : Int) : ∀ (ts : List TTst) (acc : List Int) (y : Int), y ∈ ts.foldl (thr n) acc ↔ y ∈ acc ∨ ∃ t ∈ ts, t.1 = n ∧ t.2.1 = y
  | [], acc, y => by simp
  | t :: ts, acc, y => by
    rw [List.foldl_cons, thr_mem n ts]
    have h1 : y ∈ thr n acc t ↔ y ∈ acc ∨ (t.1 = n ∧ t.2.1 = y) := by
      unfold thr
      cases e : t.1 == n
      · have : ¬ t.1 = n := by simpa using e
        simp [this]
      · have : t.1 = n := by simpa using e
        rw [cond_true, List.mem_append, List.mem_singleton]
        simp [this, eq_comm]
    rw [h1]
    constructor
    · rintro ((h | h) | ⟨s, hs, h⟩)
      · exact .inl h
      · exact .inr ⟨t, List.mem_cons_self .., h⟩
      · exact .inr ⟨s, List.mem_cons_of_mem _ hs, h⟩
    · rintro (h | ⟨s, hs, h⟩)
      · exact .inl (.inl h)
      · rcases List.mem_cons.1 hs with rfl | hs
        · exact .inl (.inr h)
        · exact .inr ⟨s, hs, h⟩
theorem lev_sort (r : LRs) (n : Int) : cmpL ((r.flatten.foldl (thr n) [0]).mergeSort fun x y => decide (x ≤ y)) = lev r n := by
  have e : (fun x y : Int => decide (x ≤ y)) = fun x y => !(iLt y x) := by
    funext x y
    exact dec_not (by omega)
  obtain ⟨h1, h2⟩ := lev_prop n r.flatten [0] (List.pairwise_singleton ..)
  rw [e]
  refine sortedS_one sto_iLt (cmpL_sorted sto_iLt (sort_sorted sto_iLt _)) h1 fun x => ?_
  rw [cmpL_mem, List.mem_mergeSort, thr_mem]
  exact (h2 x).symm
theorem gtD_setI {α : Type} [Inhabited α] {xs : List α} {i : Nat} {x : α} (h : i < xs.length) : gtD (xs.set i x) (i : Int) = x := gtD_get (List.getElem?_set_self h)
theorem thr_set {st0 : List (List Int)} {n : Nat} (hn : n < st0.length) : ∀ (ts : List TTst) (acc : List Int), ts.foldl (fun (st : List (List Int)) t => bif t.1 == (n : Int) then st.set n (gtD st (n : Int) ++ [t.2.1]) else st) (st0.set n acc) = st0.set n (ts.foldl (thr n) acc)
  | [], acc => rfl
  | t :: ts, acc => by
    rw [List.foldl_cons, List.foldl_cons]
    have : (bif t.1 == (n : Int) then (st0.set n acc).set n (gtD (st0.set n acc) (n : Int) ++ [t.2.1]) else st0.set n acc) = st0.set n (thr n acc t) := by
      unfold thr
      cases t.1 == (n : Int)
      · rfl
      · rw [cond_true, cond_true, gtD_setI hn, List.set_set]
    rw [this]
    exact thr_set hn ts _
theorem levL1_t {fu : Nat} {st0 : List (List Int)} {n : Nat} {ts : List TTst} (hn : n < 6) (h0 : st0.length = 6) (hf : 1048577 ≤ fu) (hl : ts.length ≤ 9) :
    M_impl_levelsOf_L1 fu (n : Int) ts fu (0 : Int) (st0.set n [0]) = some (st0.set n (ts.foldl (thr n) [0])) := by
  have h := loop_fold (xs := ts) (g := fun (st : List (List Int)) t => bif t.1 == (n : Int) then st.set n (gtD st (n : Int) ++ [t.2.1]) else st) (Inv := fun i st => st.length = 6 ∧ (gtD st (n : Int)).length ≤ 1 + i) (L := M_impl_levelsOf_L1 fu (n : Int) ts) (fun k i st t ht hi => by
    have hlt := at_lt ht
    rw [M_impl_levelsOf_L1, lt_t hlt, cond_true, ck_t (inR_t hlt), gtD_get ht]
    cases t.1 == (n : Int)
    · rw [cond_false, cond_false, ck_t (i64B_n (by omega)), succ_i]
    · rw [cond_true, cond_true, ck_t (inR_t (n := 6) hn), ck_t (lenOK_t (by have := hi.2; rw [List.length_singleton]; omega)), ck_t (inR_t (n := 6) hn), ck_t (i64B_n (by omega)), succ_i, set_nat]) (fun i st t ht hi => by
    cases t.1 == (n : Int)
    · exact ⟨hi.1, Nat.le_succ_of_le hi.2⟩
    · have h1 := hi.1
      have h2 := hi.2
      rw [cond_true]
      refine ⟨by rw [List.length_set]; exact h1, ?_⟩
      rw [gtD_setI (by omega), List.length_append, List.length_singleton]
      omega) (fun k st hi => by rw [M_impl_levelsOf_L1, lt_f]; rfl) (a := st0.set n [0]) ⟨by rw [List.length_set]; exact h0, by rw [gtD_setI (by omega)]; exact Nat.le_refl _⟩ (show ts.length < fu by omega)
  rw [h.1, thr_set (by omega)]
theorem levelsOf_t {fu : Nat} {r : LRs} (hf : 1048577 ≤ fu) (hn : r.length ≤ 3) (hl : ∀ l ∈ r, l.length ≤ 3) : M_impl_levelsOf fu r = some (six.map (lev r)) := by
  unfold M_impl_levelsOf
  have hfl := flat_len (n := 3) hl
  have h := loop_st (n := 6) (st := fun n => ((List.range n).map fun (j : Nat) => lev r (j : Int)) ++ List.replicate (6 - n) ([] : List Int)) (L := M_impl_levelsOf_L0 fu r) (fun k n hn6 => by
    have hlen : (((List.range n).map fun (j : Nat) => lev r (j : Int)) ++ List.replicate (6 - n) ([] : List Int)).length = 6 := by
      rw [List.length_append, List.length_map, List.length_range, List.length_replicate]
      omega
    have ht := thr_len (n : Int) r.flatten [0]
    rw [List.length_singleton] at ht
    rw [M_impl_levelsOf_L0, show decide ((n : Int) < (6 : Int)) = true from decide_eq_true (by omega), cond_true, ck_t (inR_t (n := 6) hn6), all_t hf hn hl, cl_true, set_nat, levL1_t hn6 hlen hf (by omega), cl_true, ck_t (inR_t (n := 6) hn6), gtD_setI (by omega)]
    unfold M_sortI
    rw [ck_t (lenOK_t (by omega)), cl_true, ck_t (inR_t (n := 6) hn6), set_nat, List.set_set, gtD_setI (by omega), compactI_t hf (by rw [List.length_mergeSort]; omega), cl_true, ck_t (inR_t (n := 6) hn6), ck_t (i64B_n (by omega)), set_nat, List.set_set, lev_sort, succ_i]
    congr 1
    have e6 : 6 - n = (6 - (n + 1)) + 1 := by omega
    rw [e6, List.replicate_succ, List.set_append_right _ _ (by rw [List.length_map, List.length_range]; exact Nat.le_refl _), List.length_map, List.length_range, Nat.sub_self, List.set_cons_zero, List.range_succ, List.map_append, List.append_assoc]
    rfl) (fun k => by
    rw [M_impl_levelsOf_L0]
    rfl) (show 6 < fu by omega)
  have h' : M_impl_levelsOf_L0 fu r fu (0 : Int) [[], [], [], [], [], []] = _ := h
  rw [h', cl_true]
  show some (((List.range 6).map fun (j : Nat) => lev r (j : Int)) ++ []) = _
  unfold six
  rw [List.append_nil, List.map_map]
  rfl
/-! one step up -/
theorem loop_some {α β ρ : Type} {xs : List α} {V : α → Option β} {f : β → ρ} {L : Nat → Int → Option (Ex ρ Unit)}
    (hs : ∀ k (i : Nat) x, xs[i]? = some x → L (k + 1) (i : Int) = match V x with | some v => some (.ret (f v)) | none => L k ((i + 1 : Nat) : Int)) (he : ∀ k, L (k + 1) (xs.length : Int) = some (.go ())) {fu : Nat} (hf : xs.length < fu) :
    L fu (0 : Int) = some (match xs.findSome? V with | some v => .ret (f v) | none => .go ()) := by
  have key : ∀ m i k, i + m = xs.length → m < k → L k ((i : Nat) : Int) = some (match (xs.drop i).findSome? V with | some v => .ret (f v) | none => .go ()) := by
    intro m
    induction m with
    | zero =>
      intro i k hi hk
      obtain ⟨k, rfl⟩ : ∃ q, k = q + 1 := ⟨k - 1, by omega⟩
      obtain rfl : i = xs.length := by omega
      rw [he, List.drop_length]
      rfl
    | succ m ih =>
      intro i k hi hk
      obtain ⟨k, rfl⟩ : ∃ q, k = q + 1 := ⟨k - 1, by omega⟩
      have hx := List.getElem?_eq_getElem (show i < xs.length by omega)
      rw [hs k i _ hx, drop_cons hx, List.findSome?_cons]
      cases V xs[i]
      · exact ih (i + 1) k (by omega) (by omega)
      · rfl
  have := key xs.length 0 fu (by omega) hf
  rwa [show ((0 : Nat) : Int) = 0 from rfl, List.drop_zero] at this
def ixL (l : List Int) (x : Int) : Nat := (ixI 0 (l.map fun y => x == y)).getD 0
theorem ixL_at {l : List Int} {x : Int} (h : x ∈ l) : ixI 0 (l.map fun y => x == y) = some (ixL l x) ∧ l[ixL l x]? = some x := by
  have h1 := ixI_any (l.map fun y => x == y) 0
  rw [map_any, show (l.any fun y => x == y) = true from List.any_eq_true.2 ⟨x, h, beq_self_eq_true x⟩] at h1
  unfold ixL
  cases hi : ixI 0 (l.map fun y => x == y) with
  | none => rw [hi] at h1; cases h1
  | some j =>
    refine ⟨rfl, ?_⟩
    obtain ⟨_, h3, _⟩ := ixI_some hi
    rw [Nat.sub_zero, List.getElem?_map] at h3
    show l[j]? = some x
    cases hl : l[j]? with
    | none => rw [hl] at h3; cases h3
    | some y =>
      rw [hl] at h3
      have h4 : (x == y) = true := Option.some.inj h3
      rw [eq_of_beq h4]
theorem index_t {fu : Nat} {l : List Int} {x : Int} (h : x ∈ l) (hl : l.length ≤ 1000) (hf : 1048577 ≤ fu) : M_slices_Index_int_int fu l x = some (ixL l x : Int) := by
  unfold M_slices_Index_int_int
  have h1 := loop_ix (xs := l) (p := fun y => x == y) (L := M_slices_Index_int_int_L0 fu l x) (fun k i y hy => by
    have hi := at_lt hy
    rw [M_slices_Index_int_int_L0, lt_t hi, cond_true, ck_t (inR_t hi), gtD_get hy, ck_t (i64B_n (by omega)), succ_i]) (fun k => by rw [M_slices_Index_int_int_L0, lt_f]; rfl) (show l.length < fu by omega)
  rw [h1, cl_true, (ixL_at h).1]
  rfl
def upV (r : LRs) (g : List Int) (n : Int) : List Int := g.set n.toNat (gtD (lev r n) ((ixL (lev r n) (gtD g n) : Int) + 1))
def upB (r : LRs) (g : List Int) (n : Int) : Bool := decide (ixL (lev r n) (gtD g n) + 1 < (lev r n).length) && !(holdB r (upV r g n))
def upO (r : LRs) (g : List Int) (n : Int) : Option (List Int) := bif upB r g n then some (upV r g n) else none
def rz (r : LRs) (g : List Int) : Option (List Int) := six.findSome? (upO r g)
theorem six_at {i : Nat} {n : Int} (h : six[i]? = some n) : i < 6 ∧ n = (i : Int) := by
  have hi : i < 6 := by have := at_lt h; simpa [six] using this
  unfold six at h
  rw [List.getElem?_map, List.getElem?_range hi] at h
  exact ⟨hi, (Option.some.inj h).symm⟩
theorem raised_t {fu : Nat} {r : LRs} {g : List Int} (hf : 1048577 ≤ fu) (hr : RsOK r) (hlv : ∀ n, (lev r n).length ≤ 10) (hg : g.length = 6) (hm : ∀ i : Nat, i < 6 → gtD g (i : Int) ∈ lev r (i : Int)) :
    M_impl_raised fu r (six.map (lev r)) g = some (match rz r g with | some u => (u, true) | none => ([], false)) := by
  unfold M_impl_raised rz
  have h := loop_some (xs := six) (V := upO r g) (f := fun u => (u, true)) (L := M_impl_raised_L0 fu r (six.map (lev r)) g) (fun k i n hn => by
    obtain ⟨hi, rfl⟩ := six_at hn
    have hmi := hm i hi
    have hl := hlv (i : Int)
    have e1 : gtD (six.map (lev r)) (i : Int) = lev r (i : Int) := by
      refine gtD_get ?_
      rw [List.getElem?_map, hn]
      rfl
    have hj := at_lt (ixL_at hmi).2
    rw [M_impl_raised_L0, hg, show decide ((i : Int) < ((6 : Nat) : Int)) = true from decide_eq_true (by omega), cond_true, ck_t (inR_t (n := 6) hi), ck_t (inR_t (n := 6) hi), e1, index_t hmi (by omega) hf, cl_true, ck_t (i64B_n (by omega)), ck_t (inR_t (n := 6) hi)]
    unfold upO upB upV
    by_cases hlast : ixL (lev r (i : Int)) (gtD g (i : Int)) + 1 = (lev r (i : Int)).length
    · rw [show (((ixL (lev r (i : Int)) (gtD g (i : Int)) : Int) + 1) == ((lev r (i : Int)).length : Int)) = true from beq_of_eq (by omega), cond_true, ck_t (i64B_n (by omega)), succ_i, decide_eq_false (by omega), Bool.false_and, cond_false]
    · rw [show (((ixL (lev r (i : Int)) (gtD g (i : Int)) : Int) + 1) == ((lev r (i : Int)).length : Int)) = false from beq_false_of_ne (by omega), cond_false]
      unfold M_slices_Clone_int_int
      rw [ck_t (lenOK_t (by rw [List.length_nil]; omega)), cl_true, List.nil_append, ck_t (inR_t (n := 6) hi), ck_t (inR_i (by omega) (by omega)), hg, ck_t (inR_t (n := 6) hi), implHold_t (by rw [List.length_set]; omega) hr hf, cl_true, decide_eq_true (show ixL (lev r (i : Int)) (gtD g (i : Int)) + 1 < (lev r (i : Int)).length by omega), Bool.true_and]
      cases holdB r (g.set (i : Int).toNat (gtD (lev r (i : Int)) ((ixL (lev r (i : Int)) (gtD g (i : Int)) : Int) + 1)))
      · rfl
      · rw [Bool.not_true, cond_false, cond_false, ck_t (i64B_n (by omega)), succ_i]) (fun k => by
    rw [M_impl_raised_L0, hg]
    rfl) (show six.length < fu by have : six.length = 6 := rfl; omega)
  rw [h, cl_true]
  cases six.findSome? (upO r g) <;> rfl
/-! the reference -/
theorem foldl_app2 {α β : Type} {f : α → β} : ∀ (l : List α) (a : List β), l.foldl (fun a t => a ++ [f t]) a = a ++ l.map f
  | [], a => by simp
  | x :: l, a => by rw [List.foldl_cons, foldl_app2 l, List.map_cons, List.append_assoc]; rfl
theorem foldl_fm2 {α β : Type} {f : α → List β} : ∀ (l : List α) (a : List β), l.foldl (fun a t => a ++ f t) a = a ++ l.flatMap f
  | [], a => by simp
  | x :: l, a => by rw [List.foldl_cons, foldl_fm2 l, List.flatMap_cons, List.append_assoc]
theorem gr_len {r : LRs} (hlv : ∀ n, (lev r n).length ≤ 10) : ∀ n, (gr r n).length ≤ 10 ^ n
  | 0 => Nat.le_refl _
  | n + 1 => by
    have ih := gr_len hlv n
    have key : ∀ (l : List (List Int)), (l.flatMap fun p => (lev r (n : Int)).map fun x => p ++ [x]).length ≤ 10 * l.length := by
      intro l
      induction l with
      | nil => exact Nat.le_refl _
      | cons p l ih2 =>
        have := hlv (n : Int)
        rw [List.flatMap_cons, List.length_append, List.length_map, List.length_cons]
        omega
    have := key (gr r n)
    rw [gr, Nat.pow_succ]
    omega
theorem gr_mem {r : LRs} : ∀ (n : Nat) (p : List Int), p ∈ gr r n → p.length = n ∧ ∀ i : Nat, i < n → gtD p (i : Int) ∈ lev r (i : Int)
  | 0, p, h => by
    rw [gr, List.mem_singleton] at h
    subst h
    exact ⟨rfl, fun i hi => by omega⟩
  | n + 1, p, h => by
    rw [gr, List.mem_flatMap] at h
    obtain ⟨q, hq, h⟩ := h
    obtain ⟨x, hx, rfl⟩ := List.mem_map.1 h
    obtain ⟨h1, h2⟩ := gr_mem n q hq
    refine ⟨by rw [List.length_append, List.length_singleton, h1], fun i hi => ?_⟩
    by_cases hl : i = n
    · subst hl
      have e : (q ++ [x])[i]? = some x := by rw [List.getElem?_append_right (by omega), h1, Nat.sub_self]; rfl
      rw [gtD_get e]
      exact hx
    · have := h2 i (by omega)
      have hq' := List.getElem?_eq_getElem (show i < q.length by omega)
      have e : (q ++ [x])[i]? = some q[i] := by rw [List.getElem?_append_left (by omega)]; exact hq'
      rw [gtD_get e]
      rwa [gtD_get hq'] at this
theorem grid2_t {fu : Nat} {out acc : List (List Int)} {ls p : List Int} {i : Nat} (hf : 1048577 ≤ fu) (hp : out[i]? = some p) (hpl : p.length ≤ 6) (hl : ls.length ≤ 10) (ha : acc.length ≤ 10000000) :
    M_spec_l14Grid_L2 fu out ls (i : Int) fu (0 : Int) acc = some (acc ++ ls.map fun x => p ++ [x]) := by
  have h := loop_fold (xs := ls) (g := fun (a : List (List Int)) x => a ++ [p ++ [x]]) (Inv := fun j a => a.length ≤ 10000000 + j) (L := M_spec_l14Grid_L2 fu out ls (i : Int)) (fun k j a x hx hi => by
    have hlt := at_lt hx
    rw [M_spec_l14Grid_L2, lt_t hlt, cond_true, ck_t (inR_t (at_lt hp)), gtD_get hp, ck_t (lenOK_t (by rw [List.length_nil]; omega)), ck_t (inR_t hlt), gtD_get hx, List.nil_append, ck_t (lenOK_t (by rw [List.length_singleton]; omega)), ck_t (lenOK_t (by rw [List.length_singleton]; omega)), ck_t (i64B_n (by omega)), succ_i]) (fun j a x hx hi => by
    rw [List.length_append, List.length_singleton]
    omega) (fun k a hi => by rw [M_spec_l14Grid_L2, lt_f]; rfl) (a := acc) (by omega) (show ls.length < fu by omega)
  rw [h.1, foldl_app2]
theorem grid1_t {fu : Nat} {out : List (List Int)} {ls : List Int} (hf : 1048577 ≤ fu) (hp : ∀ p ∈ out, p.length ≤ 6) (ho : out.length ≤ 1000000) (hl : ls.length ≤ 10) :
    M_spec_l14Grid_L1 fu out ls fu (0 : Int) [] = some (out.flatMap fun p => ls.map fun x => p ++ [x]) := by
  have h := loop_fold (xs := out) (g := fun (a : List (List Int)) p => a ++ ls.map fun x => p ++ [x]) (Inv := fun j a => a.length ≤ 10 * j) (L := M_spec_l14Grid_L1 fu out ls) (fun k j a p hx hi => by
    have hlt := at_lt hx
    rw [M_spec_l14Grid_L1, lt_t hlt, cond_true, grid2_t hf hx (hp p (at_mem hx)) hl (by omega), cl_true, ck_t (i64B_n (by omega)), succ_i]) (fun j a p hx hi => by
    rw [List.length_append, List.length_map]
    omega) (fun k a hi => by rw [M_spec_l14Grid_L1, lt_f]; rfl) (a := []) (Nat.le_refl _) (show out.length < fu by omega)
  rw [h.1, foldl_fm2, List.nil_append]
theorem grid_t {fu : Nat} {r : LRs} (hf : 1048577 ≤ fu) (hn : r.length ≤ 3) (hl : ∀ l ∈ r, l.length ≤ 3) (hlv : ∀ n, (lev r n).length ≤ 10) : M_spec_l14Grid fu r = some (gr r 6) := by
  unfold M_spec_l14Grid
  have h := loop_st (n := 6) (st := gr r) (L := M_spec_l14Grid_L0 fu r) (fun k n hn6 => by
    have hle : (gr r n).length ≤ 1000000 := Nat.le_trans (gr_len hlv n) (Nat.le_trans (Nat.pow_le_pow_right (by omega) (show n ≤ 6 by omega)) (by decide))
    rw [M_spec_l14Grid_L0, show decide ((n : Int) < (6 : Int)) = true from decide_eq_true (by omega), cond_true, levels_t hf hn hl, cl_true, grid1_t hf (fun p hp => by have := (gr_mem n p hp).1; omega) hle (hlv _), cl_true, ck_t (i64B_n (by omega)), succ_i]
    rfl) (fun k => by
    rw [M_spec_l14Grid_L0]
    rfl) (show 6 < fu by omega)
  have h' : M_spec_l14Grid_L0 fu r fu (0 : Int) [[]] = _ := h
  rw [h', cl_true]
theorem nodup_at {l : List Int} (h : SortedS iLt l) {i j : Nat} {x : Int} (hi : l[i]? = some x) (hj : l[j]? = some x) : i = j := by
  have hn := SortedS.nodup sto_iLt h
  obtain ⟨h1, e1⟩ := List.getElem?_eq_some_iff.1 hi
  obtain ⟨h2, e2⟩ := List.getElem?_eq_some_iff.1 hj
  have hp := List.pairwise_iff_getElem.1 hn
  rcases Nat.lt_trichotomy i j with h | h | h
  · exact absurd (e1.trans e2.symm) (hp i j h1 h2 h)
  · exact h
  · exact absurd (e2.trans e1.symm) (hp j i h2 h1 h)
theorem findB_noneB {P : Nat → Bool} : ∀ {m i : Nat}, findB P i m = none → ∀ j, i ≤ j → j < i + m → P j = false
  | 0, i, h, j, h1, h2 => by omega
  | m + 1, i, h, j, h1, h2 => by
    unfold findB at h
    cases hp : P i
    · rw [hp] at h
      rcases Nat.lt_or_ge i j with hlt | hge
      · exact findB_noneB (m := m) h j (by omega) (by omega)
      · obtain rfl : j = i := by omega
        exact hp
    · rw [hp] at h
      cases h
theorem viol2_t {fu : Nat} {r : LRs} {out : List (List Int)} {g : List Int} {i n : Nat} (hf : 1048577 ≤ fu) (hr : RsOK r) (hlv : ∀ n, (lev r n).length ≤ 10) (hso : ∀ n, SortedS iLt (lev r n)) (hg : out[i]? = some g) (hgl : g.length = 6) (hn : n < 6) (hm : gtD g (n : Int) ∈ lev r (n : Int)) :
    M_spec_MonotoneViolation_L2 fu r out (i : Int) (n : Int) (lev r (n : Int)) fu (0 : Int) = some (match upO r g (n : Int) with | some u => .ret (g, u, true) | none => .go ()) := by
  have hl := hlv (n : Int)
  obtain ⟨_, hj⟩ := ixL_at hm
  have hjl := at_lt hj
  generalize hJ : ixL (lev r (n : Int)) (gtD g (n : Int)) = J at hj hjl
  generalize hls : lev r (n : Int) = ls at *
  have hsl : SortedS iLt ls := hls ▸ hso (n : Int)
  have h := loop_find (n := ls.length - 1) (P := fun k => (gtD ls (k : Int) == gtD g (n : Int)) && !(holdB r (g.set n (gtD ls ((k : Int) + 1))))) (ret := fun k => (g, g.set n (gtD ls ((k : Int) + 1)), true)) (L := M_spec_MonotoneViolation_L2 fu r out (i : Int) (n : Int) ls) (fun k j hjl => by
    rw [M_spec_MonotoneViolation_L2, ck_t (i64B_n (by omega)), show decide ((j : Int) + 1 < (ls.length : Int)) = true from decide_eq_true (by omega), cond_true, ck_t (inR_t (by omega)), ck_t (inR_t (at_lt hg)), gtD_get hg, hgl, ck_t (inR_t (n := 6) hn)]
    show (bif !(gtD ls (j : Int) == gtD g (n : Int)) then _ else _) = _
    cases gtD ls (j : Int) == gtD g (n : Int)
    · rw [Bool.not_false, cond_true, Bool.false_and, cond_false, ck_t (i64B_n (by omega)), succ_i]
    · rw [Bool.not_true, cond_false, Bool.true_and, ck_t (inR_t (at_lt hg)), ck_t (lenOK_t (by rw [List.length_nil]; omega)), ck_t (i64B_n (by omega)), ck_t (inR_i (by omega) (by omega)), List.nil_append, hgl, ck_t (inR_t (n := 6) hn), set_nat, specHold_t (by rw [List.length_set]; omega) hr hf, cl_true, ck_t (inR_t (at_lt hg)), ck_t (i64B_n (by omega)), succ_i]) (fun k => by
    rw [M_spec_MonotoneViolation_L2, ck_t (i64B_n (by omega)), decide_eq_false (by omega)]
    rfl) (ls.length - 1) 0 fu (by omega) (by omega)
  rw [show ((0 : Nat) : Int) = 0 from rfl] at h
  rw [h]
  congr 1
  have hJ' : ((J : Int) + 1) = ((J : Int) + 1) := rfl
  have e1 : upV r g (n : Int) = g.set n (gtD ls ((J : Int) + 1)) := by unfold upV; rw [hls, hJ, Int.toNat_natCast]
  have e2 : upB r g (n : Int) = (decide (J + 1 < ls.length) && !(holdB r (g.set n (gtD ls ((J : Int) + 1))))) := by unfold upB; rw [e1, hls, hJ]
  unfold upO
  rw [e1, e2]
  have huniq : ∀ k : Nat, k < ls.length → (gtD ls (k : Int) == gtD g (n : Int)) = true → k = J := fun k hk he => by
    have h1 := List.getElem?_eq_getElem hk
    rw [gtD_get h1] at he
    rw [eq_of_beq he] at h1
    exact nodup_at hsl h1 hj
  have hJt : (gtD ls (J : Int) == gtD g (n : Int)) = true := by rw [gtD_get hj]; exact beq_self_eq_true _
  cases hfb : findB (fun k => (gtD ls (k : Int) == gtD g (n : Int)) && !(holdB r (g.set n (gtD ls ((k : Int) + 1))))) 0 (ls.length - 1) with
  | some k =>
    obtain ⟨_, hk, hP⟩ := findB_lt hfb
    rw [Bool.and_eq_true] at hP
    obtain rfl := huniq k (by omega) hP.1
    rw [decide_eq_true (show k + 1 < ls.length by omega), hP.2]
    rfl
  | none =>
    have hno := findB_noneB hfb
    by_cases hlast : J + 1 < ls.length
    · have := hno J (by omega) (by omega)
      rw [hJt, Bool.true_and] at this
      rw [this, Bool.and_false]
      rfl
    · rw [decide_eq_false hlast]
      rfl
def vio (r : LRs) : VF := fun g => bif holdB r g then (rz r g).map fun u => (g, u) else none
def mvV (r : LRs) : List Int × List Int × Bool := bif rsB r then (match (gr r 6).findSome? (vio r) with | some x => (x.1, x.2, true) | none => ([], [], false)) else ([], [], false)
theorem lev_len {r : LRs} (h1 : r.length ≤ 3) (h2 : ∀ l ∈ r, l.length ≤ 3) (n : Int) : (lev r n).length ≤ 10 := by
  have hfl := flat_len (n := 3) h2
  have := levs_len n r.flatten [0]
  unfold lev
  simp only [List.length_singleton] at this
  omega
theorem specMv_t {fu : Nat} {r : LRs} (hf : 1048577 ≤ fu) (hr : RsOK r) : M_spec_MonotoneViolation fu r = some (mvV r) := by
  unfold M_spec_MonotoneViolation mvV
  rw [specRs_t hf hr, cl_true]
  cases hv : rsB r
  · rfl
  · obtain ⟨h1, h2⟩ := rsB_len hv
    have h3 : ∀ l ∈ r, l.length ≤ 3 := fun l hl => (h2 l hl).1
    have hlv := lev_len h1 h3
    have hso : ∀ n, SortedS iLt (lev r n) := fun n => (lev_prop n r.flatten [0] (List.pairwise_singleton ..)).1
    have hle : (gr r 6).length ≤ 1000000 := gr_len hlv 6
    rw [Bool.not_true, cond_false, grid_t hf h1 h3 hlv, cl_true, cond_true]
    have h := loop_some (xs := gr r 6) (V := vio r) (f := fun x => (x.1, x.2, true)) (L := M_spec_MonotoneViolation_L0 fu r (gr r 6)) (fun k i g hg => by
      obtain ⟨hgl, hgm⟩ := gr_mem 6 g (at_mem hg)
      have hi := at_lt hg
      rw [M_spec_MonotoneViolation_L0, lt_t hi, cond_true, ck_t (inR_t hi), gtD_get hg, specHold_t (by omega) hr hf, cl_true]
      unfold vio
      cases holdB r g
      · rw [Bool.not_false, cond_true, ck_t (i64B_n (by omega)), succ_i]
        rfl
      · rw [Bool.not_true, cond_false, cond_true]
        have hL := loop_some (xs := six) (V := upO r g) (f := fun u => (g, u, true)) (L := M_spec_MonotoneViolation_L1 fu r (gr r 6) (i : Int)) (fun k n y hy => by
          obtain ⟨hn, rfl⟩ := six_at hy
          rw [M_spec_MonotoneViolation_L1, show decide ((n : Int) < (6 : Int)) = true from decide_eq_true (by omega), cond_true, levels_t hf h1 h3, cl_true, viol2_t hf hr hlv hso hg hgl hn (hgm n hn), cl_true]
          cases upO r g (n : Int)
          · show exM (.go ()) _ _ = _
            rw [exM_go', ck_t (i64B_n (by omega)), succ_i]
          · rfl) (fun k => by
          rw [M_spec_MonotoneViolation_L1]
          rfl) (show six.length < fu by have : six.length = 6 := rfl; omega)
        rw [hL, cl_true]
        unfold rz
        cases six.findSome? (upO r g)
        · show exM (.go ()) _ _ = _
          rw [exM_go', ck_t (i64B_n (by omega)), succ_i]
          rfl
        · rfl) (fun k => by rw [M_spec_MonotoneViolation_L0, lt_f]; rfl) (show (gr r 6).length < fu by omega)
    rw [h, cl_true]
    cases (gr r 6).findSome? (vio r) <;> rfl
theorem implMv_t {fu : Nat} {r : LRs} (hf : 1048577 ≤ fu) (hr : RsOK r) : M_impl_MonotoneViolation fu r = some (mvV r) := by
  unfold M_impl_MonotoneViolation mvV
  rw [implRs_t hf hr, cl_true]
  cases hv : rsB r
  · rfl
  · obtain ⟨h1, h2⟩ := rsB_len hv
    have h3 : ∀ l ∈ r, l.length ≤ 3 := fun l hl => (h2 l hl).1
    have hlv := lev_len h1 h3
    rw [cond_true, levelsOf_t hf h1 h3, cl_true, cond_true]
    have h := fnd_from (V := vio r) (fu := fu) hlv hf (fun g nx hg hgm => by
      rw [implHold_t (by omega) hr hf, cl_true]
      unfold vio
      cases holdB r g
      · exact ⟨nx, rfl, fun a u h => by cases h⟩
      · rw [cond_true, cond_true, raised_t hf hr hlv hg hgm, cl_true]
        cases rz r g with
        | none => exact ⟨[], rfl, fun a u h => by cases h⟩
        | some u => exact ⟨u, rfl, fun a v h => by injection h with h; injection h⟩) (fun g a u h => by
      unfold vio at h
      cases hb : holdB r g
      · rw [hb] at h; cases h
      · rw [hb, cond_true] at h
        cases hz : rz r g with
        | none => rw [hz] at h; cases h
        | some v =>
          rw [hz] at h
          injection h with h
          injection h with h
          exact h.symm) 6 fu [0, 0, 0, 0, 0, 0] [] (Nat.le_refl _) (by omega) rfl (fun i hi => by omega)
    obtain ⟨g', nx', k1, k2, k3, k4⟩ := h.r
    have e0 : ((tl r 6).findSome? fun t => vio r (([0, 0, 0, 0, 0, 0] : List Int).take (6 - 6) ++ t)) = (gr r 6).findSome? (vio r) := by rw [gr_six]; rfl
    rw [e0] at k1 k3
    have k1' : mvFrom fu r (six.map (lev r)) fu (0 : Int) [0, 0, 0, 0, 0, 0] [] = _ := k1
    rw [k1', cl_true]
    cases hs : (gr r 6).findSome? (vio r) with
    | none => rfl
    | some x =>
      obtain ⟨rfl, rfl⟩ := k3 x.1 x.2 hs
      rfl
theorem implIs_t {fu : Nat} {r : LRs} (hf : 1048577 ≤ fu) (hr : RsOK r) : M_impl_IsMonotone fu r = some (rsB r && !(mvV r).2.2) := by
  unfold M_impl_IsMonotone
  simp only [implMv_t hf hr, implRs_t hf hr, cl_true, bd_eq]
theorem specIs_t {fu : Nat} {r : LRs} (hf : 1048577 ≤ fu) (hr : RsOK r) : M_spec_IsMonotone fu r = some (rsB r && !(mvV r).2.2) := by
  unfold M_spec_IsMonotone
  simp only [specMv_t hf hr, specRs_t hf hr, cl_true, bd_eq]
theorem hs_IsMonotone {a0 : LRs} (h0 : (qS (qS (qP qI (qP qI qT)))) a0) (hw : w_RuleSet a0 ≤ 1048576) : ∃ r : Bool, M_spec_IsMonotone 1048577 a0 = some r ∧ M_impl_IsMonotone 1048577 a0 = some r := by
  have hr := rs_ok hw
  exact ⟨_, specIs_t (Nat.le_refl _) hr, implIs_t (Nat.le_refl _) hr⟩
end Go.Proofs.Ytmkgocdgkdglnaa
