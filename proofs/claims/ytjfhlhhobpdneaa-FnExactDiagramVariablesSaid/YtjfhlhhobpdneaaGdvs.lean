/- Plain: the variables of rules, the reference's way. No statement of the seat is proved here. -/
import Derived.Test.YtjfhlhhobpdneaaGdv
import Derived.Test.YtjfhlhhobpdneaaGh
namespace Go.Proofs.Ytjfhlhhobpdneaa
open Go.RowKit
set_option linter.unusedVariables false
set_option linter.unusedSimpArgs false

def iLt (a b : Int) : Bool := decide (a < b)
theorem sto_iLt : Sto iLt := sto_int
theorem put14_t {fu : Nat} {l : List Int} {x : Int} (hf : l.length < fu) (hl : l.length ≤ 2147483648) : M_spec_l14Put fu l x = some (putS iLt l x) := by
  unfold M_spec_l14Put
  have h := loop_plc (lt := iLt) (x := x) (l := l) (L := M_spec_l14Put_L0 fu l x) (fun k i y hy => by
    have hi := at_lt hy
    rw [M_spec_l14Put_L0]
    simp only [lt_t hi, inR_t hi, gtD_get hy, bd_eq, Bool.or_true, Bool.true_and, ck_tt, i64B_c (show i ≤ 4294967296 by omega), succ_i, iLt]) (fun k => by rw [M_spec_l14Put_L0, lt_f]; rfl) hf
  have hp := plc_le (lt := iLt) (x := x) l
  rw [h, cl_true]
  simp only [bd_eq, subL_take, subL_drop, subR_k hp, subR_d hp, ck_tt, List.length_nil, List.length_append, List.length_take, List.length_drop, List.length_singleton, List.nil_append, Nat.zero_add, lenOK_t (show min (plc iLt x l) l.length ≤ 4294967296 by omega), lenOK_t (show min (plc iLt x l) l.length + 1 ≤ 4294967296 by omega), lenOK_t (show min (plc iLt x l) l.length + 1 + (l.length - plc iLt x l) ≤ 4294967296 by omega)]
  have hins : l.take (plc iLt x l) ++ [x] ++ l.drop (plc iLt x l) = putW iLt l x := by simp [putW, insAt]
  rw [hins]
  unfold putS
  by_cases hlt : plc iLt x l < l.length
  · have hg := List.getElem?_eq_getElem hlt
    rw [lt_t hlt, inR_t hlt, gtD_get hg, hg]
    have : (some l[plc iLt x l] == some x) = (l[plc iLt x l] == x) := rfl
    rw [this]
    cases (l[plc iLt x l] == x) <;> rfl
  · have e : decide (((plc iLt x l : Nat) : Int) < (l.length : Int)) = false := decide_eq_false (by omega)
    have e2 : l[plc iLt x l]? = none := List.getElem?_eq_none (by omega)
    rw [e, e2]
    rfl
def levG (n : Int) (acc : List Int) (t : TTst) : List Int := bif t.1 == n then putS iLt acc t.2.1 else acc
def lev (r : List (List TTst)) (n : Int) : List Int := r.flatten.foldl (levG n) [0]
theorem levG_len (n : Int) (acc : List Int) (t : TTst) : (levG n acc t).length ≤ acc.length + 1 := by
  unfold levG putS putW
  cases t.1 == n
  · exact Nat.le_succ _
  · rw [cond_true]
    cases (acc[plc iLt t.2.1 acc]? == some t.2.1)
    · rw [cond_false, insAt_length]; exact Nat.le_refl _
    · exact Nat.le_succ _
theorem levs_len (n : Int) : ∀ (ts : List TTst) (acc : List Int), (ts.foldl (levG n) acc).length ≤ acc.length + ts.length
  | [], acc => Nat.le_refl _
  | t :: ts, acc => by
    have h1 := levs_len n ts (levG n acc t)
    have h2 := levG_len n acc t
    rw [List.foldl_cons, List.length_cons]
    omega
theorem lev1_t {fu : Nat} {r : List (List TTst)} {l : List TTst} {i c : Nat} {n : Int} {acc : List Int} (hl : r[i]? = some l) (hf : 1048577 ≤ fu) (hn : l.length ≤ 3) (hc : acc.length ≤ c) (hc2 : c ≤ 1000) :
    M_spec_l14Levels_L1 fu r n (i : Int) fu acc (0 : Int) = some (l.foldl (levG n) acc) := by
  have h := loop_fold (xs := l) (g := levG n) (Inv := fun j a => a.length ≤ c + j) (L := fun k j a => M_spec_l14Levels_L1 fu r n (i : Int) k a j) (fun k j a t ht ha => by
    have hj := at_lt ht
    show M_spec_l14Levels_L1 fu r n (i : Int) (k + 1) a (j : Int) = _
    rw [M_spec_l14Levels_L1, ck_t (inR_t (at_lt hl)), gtD_get hl, lt_t hj, cond_true, ck_t (inR_t (at_lt hl)), ck_t (inR_t hj), gtD_get ht]
    unfold levG
    cases t.1 == n
    · rw [cond_false, cond_false, ck_t (i64B_n (by omega)), succ_i]
    · rw [cond_true, cond_true, put14_t (by omega) (by omega), cl_true, ck_t (i64B_n (by omega)), succ_i]) (fun j a t ht ha => by
    have := levG_len n a t
    omega) (fun k a ha => by
    show M_spec_l14Levels_L1 fu r n (i : Int) (k + 1) a (l.length : Int) = _
    rw [M_spec_l14Levels_L1, ck_t (inR_t (at_lt hl)), gtD_get hl, lt_f]; rfl) (a := acc) (by omega) (show l.length < fu by omega)
  exact h.1
theorem levels_t {fu : Nat} {r : List (List TTst)} {n : Int} (hf : 1048577 ≤ fu) (hn : r.length ≤ 3) (hl : ∀ l ∈ r, l.length ≤ 3) : M_spec_l14Levels fu r n = some (lev r n) := by
  unfold M_spec_l14Levels
  have h := loop_fold (xs := r) (g := fun (acc : List Int) l => l.foldl (levG n) acc) (Inv := fun i acc => acc.length ≤ 1 + 3 * i) (L := fun k i a => M_spec_l14Levels_L0 fu r n k a i) (fun k i acc l hl' hacc => by
    have hi := at_lt hl'
    show M_spec_l14Levels_L0 fu r n (k + 1) acc (i : Int) = _
    rw [M_spec_l14Levels_L0, lt_t hi, cond_true, lev1_t (c := 1 + 3 * i) hl' hf (hl l (at_mem hl')) hacc (by omega), cl_true, ck_t (i64B_n (by omega)), succ_i]) (fun i acc l hl' hacc => by
    have h1 := hl l (at_mem hl')
    have h2 := levs_len n l acc
    omega) (fun k acc hacc => by
    show M_spec_l14Levels_L0 fu r n (k + 1) acc (r.length : Int) = _
    rw [M_spec_l14Levels_L0, lt_f]; rfl) (a := [0]) (Nat.le_refl _) (show r.length < fu by omega)
  have h1 : M_spec_l14Levels_L0 fu r n fu [0] (0 : Int) = _ := h.1
  rw [h1, cl_true]
  unfold lev
  rw [List.foldl_flatten]
theorem lev_prop (n : Int) : ∀ (ts : List TTst) (a : List Int), SortedS iLt a → SortedS iLt (ts.foldl (levG n) a) ∧ ∀ y, y ∈ ts.foldl (levG n) a ↔ y ∈ a ∨ ∃ t ∈ ts, t.1 = n ∧ t.2.1 = y
  | [], a, h => ⟨h, fun y => by simp⟩
  | t :: ts, a, h => by
    rw [List.foldl_cons]
    cases e : t.1 == n
    · have hg : levG n a t = a := by unfold levG; rw [e]; rfl
      rw [hg]
      obtain ⟨h1, h2⟩ := lev_prop n ts a h
      refine ⟨h1, fun y => ?_⟩
      rw [h2]
      constructor
      · rintro (h | ⟨s, hs, h⟩)
        · exact .inl h
        · exact .inr ⟨s, List.mem_cons_of_mem _ hs, h⟩
      · rintro (h | ⟨s, hs, h, h'⟩)
        · exact .inl h
        · rcases List.mem_cons.1 hs with rfl | hs
          · rw [h] at e
            simp at e
          · exact .inr ⟨s, hs, h, h'⟩
    · have hg : levG n a t = putS iLt a t.2.1 := by unfold levG; rw [e]; rfl
      rw [hg]
      obtain ⟨h1, h2⟩ := lev_prop n ts _ (putS_sorted sto_iLt t.2.1 h)
      have e' : t.1 = n := by simpa using e
      refine ⟨h1, fun y => ?_⟩
      rw [h2, putS_mem]
      constructor
      · rintro ((h | h) | ⟨s, hs, h⟩)
        · exact .inr ⟨t, List.mem_cons_self .., e', h.symm⟩
        · exact .inl h
        · exact .inr ⟨s, List.mem_cons_of_mem _ hs, h⟩
      · rintro (h | ⟨s, hs, h, h'⟩)
        · exact .inl (.inr h)
        · rcases List.mem_cons.1 hs with rfl | hs
          · exact .inl (.inl h'.symm)
          · exact .inr ⟨s, hs, h, h'⟩
theorem foldl_app1 {α β : Type} {f : α → β} : ∀ (l : List α) (a : List β), l.foldl (fun a t => a ++ [f t]) a = a ++ l.map f
  | [], a => by simp
  | x :: l, a => by rw [List.foldl_cons, foldl_app1 l, List.map_cons, List.append_assoc]; rfl
theorem spec1_t {fu : Nat} {n : Int} {xs : List Int} {acc : List TTst} (hf : 1048577 ≤ fu) (h0 : 1 ≤ xs.length) (h1 : xs.length ≤ 1000) (h2 : acc.length ≤ 1000) :
    M_spec_DiagramVariables_L1 fu n xs fu (1 : Int) acc = some (acc ++ (xs.drop 1).map fun t => (n, t, false)) := by
  have h := loop_fold (xs := xs.drop 1) (g := fun (a : List TTst) t => a ++ [(n, t, false)]) (Inv := fun i a => a.length ≤ 1000 + i) (L := fun k i a => M_spec_DiagramVariables_L1 fu n xs k (i + 1) a) (fun k i a t ht ha => by
    have ht' : xs[i + 1]? = some t := by rw [List.getElem?_drop] at ht; rwa [Nat.add_comm] at ht
    have hi := at_lt ht'
    show M_spec_DiagramVariables_L1 fu n xs (k + 1) ((i + 1 : Nat) : Int) a = M_spec_DiagramVariables_L1 fu n xs k ((i + 1 + 1 : Nat) : Int) (a ++ [(n, t, false)])
    rw [M_spec_DiagramVariables_L1, lt_t hi, cond_true, ck_t (inR_t hi), gtD_get ht', ck_t (lenOK_t (by rw [List.length_singleton]; omega)), ck_t (i64B_n (by omega)), succ_i]) (fun i a t ht ha => by
    show (a ++ [(n, t, false)]).length ≤ _
    rw [List.length_append, List.length_singleton]
    omega) (fun k a ha => by
    show M_spec_DiagramVariables_L1 fu n xs (k + 1) (((xs.drop 1).length : Int) + 1) a = _
    rw [List.length_drop, show (((xs.length - 1 : Nat) : Int) + 1) = (xs.length : Int) by omega, M_spec_DiagramVariables_L1, lt_f]; rfl) (a := acc) (by omega) (show (xs.drop 1).length < fu by rw [List.length_drop]; omega)
  have h3 : M_spec_DiagramVariables_L1 fu n xs fu (1 : Int) acc = _ := h.1
  rw [h3, foldl_app1]
def six : List Int := (List.range 6).map fun (j : Nat) => (j : Int)
theorem foldl_fm {α β : Type} {f : α → List β} : ∀ (l : List α) (a : List β), l.foldl (fun a t => a ++ f t) a = a ++ l.flatMap f
  | [], a => by simp
  | x :: l, a => by rw [List.foldl_cons, foldl_fm l, List.flatMap_cons, List.append_assoc]
def specV (r : List (List TTst)) : List TTst := six.flatMap fun n => ((lev r n).drop 1).map fun t => (n, t, false)
theorem specVar0_t {fu : Nat} {r : List (List TTst)} (hf : 1048577 ≤ fu) (hr : RsOK r) : M_spec_DiagramVariables fu r = some (bif rsB r then specV r else []) := by
  unfold M_spec_DiagramVariables
  cases hv : rsB r
  · obtain ⟨k, rfl⟩ : ∃ k, fu = k + 1 := ⟨fu - 1, by omega⟩
    rw [M_spec_DiagramVariables_L0, specRs_t hf hr, hv]
    rfl
  · obtain ⟨h1, h2⟩ := rsB_len hv
    have hfl := flat_len (n := 3) fun l hl => (h2 l hl).1
    have hlev : ∀ n, (lev r n).length ≤ 10 := fun n => by
      have := levs_len n r.flatten [0]
      unfold lev
      simp only [List.length_singleton] at this
      omega
    have hlev1 : ∀ n, 1 ≤ (lev r n).length := fun n => List.length_pos_of_mem (((lev_prop n r.flatten [0] (List.pairwise_singleton ..)).2 0).2 (.inl (List.mem_singleton.2 rfl)))
    have h := loop_fold (xs := six) (g := fun (a : List TTst) n => a ++ ((lev r n).drop 1).map fun t => (n, t, false)) (Inv := fun i a => a.length ≤ 10 * i) (L := M_spec_DiagramVariables_L0 fu r) (fun k i a n hn ha => by
      have hi : i < 6 := by have := at_lt hn; simpa [six] using this
      obtain rfl : (i : Int) = n := by
        unfold six at hn
        rw [List.getElem?_map, List.getElem?_range hi] at hn
        exact Option.some.inj hn
      rw [M_spec_DiagramVariables_L0, decide_eq_true (show (i : Int) < 6 by omega), specRs_t hf hr, hv]
      simp only [cl_if, bd_eq, Bool.and_self, cond_true]
      rw [levels_t hf h1 fun l hl => (h2 l hl).1, cl_true, spec1_t hf (hlev1 _) (by have := hlev (i : Int); omega) (by omega), cl_true, ck_t (i64B_n (by omega)), succ_i]
      rfl) (fun i a n hn ha => by
      have := hlev n
      rw [List.length_append, List.length_map, List.length_drop]
      omega) (fun k a ha => by
      rw [M_spec_DiagramVariables_L0]
      rfl) (a := []) (Nat.zero_le _) (show six.length < fu by have : six.length = 6 := rfl; omega)
    rw [h.1, cl_true, foldl_fm, List.nil_append]
    rfl
theorem lev_drop {r : List (List TTst)} {n : Int} (h : ∀ l ∈ r, ∀ t ∈ l, 1 ≤ t.2.1) : SortedS iLt ((lev r n).drop 1) ∧ ∀ y, y ∈ (lev r n).drop 1 ↔ ∃ t ∈ r.flatten, t.1 = n ∧ t.2.1 = y := by
  obtain ⟨h1, h2⟩ := lev_prop n r.flatten [0] (List.pairwise_singleton ..)
  have hge : ∀ t ∈ r.flatten, 1 ≤ t.2.1 := fun t ht => by
    obtain ⟨l, hl, ht⟩ := List.mem_flatten.1 ht
    exact h l hl t ht
  change SortedS iLt (lev r n) at h1
  change ∀ y, y ∈ lev r n ↔ _ at h2
  cases hd : lev r n with
  | nil =>
    have := (h2 0).2 (.inl (List.mem_singleton.2 rfl))
    rw [hd] at this
    cases this
  | cons z m =>
    rw [hd] at h1 h2
    obtain ⟨h3, h4⟩ := List.pairwise_cons.1 h1
    have hz : z = 0 := by
      rcases List.mem_cons.1 ((h2 0).2 (.inl (List.mem_singleton.2 rfl))) with e | e
      · exact e.symm
      · have h5 : z < 0 := by simpa [iLt] using h3 0 e
        rcases (h2 z).1 (List.mem_cons_self ..) with e | ⟨t, ht, _, e⟩
        · exact List.mem_singleton.1 e
        · have := hge t ht
          omega
    subst hz
    refine ⟨h4, fun y => ?_⟩
    show y ∈ m ↔ _
    constructor
    · intro hy
      rcases (h2 y).1 (List.mem_cons_of_mem _ hy) with e | e
      · have := h3 y hy
        rw [List.mem_singleton.1 e] at this
        cases this
      · exact e
    · rintro ⟨t, ht, e1, e2⟩
      rcases List.mem_cons.1 ((h2 y).2 (.inr ⟨t, ht, e1, e2⟩)) with e | e
      · have := hge t ht
        omega
      · exact e
theorem specV_eq {r : List (List TTst)} (hv : rsB r = true) : specV r = varL r := by
  obtain ⟨h1, h2⟩ := rsB_len hv
  have hge : ∀ l ∈ r, ∀ t ∈ l, 1 ≤ t.2.1 := fun l hl t ht => ((h2 l hl).2 t ht).2.1
  unfold varL
  rw [hv, cond_true]
  refine sortedS_one sto_tT ?_ (cmpL_sorted sto_tT (sort_sorted sto_tT _)) fun x => ?_
  · unfold specV
    refine List.pairwise_flatMap.2 ⟨fun n hn => ?_, ?_⟩
    · rw [List.pairwise_map]
      exact (lev_drop hge).1.imp fun {a b} h => by
        rw [tT_iff]
        exact .inr ⟨rfl, .inl (by simpa [iLt] using h)⟩
    · have : six.Pairwise fun a b => a < b := by decide
      refine this.imp fun {a b} h x hx y hy => ?_
      obtain ⟨u, _, rfl⟩ := List.mem_map.1 hx
      obtain ⟨v, _, rfl⟩ := List.mem_map.1 hy
      rw [tT_iff]
      exact .inl h
  · rw [cmpL_mem, List.mem_mergeSort]
    unfold specV
    rw [List.mem_flatMap]
    constructor
    · rintro ⟨n, hn, hx⟩
      obtain ⟨y, hy, rfl⟩ := List.mem_map.1 hx
      obtain ⟨t, ht, e1, e2⟩ := ((lev_drop hge).2 y).1 hy
      subst e1 e2
      exact List.mem_map.2 ⟨t, ht, rfl⟩
    · intro hx
      obtain ⟨t, ht, rfl⟩ := List.mem_map.1 hx
      obtain ⟨l, hl, htl⟩ := List.mem_flatten.1 ht
      have hb := ((h2 l hl).2 t htl).1
      refine ⟨t.1, ?_, List.mem_map.2 ⟨t.2.1, ((lev_drop hge).2 _).2 ⟨t, ht, rfl, rfl⟩, rfl⟩⟩
      unfold six
      exact List.mem_map.2 ⟨t.1.toNat, List.mem_range.2 (by omega), by omega⟩
theorem specVar_t {fu : Nat} {r : List (List TTst)} (hf : 1048577 ≤ fu) (hr : RsOK r) : M_spec_DiagramVariables fu r = some (varL r) := by
  rw [specVar0_t hf hr]
  cases hv : rsB r
  · unfold varL
    rw [hv]
    rfl
  · rw [cond_true, specV_eq hv]
theorem w_len {α : Type} {f : α → Nat} {xs : List α} (h : wL f xs ≤ 1048576) : xs.length ≤ 1048576 ∧ ∀ x ∈ xs, f x ≤ 1048576 := by
  unfold wL at h
  exact ⟨by omega, fun x hx => Nat.le_trans (sz_mem hx) (by omega)⟩
theorem rs_ok {r : List (List TTst)} (h : w_RuleSet r ≤ 1048576) : RsOK r := by
  unfold w_RuleSet w_RuleS at h
  have k1 := w_len (f := w_Rule) h
  refine ⟨k1.1, fun l hl => ?_⟩
  have := k1.2 l hl
  unfold w_Rule w_TestS at this
  exact (w_len (f := w_Test) this).1
theorem cmpV_length {l : List TTst} : (cmpL l).length ≤ l.length := by
  cases l with
  | nil => exact Nat.le_refl _
  | cons x xs =>
    have := cmpA_length (p := x) (l := xs)
    simp [cmpL]
    omega
theorem hs_DiagramVariables {a0 : List (List TTst)} (h0 : (qS (qS (qP qI (qP qI qT)))) a0) (hw : w_RuleSet a0 ≤ 1048576) : ∃ r : List TTst, M_spec_DiagramVariables 1048577 a0 = some r ∧ M_impl_DiagramVariables 1048577 a0 = some r ∧ w_TestS r ≤ 1048576 := by
  have hr := rs_ok hw
  refine ⟨_, specVar_t (Nat.le_refl _) hr, implVar_t (Nat.le_refl _) hr, ?_⟩
  unfold w_TestS
  rw [wL_flat (f := w_Test) (fun _ => rfl)]
  unfold varL
  cases hv : rsB a0
  · exact Nat.zero_le _
  · obtain ⟨h1, h2⟩ := rsB_len hv
    have hfl := flat_len (n := 3) fun l hl => (h2 l hl).1
    have := cmpV_length (l := (a0.flatten.map nob).mergeSort fun x y => !(tT y x))
    rw [List.length_mergeSort, List.length_map] at this
    rw [cond_true]
    omega
end Go.Proofs.Ytjfhlhhobpdneaa

