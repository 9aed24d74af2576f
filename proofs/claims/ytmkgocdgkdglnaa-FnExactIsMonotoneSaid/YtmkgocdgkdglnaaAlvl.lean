/- Plain: the levels of a feature, the reference's way (loops with the counter first). No statement of the seat is proved here. -/
import Derived.Test.YtmkgocdgkdglnaaAdv
import Derived.Test.YtmkgocdgkdglnaaAh
namespace Go.Proofs.Ytmkgocdgkdglnaa
open Go.RowKit
set_option linter.unusedVariables false
set_option linter.unusedSimpArgs false

def iLt (a b : Int) : Bool := decide (a < b)
theorem sto_iLt : Sto iLt := sto_int
theorem put14_t {fu : Nat} {l : List Int} {x : Int} (hf : l.length < fu) (hl : l.length ≤ 2147483648) : M_spec_l14Put fu l x = some (putS iLt l x) := by
  unfold M_spec_l14Put
  have h := loop_plc (lt := iLt) (x := x) (l := l) (L := M_spec_l14Put_L0 fu l x) (fun k i y hy => by
    have hi := at_lt hy
    rw [M_spec_l14Put_L0]
    simp only [lt_t hi, inR_t hi, gtD_get hy, bd_eq, Bool.or_true, Bool.true_and, ck_tt, i64B_c (show i ≤ 4294967296 by omega), succ_i, iLt]) (fun k => by rw [M_spec_l14Put_L0, lt_f]; rfl) hf
  have hp := plc_le (lt := iLt) (x := x) l
  rw [h, cl_true]
  simp only [bd_eq, subL_take, subL_drop, subR_k hp, subR_d hp, ck_tt, List.length_nil, List.length_append, List.length_take, List.length_drop, List.length_singleton, List.nil_append, Nat.zero_add, lenOK_t (show min (plc iLt x l) l.length ≤ 4294967296 by omega), lenOK_t (show min (plc iLt x l) l.length + 1 ≤ 4294967296 by omega), lenOK_t (show min (plc iLt x l) l.length + 1 + (l.length - plc iLt x l) ≤ 4294967296 by omega)]
  have hins : l.take (plc iLt x l) ++ [x] ++ l.drop (plc iLt x l) = putW iLt l x := by simp [putW, insAt]
  rw [hins]
  unfold putS
  by_cases hlt : plc iLt x l < l.length
  · have hg := List.getElem?_eq_getElem hlt
    rw [lt_t hlt, inR_t hlt, gtD_get hg, hg]
    have : (some l[plc iLt x l] == some x) = (l[plc iLt x l] == x) := rfl
    rw [this]
    cases (l[plc iLt x l] == x) <;> rfl
  · have e : decide (((plc iLt x l : Nat) : Int) < (l.length : Int)) = false := decide_eq_false (by omega)
    have e2 : l[plc iLt x l]? = none := List.getElem?_eq_none (by omega)
    rw [e, e2]
    rfl
def levG (n : Int) (acc : List Int) (t : TTst) : List Int := bif t.1 == n then putS iLt acc t.2.1 else acc
def lev (r : List (List TTst)) (n : Int) : List Int := r.flatten.foldl (levG n) [0]
theorem levG_len (n : Int) (acc : List Int) (t : TTst) : (levG n acc t).length ≤ acc.length + 1 := by
  unfold levG putS putW
  cases t.1 == n
  · exact Nat.le_succ _
  · rw [cond_true]
    cases (acc[plc iLt t.2.1 acc]? == some t.2.1)
    · rw [cond_false, insAt_length]; exact Nat.le_refl _
    · exact Nat.le_succ _
theorem levs_len (n : Int) : ∀ (ts : List TTst) (acc : List Int), (ts.foldl (levG n) acc).length ≤ acc.length + ts.length
  | [], acc => Nat.le_refl _
  | t :: ts, acc => by
    have h1 := levs_len n ts (levG n acc t)
    have h2 := levG_len n acc t
    rw [List.foldl_cons, List.length_cons]
    omega
theorem lev1_t {fu : Nat} {r : List (List TTst)} {l : List TTst} {i c : Nat} {n : Int} {acc : List Int} (hl : r[i]? = some l) (hf : 1048577 ≤ fu) (hn : l.length ≤ 3) (hc : acc.length ≤ c) (hc2 : c ≤ 1000) :
    M_spec_l14Levels_L1 fu r n (i : Int) fu (0 : Int) acc = some (l.foldl (levG n) acc) := by
  have h := loop_fold (xs := l) (g := levG n) (Inv := fun j a => a.length ≤ c + j) (L := fun k j a => M_spec_l14Levels_L1 fu r n (i : Int) k j a) (fun k j a t ht ha => by
    have hj := at_lt ht
    show M_spec_l14Levels_L1 fu r n (i : Int) (k + 1) (j : Int) a = _
    rw [M_spec_l14Levels_L1, ck_t (inR_t (at_lt hl)), gtD_get hl, lt_t hj, cond_true, ck_t (inR_t (at_lt hl)), ck_t (inR_t hj), gtD_get ht]
    unfold levG
    cases t.1 == n
    · rw [cond_false, cond_false, ck_t (i64B_n (by omega)), succ_i]
    · rw [cond_true, cond_true, put14_t (by omega) (by omega), cl_true, ck_t (i64B_n (by omega)), succ_i]) (fun j a t ht ha => by
    have := levG_len n a t
    omega) (fun k a ha => by
    show M_spec_l14Levels_L1 fu r n (i : Int) (k + 1) (l.length : Int) a = _
    rw [M_spec_l14Levels_L1, ck_t (inR_t (at_lt hl)), gtD_get hl, lt_f]; rfl) (a := acc) (by omega) (show l.length < fu by omega)
  exact h.1
theorem levels_t {fu : Nat} {r : List (List TTst)} {n : Int} (hf : 1048577 ≤ fu) (hn : r.length ≤ 3) (hl : ∀ l ∈ r, l.length ≤ 3) : M_spec_l14Levels fu r n = some (lev r n) := by
  unfold M_spec_l14Levels
  have h := loop_fold (xs := r) (g := fun (acc : List Int) l => l.foldl (levG n) acc) (Inv := fun i acc => acc.length ≤ 1 + 3 * i) (L := fun k i a => M_spec_l14Levels_L0 fu r n k i a) (fun k i acc l hl' hacc => by
    have hi := at_lt hl'
    show M_spec_l14Levels_L0 fu r n (k + 1) (i : Int) acc = _
    rw [M_spec_l14Levels_L0, lt_t hi, cond_true, lev1_t (c := 1 + 3 * i) hl' hf (hl l (at_mem hl')) hacc (by omega), cl_true, ck_t (i64B_n (by omega)), succ_i]) (fun i acc l hl' hacc => by
    have h1 := hl l (at_mem hl')
    have h2 := levs_len n l acc
    omega) (fun k acc hacc => by
    show M_spec_l14Levels_L0 fu r n (k + 1) (r.length : Int) acc = _
    rw [M_spec_l14Levels_L0, lt_f]; rfl) (a := [0]) (Nat.le_refl _) (show r.length < fu by omega)
  have h1 : M_spec_l14Levels_L0 fu r n fu (0 : Int) [0] = _ := h.1
  rw [h1, cl_true]
  unfold lev
  rw [List.foldl_flatten]
theorem lev_prop (n : Int) : ∀ (ts : List TTst) (a : List Int), SortedS iLt a → SortedS iLt (ts.foldl (levG n) a) ∧ ∀ y, y ∈ ts.foldl (levG n) a ↔ y ∈ a ∨ ∃ t ∈ ts, t.1 = n ∧ t.2.1 = y
  | [], a, h => ⟨h, fun y => by simp⟩
  | t :: ts, a, h => by
    rw [List.foldl_cons]
    cases e : t.1 == n
    · have hg : levG n a t = a := by unfold levG; rw [e]; rfl
      rw [hg]
      obtain ⟨h1, h2⟩ := lev_prop n ts a h
      refine ⟨h1, fun y => ?_⟩
      rw [h2]
      constructor
      · rintro (h | ⟨s, hs, h⟩)
        · exact .inl h
        · exact .inr ⟨s, List.mem_cons_of_mem _ hs, h⟩
      · rintro (h | ⟨s, hs, h, h'⟩)
        · exact .inl h
        · rcases List.mem_cons.1 hs with rfl | hs
          · rw [h] at e
            simp at e
          · exact .inr ⟨s, hs, h, h'⟩
    · have hg : levG n a t = putS iLt a t.2.1 := by unfold levG; rw [e]; rfl
      rw [hg]
      obtain ⟨h1, h2⟩ := lev_prop n ts _ (putS_sorted sto_iLt t.2.1 h)
      have e' : t.1 = n := by simpa using e
      refine ⟨h1, fun y => ?_⟩
      rw [h2, putS_mem]
      constructor
      · rintro ((h | h) | ⟨s, hs, h⟩)
        · exact .inr ⟨t, List.mem_cons_self .., e', h.symm⟩
        · exact .inl h
        · exact .inr ⟨s, List.mem_cons_of_mem _ hs, h⟩
      · rintro (h | ⟨s, hs, h, h'⟩)
        · exact .inl (.inr h)
        · rcases List.mem_cons.1 hs with rfl | hs
          · exact .inl (.inl h'.symm)
          · exact .inr ⟨s, hs, h, h'⟩
def six : List Int := (List.range 6).map fun (j : Nat) => (j : Int)
theorem w_len {α : Type} {f : α → Nat} {xs : List α} (h : wL f xs ≤ 1048576) : xs.length ≤ 1048576 ∧ ∀ x ∈ xs, f x ≤ 1048576 := by
  unfold wL at h
  exact ⟨by omega, fun x hx => Nat.le_trans (sz_mem hx) (by omega)⟩
theorem rs_ok {r : List (List TTst)} (h : w_RuleSet r ≤ 1048576) : RsOK r := by
  unfold w_RuleSet w_RuleS at h
  have k1 := w_len (f := w_Rule) h
  refine ⟨k1.1, fun l hl => ?_⟩
  have := k1.2 l hl
  unfold w_Rule w_TestS at this
  exact (w_len (f := w_Test) this).1
end Go.Proofs.Ytmkgocdgkdglnaa

