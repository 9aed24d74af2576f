/- Rows of trees as lists of their parts: what lies in them can be put in another order, left out or set between. No statement of the seat is proved here. -/
import Derived.Test.YtmgiijdejigdhaaDu
namespace Go.Proofs.Ytmgiijdejigdhaa
open Go.RowKit
set_option linter.unusedVariables false

theorem flat_at {α : Type} {n : Nat} : ∀ (L : List (List α)) (i j : Nat), (∀ d ∈ L, d.length = n) → j < n → L.flatten[i * n + j]? = (L[i]?).bind fun d => d[j]?
  | [], i, j, _, _ => by simp
  | d :: L, 0, j, h, hj => by
    have hd := h d (List.mem_cons_self ..)
    rw [List.flatten_cons, Nat.zero_mul, Nat.zero_add, List.getElem?_append_left (by omega)]
    rfl
  | d :: L, i + 1, j, h, hj => by
    have hd := h d (List.mem_cons_self ..)
    rw [List.flatten_cons, Nat.add_mul, Nat.one_mul, List.getElem?_append_right (by omega), show i * n + n + j - d.length = i * n + j by omega, flat_at L i j (fun x hx => h x (List.mem_cons_of_mem _ hx)) hj]
    rfl
theorem flat_len {α : Type} {n : Nat} : ∀ (L : List (List α)), (∀ d ∈ L, d.length = n) → L.flatten.length = L.length * n
  | [], _ => by simp
  | d :: L, h => by
    have hd := h d (List.mem_cons_self ..)
    rw [List.flatten_cons, List.length_append, flat_len L fun x hx => h x (List.mem_cons_of_mem _ hx), hd, List.length_cons, Nat.add_mul, Nat.one_mul, Nat.add_comm]
theorem flat_take {α : Type} {n : Nat} : ∀ (L : List (List α)) (i : Nat), (∀ d ∈ L, d.length = n) → (L.take i).flatten = L.flatten.take (i * n)
  | [], i, _ => by simp
  | d :: L, 0, h => by simp
  | d :: L, i + 1, h => by
    have hd := h d (List.mem_cons_self ..)
    rw [List.take_succ_cons, List.flatten_cons, List.flatten_cons, flat_take L i fun x hx => h x (List.mem_cons_of_mem _ hx), List.take_append, hd, Nat.add_mul, Nat.one_mul, List.take_of_length_le (l := d) (by omega), Nat.add_sub_cancel]
theorem flat_drop {α : Type} {n : Nat} : ∀ (L : List (List α)) (i : Nat), (∀ d ∈ L, d.length = n) → (L.drop i).flatten = L.flatten.drop (i * n)
  | [], i, _ => by simp
  | d :: L, 0, h => by simp
  | d :: L, i + 1, h => by
    have hd := h d (List.mem_cons_self ..)
    rw [List.drop_succ_cons, List.flatten_cons, flat_drop L i fun x hx => h x (List.mem_cons_of_mem _ hx), List.drop_append, hd, Nat.add_mul, Nat.one_mul, List.drop_of_length_le (l := d) (by omega), Nat.add_sub_cancel, List.nil_append]
section
variable {α : Type} {F : OE α} {A : Av} {w : World} {T : TypeId} {S : Nat → Prop}
/-- a tree in a row: its value, its blocks, its cells -/
abbrev Prt (α : Type) := α × (Nat → Prop) × List Value
structure EL (F : OE α) (A : Av) (w : World) (L : List (Prt α)) : Prop where
  own : ∀ t ∈ L, F.own A w t.2.1 t.1 t.2.2
  dis : L.Pairwise fun s t => ∀ k, s.2.1 k → ¬ t.2.1 k
def csOf (L : List (Prt α)) : List Value := (L.map (·.2.2)).flatten
def inL (L : List (Prt α)) (k : Nat) : Prop := ∃ t ∈ L, t.2.1 k
theorem EL.clen {L : List (Prt α)} (h : EL F A w L) : ∀ d ∈ L.map (·.2.2), d.length = F.E.size := fun d hd => by
  obtain ⟨t, ht, rfl⟩ := List.mem_map.1 hd
  exact F.len (h.own t ht)
theorem EL.len {L : List (Prt α)} (h : EL F A w L) : (csOf L).length = L.length * F.E.size := by
  unfold csOf
  rw [flat_len _ h.clen, List.length_map]
theorem EL.oc {L : List (Prt α)} (h : EL F A w L) : ∀ c ∈ csOf L, c.oneCell' = true := fun c hc => by
  obtain ⟨d, hd, hc⟩ := List.mem_flatten.1 hc
  obtain ⟨t, ht, rfl⟩ := List.mem_map.1 hd
  exact F.oc (h.own t ht) c hc
theorem EL.take {L : List (Prt α)} (h : EL F A w L) (i : Nat) : csOf (L.take i) = (csOf L).take (i * F.E.size) := by
  unfold csOf
  rw [← flat_take _ _ h.clen, List.map_take]
theorem EL.drop {L : List (Prt α)} (h : EL F A w L) (i : Nat) : csOf (L.drop i) = (csOf L).drop (i * F.E.size) := by
  unfold csOf
  rw [← flat_drop _ _ h.clen, List.map_drop]
theorem csOf_append (L M : List (Prt α)) : csOf (L ++ M) = csOf L ++ csOf M := by
  unfold csOf
  rw [List.map_append, List.flatten_append]
theorem EL.sub {L M : List (Prt α)} (h : EL F A w L) (hs : M.Sublist L) : EL F A w M := ⟨fun t ht => h.own t (hs.subset ht), h.dis.sublist hs⟩
theorem EL.stab {A' : Av} {w' : World} {L : List (Prt α)} (h : EL F A w L) (hb : ∀ k, inL L k → w'.heap[k]? = w.heap[k]?) (hs : Stp A A' w w') : EL F A' w' L := ⟨fun t ht => F.stab (h.own t ht) (fun k hk => hb k ⟨t, ht, hk⟩) hs, h.dis⟩
theorem EL.lt {L : List (Prt α)} (h : EL F A w L) {k : Nat} (hk : inL L k) : k < w.heap.size := let ⟨t, ht, hk⟩ := hk; F.lt (h.own t ht) hk
theorem EL.ins {L : List (Prt α)} (h : EL F A w L) (i : Nat) {t : Prt α} (ht : F.own A w t.2.1 t.1 t.2.2) (hd : ∀ k, t.2.1 k → ¬ inL L k) : EL F A w (L.take i ++ t :: L.drop i) := by
  have hp : (L.take i ++ t :: L.drop i).Perm (t :: L) := by
    have := List.perm_middle (a := t) (l₁ := L.take i) (l₂ := L.drop i)
    rwa [List.take_append_drop] at this
  refine ⟨fun s hs => ?_, (hp.pairwise_iff fun {x y} hxy k hy hx => hxy k hx hy).2 (List.pairwise_cons.2 ⟨fun s hs k hk hk' => hd k hk ⟨s, hs, hk'⟩, h.dis⟩)⟩
  rcases List.mem_cons.1 (hp.mem_iff.1 hs) with rfl | hs
  · exact ht
  · exact h.own s hs
theorem inL_ins {L : List (Prt α)} {i : Nat} {t : Prt α} {k : Nat} (h : inL (L.take i ++ t :: L.drop i) k) : t.2.1 k ∨ inL L k := by
  obtain ⟨s, hs, hk⟩ := h
  rcases List.mem_append.1 hs with hs | hs
  · exact .inr ⟨s, List.mem_of_mem_take hs, hk⟩
  · rcases List.mem_cons.1 hs with rfl | hs
    · exact .inl hk
    · exact .inr ⟨s, List.mem_of_mem_drop hs, hk⟩
theorem els_list {g : Nat} {arr : Array Value} {xs : List α} {Si : Nat → Nat → Prop} (h : Els F A w S g arr xs Si) (hsz : xs.length * F.E.size ≤ arr.size) : ∃ L : List (Prt α), EL F A w L ∧ L.map (·.1) = xs ∧ arr.toList.take (L.length * F.E.size) = csOf L ∧ ∀ k, inL L k ↔ ∃ i, i < xs.length ∧ Si i k := by
  have key : ∀ m, m ≤ xs.length → ∃ L : List (Prt α), L.map (·.1) = xs.take m ∧ ∀ (i : Nat) t, L[i]? = some t → t.2.1 = Si i ∧ F.own A w t.2.1 t.1 t.2.2 ∧ ∀ (j : Nat) u, t.2.2[j]? = some u → arr[i * F.E.size + j]? = some u := by
    intro m
    induction m with
    | zero => intro _; exact ⟨[], rfl, fun i t h => by simp at h⟩
    | succ m ih =>
      intro hm
      obtain ⟨L, h1, h2⟩ := ih (by omega)
      have hx := List.getElem?_eq_getElem (show m < xs.length by omega)
      obtain ⟨ds, h3, h4⟩ := h.el m _ hx
      have hl : L.length = m := by
        have := congrArg List.length h1
        rw [List.length_map, List.length_take] at this
        omega
      refine ⟨L ++ [(_, Si m, ds)], by rw [List.map_append, h1, List.take_add_one, hx]; rfl, fun i t ht => ?_⟩
      rcases Nat.lt_or_ge i L.length with hi | hi
      · rw [List.getElem?_append_left hi] at ht
        exact h2 i t ht
      · have hi2 := (List.getElem?_eq_some_iff.1 ht).1
        rw [List.length_append] at hi2
        have hi2 : i < L.length + 1 := hi2
        obtain rfl : i = L.length := by omega
        rw [List.getElem?_append_right (Nat.le_refl _), Nat.sub_self] at ht
        cases ht
        rw [hl]
        exact ⟨rfl, h3, h4⟩
  obtain ⟨L, h1, h2⟩ := key xs.length (Nat.le_refl _)
  rw [List.take_length] at h1
  have hl : L.length = xs.length := by rw [← h1, List.length_map]
  have hEL : EL F A w L := by
    refine ⟨fun t ht => ?_, List.pairwise_iff_getElem.2 fun i j hi hj hij k hk hk' => ?_⟩
    · obtain ⟨i, hi⟩ := List.getElem?_of_mem ht
      exact (h2 i t hi).2.1
    · rw [(h2 i _ (List.getElem?_eq_getElem hi)).1] at hk
      rw [(h2 j _ (List.getElem?_eq_getElem hj)).1] at hk'
      exact h.dis i j k (by omega) (by omega) (by omega) hk hk'
  refine ⟨L, hEL, h1, ?_, fun k => ⟨fun ⟨t, ht, hk⟩ => ?_, fun ⟨i, hi, hk⟩ => ?_⟩⟩
  · refine List.ext_getElem? fun p => ?_
    have hcl := hEL.len
    rcases Nat.lt_or_ge p (L.length * F.E.size) with hp | hp
    · rw [List.getElem?_take_of_lt hp, Array.getElem?_toList]
      have hpos : 0 < F.E.size := by
        rcases Nat.eq_zero_or_pos F.E.size with e | e
        · rw [e] at hp; omega
        · exact e
      have hdm := Nat.div_add_mod p F.E.size
      have hmod := Nat.mod_lt p hpos
      have hdiv : p / F.E.size < L.length := (Nat.div_lt_iff_lt_mul hpos).2 hp
      have ht := List.getElem?_eq_getElem hdiv
      obtain ⟨_, h5, h6⟩ := h2 _ _ ht
      have hd := F.len h5
      have hu := List.getElem?_eq_getElem (l := (L[p / F.E.size]).2.2) (show p % F.E.size < _ by omega)
      have e : p = p / F.E.size * F.E.size + p % F.E.size := by rw [Nat.mul_comm]; exact hdm.symm
      unfold csOf
      rw [e, flat_at _ _ _ hEL.clen hmod, List.getElem?_map, ht, h6 _ _ hu]
      exact hu.symm
    · rw [List.getElem?_eq_none_iff.2 (by rw [List.length_take]; omega), List.getElem?_eq_none_iff.2 (by omega)]
  · obtain ⟨i, hi⟩ := List.getElem?_of_mem ht
    rw [(h2 i t hi).1] at hk
    exact ⟨i, by have := (List.getElem?_eq_some_iff.1 hi).1; omega, hk⟩
  · have ht := List.getElem?_eq_getElem (show i < L.length by omega)
    refine ⟨_, List.mem_of_getElem? ht, ?_⟩
    rw [(h2 i _ ht).1]
    exact hk
/-- a row of trees, taken apart -/
theorem own_list {xs : List α} {u : Value} (h : (oSl T F).own A w S xs [u]) : ∃ L : List (Prt α), EL F A w L ∧ L.map (·.1) = xs ∧ ((u = .slice none 0 0 ∧ L = [] ∧ ∀ k, ¬ S k) ∨
    ∃ g c arr, u = .slice (some ⟨g, 0, none⟩) L.length c ∧ Blk w g T arr ∧ L.length ≤ c ∧ c ≤ maxLen ∧ arr.size = c * F.E.size ∧ arr.toList.take (L.length * F.E.size) = csOf L ∧ ¬ inL L g ∧ ∀ k, S k ↔ k = g ∨ inL L k) := by
  rcases h with ⟨e, rfl, hS⟩ | ⟨g, c, arr, Si, e, hk, hlc, hcm, hsz, hE⟩
  · obtain rfl := (List.cons.inj e).1
    exact ⟨[], ⟨fun t h => by simp at h, .nil⟩, rfl, .inl ⟨rfl, rfl, hS⟩⟩
  · obtain rfl := (List.cons.inj e).1
    obtain ⟨L, h1, h2, h3, h4⟩ := els_list hE (hsz ▸ Nat.mul_le_mul_right _ hlc)
    have hl : xs.length = L.length := by rw [← h2, List.length_map]
    refine ⟨L, h1, h2, .inr ⟨g, c, arr, by rw [hl], hk, by omega, hcm, hsz, h3, fun hg => ?_, fun k => ?_⟩⟩
    · obtain ⟨i, hi, hg⟩ := (h4 g).1 hg
      exact hE.out i hi hg
    · rw [hE.set k, h4 k]
/-- a row of trees, put together -/
theorem list_own {L : List (Prt α)} {g c : Nat} {arr : Array Value} (h : EL F A w L) (hk : Blk w g T arr) (hlc : L.length ≤ c) (hcm : c ≤ maxLen) (hsz : arr.size = c * F.E.size) (hcs : arr.toList.take (L.length * F.E.size) = csOf L) (hg : ¬ inL L g) :
    (oSl T F).own A w (fun k => k = g ∨ inL L k) (L.map (·.1)) [.slice (some ⟨g, 0, none⟩) L.length c] := by
  refine .inr ⟨g, c, arr, fun i k => ∃ t, L[i]? = some t ∧ t.2.1 k, by rw [List.length_map], hk, by rw [List.length_map]; exact hlc, hcm, hsz, ⟨fun i x hx => ?_, fun i j k hi hj hne h1 h2 => ?_, fun i hi h1 => ?_, fun k => ?_⟩⟩
  · rw [List.getElem?_map] at hx
    obtain ⟨t, ht, rfl⟩ := Option.map_eq_some_iff.1 hx
    have hm := h.own t (List.mem_of_getElem? ht)
    have e : (fun k => ∃ t, L[i]? = some t ∧ t.2.1 k) = t.2.1 := funext fun k => propext ⟨fun ⟨s, hs, h⟩ => by rw [ht] at hs; cases hs; exact h, fun h => ⟨t, ht, h⟩⟩
    refine ⟨t.2.2, ?_, fun j u hj => ?_⟩
    · show F.own A w (fun k => ∃ t, L[i]? = some t ∧ t.2.1 k) t.1 t.2.2
      rw [e]
      exact hm
    · have hjl := (List.getElem?_eq_some_iff.1 hj).1
      rw [F.len hm] at hjl
      have hil := (List.getElem?_eq_some_iff.1 ht).1
      have hlt : i * F.E.size + j < L.length * F.E.size := by
        have := Nat.mul_le_mul_right F.E.size (show i + 1 ≤ L.length from hil)
        rw [Nat.add_mul, Nat.one_mul] at this
        omega
      have := congrArg (fun l : List Value => l[i * F.E.size + j]?) hcs
      rw [List.getElem?_take_of_lt hlt, Array.getElem?_toList] at this
      rw [this]
      unfold csOf
      rw [flat_at _ _ _ h.clen hjl, List.getElem?_map, ht]
      exact hj
  · obtain ⟨s, hs, h1⟩ := h1
    obtain ⟨t, ht, h2⟩ := h2
    obtain ⟨hi, rfl⟩ := List.getElem?_eq_some_iff.1 hs
    obtain ⟨hj, rfl⟩ := List.getElem?_eq_some_iff.1 ht
    rcases Nat.lt_or_gt_of_ne hne with hlt | hlt
    · exact List.pairwise_iff_getElem.1 h.dis i j hi hj hlt k h1 h2
    · exact List.pairwise_iff_getElem.1 h.dis j i hj hi hlt k h2 h1
  · obtain ⟨s, hs, h1⟩ := h1
    exact hg ⟨s, List.mem_of_getElem? hs, h1⟩
  · constructor
    · rintro (h1 | ⟨t, ht, h1⟩)
      · exact .inl h1
      · obtain ⟨i, hi⟩ := List.getElem?_of_mem ht
        exact .inr ⟨i, by rw [List.length_map]; exact (List.getElem?_eq_some_iff.1 hi).1, t, hi, h1⟩
    · rintro (h1 | ⟨i, _, t, ht, h1⟩)
      · exact .inl h1
      · exact .inr ⟨t, List.mem_of_getElem? ht, h1⟩
end
end Go.Proofs.Ytmgiijdejigdhaa
