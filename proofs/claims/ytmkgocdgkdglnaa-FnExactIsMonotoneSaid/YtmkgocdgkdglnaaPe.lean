/- Plain words: lists in order. No program in sight. No statement of the seat is proved here. -/
import Derived.Test.YtmkgocdgkdglnaaPd
namespace Go.Proofs.Ytmkgocdgkdglnaa
open Go.RowKit
set_option linter.unusedVariables false

/-- a strict total order -/
structure Sto {α : Type} (lt : α → α → Bool) : Prop where
  irr : ∀ a, lt a a = false
  tr : ∀ a b c, lt a b = true → lt b c = true → lt a c = true
  tri : ∀ a b, lt a b = false → lt b a = false → a = b
theorem sto_int : Sto fun (a b : Int) => decide (a < b) := ⟨fun a => by simp, fun a b c h k => by simp at *; omega, fun a b h k => by simp at *; omega⟩
section
variable {α : Type} {lt : α → α → Bool}
theorem Sto.asy (S : Sto lt) {a b : α} (h : lt a b = true) : lt b a = false := by
  cases hb : lt b a
  · rfl
  · have := S.tr a b a h hb
    rw [S.irr] at this
    cases this
/-- not after: a ≤ b -/
theorem Sto.le_tr (S : Sto lt) {a b c : α} (h : lt b a = false) (k : lt c b = false) : lt c a = false := by
  cases hca : lt c a
  · rfl
  · cases hab : lt a b
    · have := S.tri a b hab h
      subst this
      rw [hca] at k
      cases k
    · have := S.tr c a b hca hab
      rw [this] at k
      cases k
abbrev SortedS (lt : α → α → Bool) (l : List α) : Prop := l.Pairwise fun a b => lt a b = true
abbrev SortedW (lt : α → α → Bool) (l : List α) : Prop := l.Pairwise fun a b => lt b a = false
theorem SortedS.w (S : Sto lt) {l : List α} (h : SortedS lt l) : SortedW lt l := h.imp fun h => S.asy h
theorem sortedS_one (S : Sto lt) : ∀ {l m : List α}, SortedS lt l → SortedS lt m → (∀ x, x ∈ l ↔ x ∈ m) → l = m
  | [], [], _, _, _ => rfl
  | [], b :: m, _, _, h => by have := (h b).2 (List.mem_cons_self ..); cases this
  | a :: l, [], _, _, h => by have := (h a).1 (List.mem_cons_self ..); cases this
  | a :: l, b :: m, hl, hm, h => by
    obtain ⟨h1, h2⟩ := List.pairwise_cons.1 hl
    obtain ⟨h3, h4⟩ := List.pairwise_cons.1 hm
    have e : a = b := by
      rcases List.mem_cons.1 ((h a).1 (List.mem_cons_self ..)) with e | e
      · exact e
      · rcases List.mem_cons.1 ((h b).2 (List.mem_cons_self ..)) with e' | e'
        · exact e'.symm
        · have := S.asy (h1 b e')
          rw [h3 a e] at this
          cases this
    subst e
    congr 1
    refine sortedS_one S h2 h4 fun x => ?_
    constructor
    · intro hx
      rcases List.mem_cons.1 ((h x).1 (List.mem_cons_of_mem _ hx)) with e | e
      · have := h1 x hx
        rw [e, S.irr] at this
        cases this
      · exact e
    · intro hx
      rcases List.mem_cons.1 ((h x).2 (List.mem_cons_of_mem _ hx)) with e | e
      · have := h3 x hx
        rw [e, S.irr] at this
        cases this
      · exact e
theorem SortedS.nodup (S : Sto lt) {l : List α} (h : SortedS lt l) : l.Nodup := h.imp fun {a b} h e => by subst e; rw [S.irr] at h; cases h
/-- x put in at place k -/
def insAt (l : List α) (k : Nat) (x : α) : List α := l.take k ++ x :: l.drop k
theorem insAt_perm (l : List α) (k : Nat) (x : α) : (insAt l k x).Perm (x :: l) := by
  have := (List.perm_middle (a := x) (l₁ := l.take k) (l₂ := l.drop k))
  rwa [List.take_append_drop] at this
theorem insAt_length (l : List α) (k : Nat) (x : α) : (insAt l k x).length = l.length + 1 := by simpa using (insAt_perm l k x).length_eq
theorem insAt_mem {l : List α} {k : Nat} {x y : α} : y ∈ insAt l k x ↔ y = x ∨ y ∈ l := by rw [(insAt_perm l k x).mem_iff, List.mem_cons]
theorem pw_ins {R : α → α → Prop} {l : List α} {k : Nat} {x : α} (hl : l.Pairwise R) (h1 : ∀ y ∈ l.take k, R y x) (h2 : ∀ y ∈ l.drop k, R x y) : (insAt l k x).Pairwise R := by
  have hl' : (l.take k ++ l.drop k).Pairwise R := by rw [List.take_append_drop]; exact hl
  obtain ⟨a, b, c⟩ := List.pairwise_append.1 hl'
  refine List.pairwise_append.2 ⟨a, List.pairwise_cons.2 ⟨h2, b⟩, fun y hy z hz => ?_⟩
  rcases List.mem_cons.1 hz with rfl | hz
  · exact h1 y hy
  · exact c y hy z hz
/-- the first place whose element is not before x -/
def plc (lt : α → α → Bool) (x : α) : List α → Nat
  | [] => 0
  | y :: l => bif lt y x then plc lt x l + 1 else 0
theorem plc_le {x : α} : ∀ l : List α, plc lt x l ≤ l.length
  | [] => Nat.le_refl _
  | y :: l => by
    unfold plc
    cases lt y x
    · exact Nat.zero_le _
    · have h : plc lt x l ≤ l.length := plc_le l
      simp
      omega
theorem plc_take {x : α} : ∀ l : List α, ∀ y ∈ l.take (plc lt x l), lt y x = true
  | [], y, h => by cases h
  | z :: l, y, h => by
    unfold plc at h
    cases hz : lt z x
    · rw [hz] at h
      cases h
    · rw [hz, cond_true, List.take_succ_cons] at h
      rcases List.mem_cons.1 h with rfl | h
      · exact hz
      · exact plc_take l y h
theorem plc_head {x : α} : ∀ l : List α, ∀ y, l[plc lt x l]? = some y → lt y x = false
  | [], y, h => by cases h
  | z :: l, y, h => by
    unfold plc at h
    cases hz : lt z x
    · rw [hz] at h
      obtain rfl : z = y := by simpa using h
      exact hz
    · rw [hz, cond_true, List.getElem?_cons_succ] at h
      exact plc_head l y h
theorem plc_drop (S : Sto lt) {x : α} {l : List α} (hl : SortedW lt l) : ∀ y ∈ l.drop (plc lt x l), lt y x = false := by
  intro y hy
  cases hd : l.drop (plc lt x l) with
  | nil => rw [hd] at hy; cases hy
  | cons z t =>
    have hz : l[plc lt x l]? = some z := by
      have : (l.drop (plc lt x l))[0]? = some z := by rw [hd]; rfl
      rwa [List.getElem?_drop, Nat.add_zero] at this
    have h0 := plc_head l z hz
    rw [hd] at hy
    rcases List.mem_cons.1 hy with rfl | hy
    · exact h0
    · have hp : (z :: t).Pairwise fun a b => lt b a = false := hd ▸ hl.sublist (List.drop_sublist _ _)
      exact S.le_tr h0 ((List.pairwise_cons.1 hp).1 y hy)
/-- x put in where it belongs -/
def putW (lt : α → α → Bool) (l : List α) (x : α) : List α := insAt l (plc lt x l) x
/-- .. unless it is there -/
def putS [BEq α] (lt : α → α → Bool) (l : List α) (x : α) : List α := bif (l[plc lt x l]? == some x) then l else putW lt l x
theorem putS_sorted [BEq α] [LawfulBEq α] (S : Sto lt) {l : List α} (x : α) (hl : SortedS lt l) : SortedS lt (putS lt l x) := by
  unfold putS
  cases hc : (l[plc lt x l]? == some x)
  · refine pw_ins hl (plc_take l) fun y hy => ?_
    have h1 := plc_drop S (hl.w S) y hy
    cases hxy : lt x y
    · have e := S.tri y x h1 hxy
      subst e
      exfalso
      -- y stands behind its own place: it is the first there
      cases hd : l.drop (plc lt y l) with
      | nil => rw [hd] at hy; cases hy
      | cons z t =>
        have hz : l[plc lt y l]? = some z := by
          have : (l.drop (plc lt y l))[0]? = some z := by rw [hd]; rfl
          rwa [List.getElem?_drop, Nat.add_zero] at this
        rw [hd] at hy
        have hp : (z :: t).Pairwise fun a b => lt a b = true := hd ▸ hl.sublist (List.drop_sublist _ _)
        rcases List.mem_cons.1 hy with e | hy
        · subst e
          rw [hz] at hc
          simp at hc
        · have := (List.pairwise_cons.1 hp).1 y hy
          rw [plc_head l z hz] at this
          cases this
    · rfl
  · exact hl
theorem putS_mem [BEq α] [LawfulBEq α] {l : List α} {x y : α} : y ∈ putS lt l x ↔ y = x ∨ y ∈ l := by
  unfold putS
  cases hc : (l[plc lt x l]? == some x)
  · exact insAt_mem
  · rw [beq_iff_eq] at hc
    exact ⟨.inr, fun h => h.elim (fun e => (by rw [e]; exact List.mem_of_getElem? hc)) id⟩
/-- neighbours that are equal, once -/
def cmpA [BEq α] : α → List α → List α
  | _, [] => []
  | p, x :: xs => bif x == p then cmpA x xs else x :: cmpA x xs
def cmpL [BEq α] : List α → List α
  | [] => []
  | x :: xs => x :: cmpA x xs
theorem cmpA_mem [BEq α] [LawfulBEq α] : ∀ {p : α} {l : List α} {y : α}, y ∈ cmpA p l → y ∈ l
  | p, x :: xs, y, h => by
    unfold cmpA at h
    cases hx : (x == p)
    · rw [hx, cond_false] at h
      rcases List.mem_cons.1 h with rfl | h
      · exact List.mem_cons_self ..
      · exact List.mem_cons_of_mem _ (cmpA_mem h)
    · rw [hx, cond_true] at h
      exact List.mem_cons_of_mem _ (cmpA_mem h)
theorem cmpA_mem2 [BEq α] [LawfulBEq α] : ∀ {p : α} {l : List α} {y : α}, y ∈ l → y = p ∨ y ∈ cmpA p l
  | p, x :: xs, y, h => by
    unfold cmpA
    cases hx : (x == p)
    · rw [cond_false]
      rcases List.mem_cons.1 h with rfl | h
      · exact .inr (List.mem_cons_self ..)
      · rcases cmpA_mem2 (p := x) h with rfl | h
        · exact .inr (List.mem_cons_self ..)
        · exact .inr (List.mem_cons_of_mem _ h)
    · rw [cond_true]
      rw [beq_iff_eq] at hx
      subst hx
      rcases List.mem_cons.1 h with rfl | h
      · exact .inl rfl
      · exact cmpA_mem2 h
theorem cmpL_mem [BEq α] [LawfulBEq α] {l : List α} {y : α} : y ∈ cmpL l ↔ y ∈ l := by
  cases l with
  | nil => rfl
  | cons x xs =>
    unfold cmpL
    constructor
    · intro h
      rcases List.mem_cons.1 h with rfl | h
      · exact List.mem_cons_self ..
      · exact List.mem_cons_of_mem _ (cmpA_mem h)
    · intro h
      rcases List.mem_cons.1 h with rfl | h
      · exact List.mem_cons_self ..
      · rcases cmpA_mem2 (p := x) h with rfl | h
        · exact List.mem_cons_self ..
        · exact List.mem_cons_of_mem _ h
theorem cmpA_sorted [BEq α] [LawfulBEq α] (S : Sto lt) : ∀ {p : α} {l : List α}, SortedW lt (p :: l) → SortedS lt (p :: cmpA p l)
  | p, [], _ => List.pairwise_cons.2 ⟨fun y h => (by cases h), List.Pairwise.nil⟩
  | p, x :: xs, h => by
    obtain ⟨h1, h2⟩ := List.pairwise_cons.1 h
    unfold cmpA
    cases hx : (x == p)
    · rw [cond_false]
      have ih := cmpA_sorted S h2
      refine List.pairwise_cons.2 ⟨fun y hy => ?_, ih⟩
      have hpx : lt p x = true := by
        cases hpx : lt p x
        · have := S.tri p x hpx (h1 x (List.mem_cons_self ..))
          subst this
          simp at hx
        · rfl
      rcases List.mem_cons.1 hy with rfl | hy
      · exact hpx
      · exact S.tr p x y hpx ((List.pairwise_cons.1 ih).1 y hy)
    · rw [cond_true]
      rw [beq_iff_eq] at hx
      subst hx
      exact cmpA_sorted S h2
theorem cmpL_sorted [BEq α] [LawfulBEq α] (S : Sto lt) {l : List α} (h : SortedW lt l) : SortedS lt (cmpL l) := by
  cases l with
  | nil => exact List.Pairwise.nil
  | cons x xs => exact cmpA_sorted S h
/-- what mergeSort gives is in order -/
theorem sort_sorted (S : Sto lt) (l : List α) : SortedW lt (l.mergeSort fun x y => !(lt y x)) := by
  have := List.pairwise_mergeSort (le := fun x y => !(lt y x)) (fun a b c h k => by
    simp only [Bool.not_eq_true'] at *
    exact S.le_tr h k) (fun a b => by
    simp only [Bool.or_eq_true, Bool.not_eq_true']
    cases hb : lt b a
    · exact .inl rfl
    · exact .inr (S.asy hb)) l
  exact this.imp fun h => by simpa using h
end
end Go.Proofs.Ytmkgocdgkdglnaa
