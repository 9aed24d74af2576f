/- Plain words: lists in order. No program in sight. No statement of the seat is proved here. -/
import Derived.Test.YtofiipblinonoaaPd
namespace Go.Proofs.Ytofiipblinonoaa
open Go.RowKit
set_option linter.unusedVariables false

/-- a strict total order -/
structure Sto {α : Type} (lt : α → α → Bool) : Prop where
  irr : ∀ a, lt a a = false
  tr : ∀ a b c, lt a b = true → lt b c = true → lt a c = true
  tri : ∀ a b, lt a b = false → lt b a = false → a = b
theorem sto_bLt : Sto bLt := ⟨bLt_irrefl, fun _ _ _ => bLt_trans, fun _ _ => bLt_tri⟩
section
variable {α : Type} {lt : α → α → Bool}
theorem Sto.asy (S : Sto lt) {a b : α} (h : lt a b = true) : lt b a = false := by
  cases hb : lt b a
  · rfl
  · have := S.tr a b a h hb
    rw [S.irr] at this
    cases this
/-- not after: a ≤ b -/
theorem Sto.le_tr (S : Sto lt) {a b c : α} (h : lt b a = false) (k : lt c b = false) : lt c a = false := by
  cases hca : lt c a
  · rfl
  · cases hab : lt a b
    · have := S.tri a b hab h
      subst this
      rw [hca] at k
      cases k
    · have := S.tr c a b hca hab
      rw [this] at k
      cases k
abbrev SortedS (lt : α → α → Bool) (l : List α) : Prop := l.Pairwise fun a b => lt a b = true
abbrev SortedW (lt : α → α → Bool) (l : List α) : Prop := l.Pairwise fun a b => lt b a = false
theorem SortedS.w (S : Sto lt) {l : List α} (h : SortedS lt l) : SortedW lt l := h.imp fun h => S.asy h
theorem sortedW_one (S : Sto lt) {l m : List α} (hp : l.Perm m) (hl : SortedW lt l) (hm : SortedW lt m) : l = m :=
  sorted_one (fun a b h k => S.tri a b k h) hp hl hm
/-- x put in at place k -/
def insAt (l : List α) (k : Nat) (x : α) : List α := l.take k ++ x :: l.drop k
theorem insAt_perm (l : List α) (k : Nat) (x : α) : (insAt l k x).Perm (x :: l) := by
  have := (List.perm_middle (a := x) (l₁ := l.take k) (l₂ := l.drop k))
  rwa [List.take_append_drop] at this
theorem insAt_length (l : List α) (k : Nat) (x : α) : (insAt l k x).length = l.length + 1 := by simpa using (insAt_perm l k x).length_eq
theorem pw_ins {R : α → α → Prop} {l : List α} {k : Nat} {x : α} (hl : l.Pairwise R) (h1 : ∀ y ∈ l.take k, R y x) (h2 : ∀ y ∈ l.drop k, R x y) : (insAt l k x).Pairwise R := by
  have hl' : (l.take k ++ l.drop k).Pairwise R := by rw [List.take_append_drop]; exact hl
  obtain ⟨a, b, c⟩ := List.pairwise_append.1 hl'
  refine List.pairwise_append.2 ⟨a, List.pairwise_cons.2 ⟨h2, b⟩, fun y hy z hz => ?_⟩
  rcases List.mem_cons.1 hz with rfl | hz
  · exact h1 y hy
  · exact c y hy z hz
/-- the first place whose element is not before x -/
def plc (lt : α → α → Bool) (x : α) : List α → Nat
  | [] => 0
  | y :: l => bif lt y x then plc lt x l + 1 else 0
theorem plc_le {x : α} : ∀ l : List α, plc lt x l ≤ l.length
  | [] => Nat.le_refl _
  | y :: l => by
    unfold plc
    cases lt y x
    · exact Nat.zero_le _
    · have h : plc lt x l ≤ l.length := plc_le l
      simp
      omega
theorem plc_take {x : α} : ∀ l : List α, ∀ y ∈ l.take (plc lt x l), lt y x = true
  | [], y, h => by cases h
  | z :: l, y, h => by
    unfold plc at h
    cases hz : lt z x
    · rw [hz] at h
      cases h
    · rw [hz, cond_true, List.take_succ_cons] at h
      rcases List.mem_cons.1 h with rfl | h
      · exact hz
      · exact plc_take l y h
theorem plc_head {x : α} : ∀ l : List α, ∀ y, l[plc lt x l]? = some y → lt y x = false
  | [], y, h => by cases h
  | z :: l, y, h => by
    unfold plc at h
    cases hz : lt z x
    · rw [hz] at h
      obtain rfl : z = y := by simpa using h
      exact hz
    · rw [hz, cond_true, List.getElem?_cons_succ] at h
      exact plc_head l y h
theorem plc_drop (S : Sto lt) {x : α} {l : List α} (hl : SortedW lt l) : ∀ y ∈ l.drop (plc lt x l), lt y x = false := by
  intro y hy
  cases hd : l.drop (plc lt x l) with
  | nil => rw [hd] at hy; cases hy
  | cons z t =>
    have hz : l[plc lt x l]? = some z := by
      have : (l.drop (plc lt x l))[0]? = some z := by rw [hd]; rfl
      rwa [List.getElem?_drop, Nat.add_zero] at this
    have h0 := plc_head l z hz
    rw [hd] at hy
    rcases List.mem_cons.1 hy with rfl | hy
    · exact h0
    · have hp : (z :: t).Pairwise fun a b => lt b a = false := hd ▸ hl.sublist (List.drop_sublist _ _)
      exact S.le_tr h0 ((List.pairwise_cons.1 hp).1 y hy)
/-- x put in where it belongs -/
def putW (lt : α → α → Bool) (l : List α) (x : α) : List α := insAt l (plc lt x l) x
theorem putW_sorted (S : Sto lt) {l : List α} (x : α) (hl : SortedW lt l) : SortedW lt (putW lt l x) :=
  pw_ins hl (fun y hy => S.asy (plc_take l y hy)) (plc_drop S hl)
/-- .. unless it is there -/
def putS [BEq α] (lt : α → α → Bool) (l : List α) (x : α) : List α := bif (l[plc lt x l]? == some x) then l else putW lt l x
theorem foldl_putW (S : Sto lt) : ∀ (xs : List α) (a : List α), SortedW lt a → SortedW lt (xs.foldl (putW lt) a) ∧ (xs.foldl (putW lt) a).Perm (xs ++ a)
  | [], a, h => ⟨h, List.Perm.refl _⟩
  | x :: xs, a, h => by
    obtain ⟨h1, h2⟩ := foldl_putW S xs (putW lt a x) (putW_sorted S x h)
    refine ⟨h1, h2.trans ?_⟩
    exact ((List.Perm.refl xs).append (insAt_perm a _ x)).trans List.perm_middle
/-- what mergeSort gives is in order -/
theorem sort_sorted (S : Sto lt) (l : List α) : SortedW lt (l.mergeSort fun x y => !(lt y x)) := by
  have := List.pairwise_mergeSort (le := fun x y => !(lt y x)) (fun a b c h k => by
    simp only [Bool.not_eq_true'] at *
    exact S.le_tr h k) (fun a b => by
    simp only [Bool.or_eq_true, Bool.not_eq_true']
    cases hb : lt b a
    · exact .inl rfl
    · exact .inr (S.asy hb)) l
  exact this.imp fun h => by simpa using h
end
end Go.Proofs.Ytofiipblinonoaa
