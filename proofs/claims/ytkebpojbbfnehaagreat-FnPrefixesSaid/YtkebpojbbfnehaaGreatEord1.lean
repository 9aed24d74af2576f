/- Plain: the table of a sorted list: names ascend, counts are what they should be. No statement of the seat is proved here. -/
import Derived.Test.YtkebpojbbfnehaaGreatEcto
import Derived.Test.YtkebpojbbfnehaaGreatEsi
namespace Go.Proofs.YtkebpojbbfnehaaGreat
open Go.RowKit
set_option linter.unusedVariables false
set_option linter.unusedSimpArgs false
structure TabI (acc : List (List UInt8 × Int)) (pre : List (List UInt8)) (n : Nat) : Prop where
  cnt : ∀ e ∈ acc, 1 ≤ e.2 ∧ e.2 ≤ (pre.count e.1 : Int)
  asc : acc.Pairwise fun a b => bLt a.1 b.1 = true
  len : acc.length ≤ n
theorem tabS_i : ∀ (xs : List (List UInt8)) (hd : List (List UInt8 × Int)) (p : List UInt8) (c : Int) (pre : List (List UInt8)) (n : Nat), TabI (hd ++ [(p, c)]) pre n → SortedW bLt (p :: xs) → TabI (tabS (hd ++ [(p, c)]) p xs) (pre ++ xs) (n + xs.length)
  | [], hd, p, c, pre, n, h, hs => by
    unfold tabS
    rw [List.append_nil]
    exact h
  | x :: xs, hd, p, c, pre, n, h, hs => by
    have hgt : gtD (hd ++ [(p, c)]) (((hd ++ [(p, c)]).length : Int) - 1) = (p, c) := by
      have : (hd ++ [(p, c)])[hd.length]? = some (p, c) := by simp
      rw [List.length_append, List.length_singleton, show ((hd.length + 1 : Nat) : Int) - 1 = ((hd.length : Nat) : Int) by omega, gtD_get this]
    have hset : ∀ y, (hd ++ [(p, c)]).set ((hd ++ [(p, c)]).length - 1) y = hd ++ [y] := fun y => by
      rw [List.length_append, List.length_singleton, Nat.add_sub_cancel, List.set_append_right _ _ (Nat.le_refl _), Nat.sub_self]
      rfl
    obtain ⟨h1, h2⟩ := List.pairwise_cons.1 hs
    obtain ⟨hc, ha, hl⟩ := h
    obtain ⟨a1, a2, a3⟩ := List.pairwise_append.1 ha
    have hp := hc (p, c) (by simp)
    unfold tabS
    rw [hset, hgt, show pre ++ x :: xs = (pre ++ [x]) ++ xs by simp, List.length_cons]
    have hmono : ∀ y, pre.count y ≤ (pre ++ [x]).count y := fun y => by rw [List.count_append]; omega
    rw [List.length_append, List.length_singleton] at hl
    cases he : p == x
    · have hne : p ≠ x := by simpa using he
      have hlt : bLt p x = true := by
        cases hb : bLt p x
        · exact absurd (bLt_tri hb (h1 x List.mem_cons_self)) hne
        · rfl
      rw [cond_false]
      have := tabS_i xs (hd ++ [(p, c)]) x 1 (pre ++ [x]) (n + 1) ⟨fun e hm => ?_, ?_, ?_⟩ h2
      · rwa [show n + 1 + xs.length = n + (xs.length + 1) by omega] at this
      · rcases List.mem_append.1 hm with hm | hm
        · have := hc e hm
          have := hmono e.1
          omega
        · rw [List.mem_singleton.1 hm]
          refine ⟨Int.le_refl _, ?_⟩
          show (1 : Int) ≤ ((pre ++ [x]).count x : Int)
          rw [List.count_append, List.count_singleton_self]
          omega
      · refine List.pairwise_append.2 ⟨ha, List.pairwise_singleton _ _, fun a hm b hb => ?_⟩
        rw [List.mem_singleton.1 hb]
        rcases List.mem_append.1 hm with hm | hm
        · exact bLt_trans (a3 a hm (p, c) (by simp)) hlt
        · rw [List.mem_singleton.1 hm]
          exact hlt
      · rw [List.length_append, List.length_append, List.length_singleton, List.length_singleton]
        omega
    · obtain rfl : p = x := by simpa using he
      rw [cond_true]
      have := tabS_i xs hd p (c + 1) (pre ++ [p]) (n + 1) ⟨fun e hm => ?_, ?_, ?_⟩ h2
      · rwa [show n + 1 + xs.length = n + (xs.length + 1) by omega] at this
      · rcases List.mem_append.1 hm with hm | hm
        · have := hc e (List.mem_append_left _ hm)
          have := hmono e.1
          omega
        · rw [List.mem_singleton.1 hm]
          have hp1 := hp.1
          have hp2 : c ≤ (pre.count p : Int) := hp.2
          refine ⟨by show 1 ≤ c + 1; omega, ?_⟩
          show c + 1 ≤ ((pre ++ [p]).count p : Int)
          rw [List.count_append, List.count_singleton_self]
          omega
      · refine List.pairwise_append.2 ⟨a1, List.pairwise_singleton _ _, fun a hm b hb => ?_⟩
        rw [List.mem_singleton.1 hb]
        exact a3 a hm (p, c) (by simp)
      · rw [List.length_append, List.length_singleton]
        omega
theorem tabL_i {s : List (List UInt8)} (hs : SortedW bLt s) : TabI (tabL s) s s.length := by
  cases s with
  | nil => exact ⟨fun e h => (by cases h), List.Pairwise.nil, Nat.le_refl _⟩
  | cons x xs =>
    have := tabS_i xs [] x 1 [x] 1 ⟨fun e hm => by
      rw [List.nil_append] at hm
      rw [List.mem_singleton.1 hm]
      exact ⟨Int.le_refl _, by show (1 : Int) ≤ (([x] : List (List UInt8)).count x : Int); rw [List.count_singleton_self]; exact Int.le_refl _⟩, List.pairwise_singleton _ _, Nat.le_refl _⟩ hs
    rw [List.nil_append] at this
    unfold tabL
    rwa [List.length_cons, Nat.add_comm]
theorem tab_ok {l : List (List UInt8 × Int)} {pre : List (List UInt8)} {n : Nat} (h : TabI l pre n) : tabB l = true := by
  unfold tabB
  have key : ∀ (l : List (List UInt8 × Int)) (p : List UInt8 × Int), (∀ e ∈ p :: l, 1 ≤ e.2) → (p :: l).Pairwise (fun a b => bLt a.1 b.1 = true) → adjB (fun p x => tabX x || !(bLt p.1 x.1)) p l = false := by
    intro l
    induction l with
    | nil => intro p _ _; rfl
    | cons x l ih =>
      intro p h1 h2
      obtain ⟨b1, b2⟩ := List.pairwise_cons.1 h2
      have hx := h1 x (List.mem_cons_of_mem _ List.mem_cons_self)
      unfold adjB tabX
      rw [b1 x List.mem_cons_self, decide_eq_false (by omega), Bool.not_true, Bool.or_false, Bool.false_or]
      exact ih x (fun e he => h1 e (List.mem_cons_of_mem _ he)) b2
  cases l with
  | nil => rfl
  | cons x l =>
    have hx := (h.cnt x List.mem_cons_self).1
    show (!(tabX x || adjB (fun p x => tabX x || !(bLt p.1 x.1)) x l)) = true
    rw [key l x (fun e he => (h.cnt e he).1) h.asc]
    unfold tabX
    rw [decide_eq_false (by omega)]
    rfl
theorem allL_count (y : List UInt8) : ∀ sets : List (List (List UInt8)), (allL sets).count y ≤ sets.length
  | [] => Nat.le_refl _
  | s :: sets => by
    have h1 := allL_count y sets
    have h2 : (setL s).count y ≤ 1 := List.nodup_iff_count.1 ((setL_sorted s).nodup sto_bLt) y
    unfold allL at h1 ⊢
    rw [List.flatMap_cons, List.count_append, List.length_cons]
    omega
def cntL (sets : List (List (List UInt8))) : List (List UInt8 × Int) := tabL ((allL sets).mergeSort fun x y => !(bLt y x))
theorem cntL_i (sets : List (List (List UInt8))) : TabI (cntL sets) ((allL sets).mergeSort fun x y => !(bLt y x)) (allL sets).length := by
  have := tabL_i (sort_sorted sto_bLt (allL sets))
  rwa [List.length_mergeSort] at this
theorem cntL_le {sets : List (List (List UInt8))} {e : List UInt8 × Int} (h : e ∈ cntL sets) : e.2 ≤ (sets.length : Int) := by
  have h1 := ((cntL_i sets).cnt e h).2
  rw [(List.mergeSort_perm (allL sets) _).count_eq] at h1
  have h2 := allL_count e.1 sets
  omega
end Go.Proofs.YtkebpojbbfnehaaGreat

