/- Plain: the variables of rules, program and reference alike. No statement of the seat is proved here. -/
import Derived.Test.YtmkgocdgkdglnaaAtf
import Derived.Test.YtmkgocdgkdglnaaArs
namespace Go.Proofs.Ytmkgocdgkdglnaa
open Go.RowKit
set_option linter.unusedVariables false
set_option linter.unusedSimpArgs false

/-! the program -/
theorem foldl_flat {α : Type} : ∀ (r : List (List α)) (a : List α), r.foldl (fun acc l => acc ++ l) a = a ++ r.flatten
  | [], a => by simp
  | l :: r, a => by rw [List.foldl_cons, foldl_flat r, List.flatten_cons, List.append_assoc]
theorem flat_len {α : Type} {n : Nat} : ∀ {r : List (List α)}, (∀ l ∈ r, l.length ≤ n) → r.flatten.length ≤ n * r.length
  | [], _ => by simp
  | l :: r, h => by
    have h1 := h l (List.mem_cons_self ..)
    have h2 := flat_len (r := r) fun l hl => h l (List.mem_cons_of_mem _ hl)
    rw [List.flatten_cons, List.length_append, List.length_cons, Nat.mul_add]
    omega
theorem all_t {fu : Nat} {r : List (List TTst)} (hf : 1048577 ≤ fu) (hn : r.length ≤ 3) (hl : ∀ l ∈ r, l.length ≤ 3) : M_impl_allTests fu r = some r.flatten := by
  unfold M_impl_allTests
  have h := loop_fold (xs := r) (g := fun (acc : List TTst) l => acc ++ l) (Inv := fun i acc => acc.length ≤ 3 * i) (L := M_impl_allTests_L0 fu r) (fun k i acc l hl' hacc => by
    have hi := at_lt hl'
    have := hl l (at_mem hl')
    rw [M_impl_allTests_L0, lt_t hi, cond_true]
    simp only [inR_t hi, gtD_get hl', ck_tt, lenOK_t (show acc.length + l.length ≤ 4294967296 by omega), i64B_c (show i ≤ 4294967296 by omega), succ_i]) (fun i acc l hl' hacc => by
    have := hl l (at_mem hl')
    rw [List.length_append]
    omega) (fun k acc hacc => by rw [M_impl_allTests_L0, lt_f]; rfl) (a := []) (Nat.zero_le _) (show r.length < fu by omega)
  rw [h.1, cl_true, foldl_flat, List.nil_append]
theorem loop_st {σ : Type} {st : Nat → σ} {n : Nat} {L : Nat → Int → σ → Option σ} (hs : ∀ k i, i < n → L (k + 1) (i : Int) (st i) = L k ((i + 1 : Nat) : Int) (st (i + 1))) (he : ∀ k, L (k + 1) (n : Int) (st n) = some (st n)) {fu : Nat} (hf : n < fu) :
    L fu (0 : Int) (st 0) = some (st n) := by
  have key : ∀ m i k, i + m = n → m < k → L k ((i : Nat) : Int) (st i) = some (st n) := by
    intro m
    induction m with
    | zero =>
      intro i k hi hk
      obtain ⟨k, rfl⟩ : ∃ q, k = q + 1 := ⟨k - 1, by omega⟩
      obtain rfl : i = n := by omega
      exact he k
    | succ m ih =>
      intro i k hi hk
      obtain ⟨k, rfl⟩ : ∃ q, k = q + 1 := ⟨k - 1, by omega⟩
      rw [hs k i (by omega)]
      exact ih (i + 1) k (by omega) (by omega)
  exact key n 0 fu (by omega) hf
end Go.Proofs.Ytmkgocdgkdglnaa
