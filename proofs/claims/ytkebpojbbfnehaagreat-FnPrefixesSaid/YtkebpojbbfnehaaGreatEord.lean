/- Plain: what the law FnOrders asks. No statement of the seat is proved here. -/
import Derived.Test.YtkebpojbbfnehaaGreatEord1
import Derived.Test.YtkebpojbbfnehaaGreatEtf
import Derived.Test.YtkebpojbbfnehaaGreatEdrw
namespace Go.Proofs.YtkebpojbbfnehaaGreat
open Go.RowKit
set_option linter.unusedVariables false
set_option linter.unusedSimpArgs false
theorem putS_le (l : List (List UInt8)) (x : List UInt8) : (putS bLt l x).length ≤ l.length + 1 := by
  unfold putS
  cases l[plc bLt x l]? == some x
  · rw [cond_false, show (putW bLt l x).length = l.length + 1 from insAt_length _ _ _]
    exact Nat.le_refl _
  · rw [cond_true]
    omega
theorem set_t {fu : Nat} {c : TCur} (hf : 1048577 ≤ fu) (hc : COK c) : Sm (M_spec_l3Set fu c) fun r => COK r.2 ∧ r.1.length ≤ 10 := by
  unfold M_spec_l3Set
  refine .cl (below_t hc) fun n hn => ?_
  have h1 := hn.2.1
  have h2 := hn.2.2 (by omega)
  have key : ∀ (m : Nat) k (cc : TCur) (acc : List (List UInt8)), m < k → m ≤ 50 → COK cc → acc.length + m ≤ 10 → Sm (M_spec_l3Set_L0 fu k (m : Int) cc acc) fun r => COK r.1 ∧ r.2.length ≤ 10 := by
    intro m
    induction m with
    | zero =>
      intro k cc acc hk hm hcc ha
      obtain ⟨k, rfl⟩ : ∃ q, k = q + 1 := ⟨k - 1, by omega⟩
      rw [M_spec_l3Set_L0, show decide ((0 : Int) < ((0 : Nat) : Int)) = false from rfl, cond_false]
      exact .some ⟨hcc, by show acc.length ≤ 10; omega⟩
    | succ m ih =>
      intro k cc acc hk hm hcc ha
      obtain ⟨k, rfl⟩ : ∃ q, k = q + 1 := ⟨k - 1, by omega⟩
      rw [M_spec_l3Set_L0, pos_i, cond_true, pred_i]
      refine .cl (pickL 10 hcc (by decide) (by decide)) fun p hp => ?_
      rw [put_t (by omega) (by omega), cl_true, cond_false]
      have := putS_le acc p.1
      exact .ck (i64B_i _ (by omega)) (ih k p.2 _ (by omega) (by omega) hp.1 (by omega))
  obtain ⟨m, hm⟩ : ∃ m : Nat, n.1 = (m : Int) := ⟨n.1.toNat, by omega⟩
  rw [hm]
  exact .cl (key m fu n.2 [] (by omega) (by omega) hn.1 (by rw [List.length_nil]; omega)) fun s hs => .some ⟨hs.1, hs.2⟩
theorem any_t {fu : Nat} {c : TCur} (hf : 1048577 ≤ fu) (hc : COK c) : Sm (M_spec_l3Any fu c) fun r => COK r.2 ∧ r.1.length ≤ 11 := by
  unfold M_spec_l3Any
  refine .cl (set_t hf hc) fun s hs => .cl (once_t hs.1) fun o ho => .bif (fun _ => ?_) fun _ => .some ⟨ho, by have := hs.2; show s.1.length ≤ 11; omega⟩
  refine .cl (pickL 10 ho (by decide) (by decide)) fun p hp => ?_
  have h2 := hs.2
  exact .ck (lenOK_t (by rw [List.length_singleton]; omega)) (.some ⟨hp.1, by show (s.1 ++ [p.1]).length ≤ 11; rw [List.length_append, List.length_singleton]; omega⟩)
def SetsOK (l : List (List (List UInt8))) : Prop := l.length ≤ 20 ∧ ∀ s ∈ l, s.length ≤ 10
theorem sets_t {fu : Nat} {c : TCur} (hf : 1048577 ≤ fu) (hc : COK c) : Sm (M_spec_l11Sets fu c) fun r => COK r.2 ∧ r.1.length ≤ 10 ∧ ∀ s ∈ r.1, s.length ≤ 10 := by
  unfold M_spec_l11Sets
  refine .cl (below_t hc) fun n hn => ?_
  have h1 := hn.2.1
  have h2 := hn.2.2 (by omega)
  have key : ∀ (m : Nat) k (cc : TCur) (acc : List (List (List UInt8))), m < k → m ≤ 50 → COK cc → acc.length + m ≤ 10 → (∀ s ∈ acc, s.length ≤ 10) → Sm (M_spec_l11Sets_L0 fu k (m : Int) cc acc) fun r => COK r.1 ∧ r.2.length ≤ 10 ∧ ∀ s ∈ r.2, s.length ≤ 10 := by
    intro m
    induction m with
    | zero =>
      intro k cc acc hk hm hcc ha he
      obtain ⟨k, rfl⟩ : ∃ q, k = q + 1 := ⟨k - 1, by omega⟩
      rw [M_spec_l11Sets_L0, show decide ((0 : Int) < ((0 : Nat) : Int)) = false from rfl, cond_false]
      exact .some ⟨hcc, by show acc.length ≤ 10; omega, he⟩
    | succ m ih =>
      intro k cc acc hk hm hcc ha he
      obtain ⟨k, rfl⟩ : ∃ q, k = q + 1 := ⟨k - 1, by omega⟩
      rw [M_spec_l11Sets_L0, pos_i, cond_true, pred_i]
      refine .cl (set_t hf hcc) fun p hp => ?_
      exact .ck (lenOK_t (by rw [List.length_singleton]; omega)) (.ck (i64B_i _ (by omega)) (ih k p.2 _ (by omega) (by omega) hp.1 (by rw [List.length_append, List.length_singleton]; omega) fun s hs => by
        rcases List.mem_append.1 hs with hs | hs
        · exact he s hs
        · rw [List.mem_singleton.1 hs]; exact hp.2))
  obtain ⟨m, hm⟩ : ∃ m : Nat, n.1 = (m : Int) := ⟨n.1.toNat, by omega⟩
  rw [hm]
  exact .cl (key m fu n.2 [] (by omega) (by omega) hn.1 (by rw [List.length_nil]; omega) (fun s h => (by cases h))) fun s hs => .some ⟨hs.1, hs.2⟩
theorem sum_len : ∀ {l : List (List (List UInt8))}, (∀ s ∈ l, s.length ≤ 10) → (l.map fun s => s.length).sum ≤ 10 * l.length
  | [], _ => Nat.le_refl _
  | s :: l, h => by
    have h1 := sum_len (l := l) fun x hx => h x (List.mem_cons_of_mem _ hx)
    have h2 := h s List.mem_cons_self
    rw [List.map_cons, List.sum_cons, List.length_cons]
    omega
theorem countsS2 {fu : Nat} {l : List (List (List UInt8))} (hf : 1048577 ≤ fu) (h : l.length ≤ 11) (he : ∀ s ∈ l, s.length ≤ 10) : M_spec_CountTokens fu l = some (cntL l) ∧ (cntL l).length ≤ 110 := by
  have h1 := sum_len he
  have h2 := countsS_t (fu := fu) (a0 := l) hf (by omega) (fun s hs => Nat.le_trans (he s hs) (by omega)) (by omega)
  have h3 := flat_le (n := 110) (sets := l) (by omega)
  exact ⟨h2, Nat.le_trans (cntL_i l).len h3⟩
theorem table_t {fu : Nat} {c : TCur} (hf : 1048577 ≤ fu) (hc : COK c) : Sm (M_spec_l11Table fu c) fun r => COK r.2 ∧ r.1.length ≤ 111 := by
  unfold M_spec_l11Table
  refine .cl (sets_t hf hc) fun s hs => ?_
  obtain ⟨h1, h3⟩ := countsS2 (fu := fu) hf (show s.1.length ≤ 11 by have := hs.2.1; omega) hs.2.2
  rw [h1, cl_true]
  refine .cl (once_t hs.1) fun o ho => .bif (fun _ => .cl (below_t ho) fun n hn => ?_) fun _ => .some ⟨ho, by show (cntL s.1).length ≤ 111; omega⟩
  exact .ck (lenOK_t (by rw [List.length_singleton]; omega)) (.some ⟨hn.1, by show (cntL s.1 ++ [(([97] : List UInt8), n.1)]).length ≤ 111; rw [List.length_append, List.length_singleton]; omega⟩)
theorem eqTok_t {fu : Nat} {l : List (List UInt8)} (hf : 1048577 ≤ fu) (hl : l.length ≤ 1048576) : M_spec_EqualTokens fu l l = some true := by
  unfold M_spec_EqualTokens
  rw [bne_self_eq_false, cond_false]
  have h := loop_any (xs := l) (p := fun _ => false) (r := false) (L := M_spec_EqualTokens_L0 fu l l) (fun k i x hx => by
    have hi := at_lt hx
    rw [M_spec_EqualTokens_L0, lt_t hi, cond_true, ck_t (inR_t hi), ck_t (inR_t hi), beq_self_eq_true, Bool.not_true, cond_false, ck_t (i64B_n (by omega)), succ_i, cond_false]) (fun k => by rw [M_spec_EqualTokens_L0, lt_f, cond_false]) (show l.length < fu by omega)
  rw [h, cl_true]
  have : (l.any fun _ => false) = false := by
    rw [List.any_eq_false]
    intro x _ h
    cases h
  rw [this]
  rfl
end Go.Proofs.YtkebpojbbfnehaaGreat

