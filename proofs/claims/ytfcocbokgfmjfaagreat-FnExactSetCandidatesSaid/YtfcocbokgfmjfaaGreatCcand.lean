/- Plain: what the law SetCandidates asks. No statement of the seat is proved here. -/
import Derived.Test.YtfcocbokgfmjfaaGreatCtf
import Derived.Test.YtfcocbokgfmjfaaGreatCsi
import Derived.Test.YtfcocbokgfmjfaaGreatCh
namespace Go.Proofs.YtfcocbokgfmjfaaGreat
open Go.RowKit
set_option linter.unusedVariables false
set_option linter.unusedSimpArgs false

theorem w_len {α : Type} {f : α → Nat} {xs : List α} (h : wL f xs ≤ 1048576) : xs.length ≤ 1048576 ∧ ∀ x ∈ xs, f x ≤ 1048576 := by
  unfold wL at h
  exact ⟨by omega, fun x hx => Nat.le_trans (sz_mem hx) (by omega)⟩
theorem wL_zero {α : Type} {f : α → Nat} (h : ∀ x, f x = 0) (xs : List α) : wL f xs = xs.length := by
  unfold wL
  have : (xs.map f).sum = 0 := by
    induction xs with
    | nil => rfl
    | cons x xs ih => simp [h, ih]
  omega
abbrev TIdx := Int × List (List UInt8 × Int) × List (Int × List (List UInt8))
theorem idx_ok {x : TIdx} (h : w_SetIndex x ≤ 1048576) : IdxOK x := by
  unfold w_SetIndex w_TokenCountS w_IndexedSetS at h
  have k1 := w_len (xs := x.2.1) (f := w_TokenCount) (by omega)
  have k2 := w_len (xs := x.2.2) (f := w_IndexedSet) (by omega)
  refine ⟨k1.1, k2.1, fun s hs => ?_⟩
  have := k2.2 s hs
  unfold w_IndexedSet w_StringS at this
  have k3 := w_len (xs := s.2) (f := fun s => s.length) this
  exact k3
theorem foldl_app {α β : Type} {p : α → Bool} {f : α → β} : ∀ (xs : List α) (a : List β), xs.foldl (fun acc s => bif p s then acc ++ [f s] else acc) a = a ++ (xs.filter p).map f
  | [], a => by simp
  | x :: xs, a => by
    rw [List.foldl_cons, foldl_app xs, List.filter_cons]
    cases p x <;> simp
theorem size_t {fu : Nat} {n : Int} : M_impl_isSize fu n = some (inI n 0 1000) := rfl
theorem within_t {fu : Nat} {x lo hi : Int} : M_impl_within fu x lo hi = some (inI x lo hi) := rfl
theorem com_pos (a b : List (List UInt8)) : decide ((0 : Int) < ((comB a b).length : Int)) = a.any fun x => b.any fun y => y == x := by
  rw [Bool.eq_iff_iff, decide_eq_true_iff, List.any_eq_true]
  constructor
  · intro h
    obtain ⟨x, hx⟩ := List.exists_mem_of_length_pos (l := comB a b) (by omega)
    exact ⟨x, setL_mem.1 (List.mem_filter.1 hx).1, (List.mem_filter.1 hx).2⟩
  · rintro ⟨x, hx, hy⟩
    have : 0 < (comB a b).length := List.length_pos_of_mem (List.mem_filter.2 ⟨setL_mem.2 hx, hy⟩ : x ∈ comB a b)
    omega
theorem any_comm (a b : List (List UInt8)) : (a.any fun x => b.any fun y => y == x) = (b.any fun x => a.any fun y => y == x) := by
  rw [Bool.eq_iff_iff]
  simp only [List.any_eq_true, beq_iff_eq]
  constructor
  · rintro ⟨x, hx, y, hy, rfl⟩
    exact ⟨y, hy, y, hx, rfl⟩
  · rintro ⟨x, hx, y, hy, rfl⟩
    exact ⟨y, hy, y, hx, rfl⟩
theorem share_comm (tb : List (List UInt8 × Int)) (a b : List (List UInt8)) (t : Int) : shareB tb a b t = shareB tb b a t := by
  unfold shareB
  rw [com_pos, com_pos, any_comm]
def bnds (n t : Int) : Int × Int := bif goodLT n t then (lowB n t, highB n t) else (-1, -1)
def candB (x : TIdx) (q : List (List UInt8)) (s : Int × List (List UInt8)) : Bool :=
  ((q.length : Int) == 0 && (s.2.length : Int) == 0) || (inI (s.2.length : Int) (bnds q.length x.1).1 (bnds q.length x.1).2 && shareB x.2.1 s.2 q x.1)
def candL (x : TIdx) (q : List (List UInt8)) : List Int := bif (idxB x && tokB q) && inI q.length 0 1000 then (x.2.2.filter (candB x q)).map fun s => s.1 else []
theorem implCand_t {fu : Nat} {x : TIdx} {q : List (List UInt8)} (hf : 1048577 ≤ fu) (hx : IdxOK x) (hq : q.length ≤ 1048576) (heq : ∀ t ∈ q, t.length ≤ 1048576) : M_impl_SetCandidates fu x q = some (candL x q) := by
  obtain ⟨hx1, hx2, hx3⟩ := hx
  have h := loop_fold (xs := x.2.2) (g := fun (acc : List Int) s => bif candB x q s then acc ++ [s.1] else acc) (Inv := fun i acc => acc.length ≤ i) (L := M_impl_SetCandidates_L0 fu x q (bnds q.length x.1)) (fun k i acc s hs hacc => by
      have hi := at_lt hs
      have hm := implShare_t (fu := fu) (t := x.1) (tb := x.2.1) hf hx1 (hx3 s (at_mem hs)).1 (hx3 s (at_mem hs)).2 hq heq
      rw [M_impl_SetCandidates_L0, lt_t hi, cond_true]
      simp only [inR_t hi, gtD_get hs, ck_tt, hm, within_t, cl_if, bd_eq, List.length_singleton, lenOK_t (show acc.length + 1 ≤ 4294967296 by omega), i64B_c (show i ≤ 4294967296 by omega), succ_i, candB]
      generalize ((q.length : Int) == 0 && (s.2.length : Int) == 0) = e1
      generalize inI (s.2.length : Int) (bnds q.length x.1).1 (bnds q.length x.1).2 = e2
      generalize shareB x.2.1 s.2 q x.1 = e3
      cases e1 <;> cases e2 <;> cases e3 <;> rfl) (fun i acc s hs hacc => by
      show (bif candB x q s then acc ++ [s.1] else acc).length ≤ i + 1
      cases candB x q s
      · exact Nat.le_succ_of_le hacc
      · rw [cond_true, List.length_append]; exact Nat.succ_le_succ hacc) (fun k acc hacc => by rw [M_impl_SetCandidates_L0, lt_f]; rfl) (a := []) (Nat.zero_le _) (show x.2.2.length < fu by omega)
  unfold M_impl_SetCandidates candL
  rw [implIdx_t hf ⟨hx1, hx2, hx3⟩, impl_tok hf hq heq, size_t, implBounds_t]
  simp only [cl_if, bd_eq]
  rw [show (bif goodLT (q.length : Int) x.1 then (lowB (q.length : Int) x.1, highB (q.length : Int) x.1) else (-1, -1)) = bnds q.length x.1 from rfl]
  cases idxB x
  · rfl
  cases tokB q
  · rfl
  cases inI (q.length : Int) 0 1000
  · rfl
  simp only [Bool.not_true, Bool.and_self, Bool.or_self, cond_true, cond_false, show (false == false) = true from rfl]
  rw [h.1, cl_true, foldl_app]
  rfl
theorem specCand_t {fu : Nat} {x : TIdx} {q : List (List UInt8)} (hf : 1048577 ≤ fu) (hx : IdxOK x) (hq : q.length ≤ 1048576) (heq : ∀ t ∈ q, t.length ≤ 1048576) : M_spec_SetCandidates fu x q = some (candL x q) := by
  obtain ⟨hx1, hx2, hx3⟩ := hx
  have h := loop_fold (xs := x.2.2) (g := fun (acc : List Int) s => bif candB x q s then acc ++ [s.1] else acc) (Inv := fun i acc => acc.length ≤ i) (L := M_spec_SetCandidates_L0 fu x q (bnds q.length x.1)) (fun k i acc s hs hacc => by
      have hi := at_lt hs
      have hm := specShare_t (fu := fu) (t := x.1) (tb := x.2.1) hf hx1 hq heq (hx3 s (at_mem hs)).1 (hx3 s (at_mem hs)).2
      rw [M_spec_SetCandidates_L0, lt_t hi, cond_true]
      simp only [inR_t hi, gtD_get hs, ck_tt, hm, l1In_t, cl_if, bd_eq, List.length_singleton, lenOK_t (show acc.length + 1 ≤ 4294967296 by omega), i64B_c (show i ≤ 4294967296 by omega), succ_i, candB]
      rw [share_comm x.2.1 q s.2 x.1, Bool.and_comm ((q.length : Int) == 0)]
      generalize ((s.2.length : Int) == 0 && (q.length : Int) == 0) = e1
      generalize inI (s.2.length : Int) (bnds q.length x.1).1 (bnds q.length x.1).2 = e2
      generalize shareB x.2.1 s.2 q x.1 = e3
      cases e1 <;> cases e2 <;> cases e3 <;> rfl) (fun i acc s hs hacc => by
      show (bif candB x q s then acc ++ [s.1] else acc).length ≤ i + 1
      cases candB x q s
      · exact Nat.le_succ_of_le hacc
      · rw [cond_true, List.length_append]; exact Nat.succ_le_succ hacc) (fun k acc hacc => by rw [M_spec_SetCandidates_L0, lt_f]; rfl) (a := []) (Nat.zero_le _) (show x.2.2.length < fu by omega)
  have hd : decide ((1000 : Int) < (q.length : Int)) = !(inI (q.length : Int) 0 1000) := by
    unfold inI
    rw [decide_eq_true (show (0 : Int) ≤ (q.length : Int) by omega), Bool.true_and]
    by_cases e : (q.length : Int) ≤ 1000
    · rw [decide_eq_true e, decide_eq_false (by omega)]; rfl
    · rw [decide_eq_false e, decide_eq_true (by omega)]; rfl
  unfold M_spec_SetCandidates candL
  rw [specIdx_t hf ⟨hx1, hx2, hx3⟩, spec_tok hf hq heq, specBounds_t, hd]
  simp only [cl_if, bd_eq]
  rw [show (bif goodLT (q.length : Int) x.1 then (lowB (q.length : Int) x.1, highB (q.length : Int) x.1) else (-1, -1)) = bnds q.length x.1 from rfl]
  cases idxB x
  · rfl
  cases tokB q
  · rfl
  cases inI (q.length : Int) 0 1000
  · rfl
  simp only [Bool.not_true, Bool.and_self, Bool.or_self, cond_true, cond_false, show (false == false) = true from rfl]
  rw [h.1, cl_true, foldl_app]
  rfl
theorem hs_SetCandidates {a0 : TIdx} {a1 : List (List UInt8)} (h0 : (qP qI (qP (qS (qP qB qI)) (qS (qP qI (qS qB))))) a0) (h1 : (qS qB) a1) (hw : w_SetIndex a0 + w_StringS a1 ≤ 1048576) : ∃ r : List Int, M_spec_SetCandidates 1048577 a0 a1 = some r ∧ M_impl_SetCandidates 1048577 a0 a1 = some r ∧ w_IntS r ≤ 1048576 := by
  have hx := idx_ok (x := a0) (by omega)
  have k1 := w_len (xs := a1) (f := fun s => s.length) (by unfold w_StringS at hw; omega)
  refine ⟨_, specCand_t (Nat.le_refl _) hx k1.1 k1.2, implCand_t (Nat.le_refl _) hx k1.1 k1.2, ?_⟩
  unfold w_IntS
  rw [wL_zero fun _ => rfl]
  unfold candL
  cases ((idxB a0 && tokB a1) && inI a1.length 0 1000)
  · exact Nat.zero_le _
  · rw [cond_true, List.length_map]
    exact Nat.le_trans (List.length_filter_le _ _) hx.2.1
end Go.Proofs.YtfcocbokgfmjfaaGreat

