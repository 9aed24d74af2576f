/- More operations for printed proofs: parts of slices and strings, bits, comparisons of strings. No statement of the seat is proved here. -/
import Derived.Test.YtmgiijdejigdhaaDw
namespace Go.Proofs.Ytmgiijdejigdhaa
open Go.RowKit
set_option linter.unusedVariables false

def subR (lo hi : Int) (n : Nat) : Bool := decide (0 ≤ lo) && decide (lo ≤ hi) && decide (hi ≤ n)
def subL {α : Type} (xs : List α) (lo hi : Int) : List α := (xs.drop lo.toNat).take (hi.toNat - lo.toNat)
theorem subR_iff {lo hi : Int} {n : Nat} : subR lo hi n = true ↔ 0 ≤ lo ∧ lo ≤ hi ∧ hi ≤ n := by simp [subR, and_assoc]
theorem subL_length {α : Type} {xs : List α} {lo hi : Int} (h : subR lo hi xs.length = true) : (subL xs lo hi).length = hi.toNat - lo.toNat := by
  obtain ⟨h1, h2, h3⟩ := subR_iff.1 h
  unfold subL
  rw [List.length_take, List.length_drop]
  omega
theorem subL_get {α : Type} {xs : List α} {lo hi : Int} {i : Nat} {x : α} (h : (subL xs lo hi)[i]? = some x) : xs[lo.toNat + i]? = some x := by
  unfold subL at h
  rw [List.getElem?_take] at h
  split at h
  · rwa [List.getElem?_drop] at h
  · cases h

theorem sub_ne {m n c : Nat} {lo hi : Int} (h1 : 0 ≤ lo) (h3 : hi ≤ (m : Int)) (hl : m = n) (hnc : n ≤ c) (hn : 0 < hi.toNat - lo.toNat) : c ≠ lo.toNat := by omega
section
variable {α : Type} {E : Enc α} {P : Program} {R : Reg} {A : Av} {w : World} {d : Option Nat} {t T : TypeId} {p : String} {af : Array Edge} {g : Option (Nat × Bool)} {x : Operand} {xs : List α}
theorem sub_rep {ad : Option Addr} {n c : Nat} {lo hi : Int} (hl : xs.length = n) (hnc : n ≤ c) (hcm : c ≤ maxLen)
    (h4 : 0 < n → ∃ b off, ad = some ⟨b, off, none⟩ ∧ b < w.heap.size ∧ ∀ i x, xs[i]? = some x → QAt E A w b (off + i * E.size) x) (hr : subR lo hi xs.length = true) :
    Rep (eSl E) A w (.slice (if c = lo.toNat then ad else ad.map (·.add (lo.toNat * E.size))) (hi.toNat - lo.toNat) (c - lo.toNat)) (subL xs lo hi) := by
  obtain ⟨h1, h2, h3⟩ := subR_iff.1 hr
  refine ⟨_, rfl, _, _, _, rfl, subL_length hr, by omega, by omega, fun hn => ?_⟩
  obtain ⟨b, off, rfl, hb, hall⟩ := h4 (by omega)
  have hne : c ≠ lo.toNat := sub_ne h1 h3 hl hnc hn
  rw [if_neg hne]
  refine ⟨b, off + lo.toNat * E.size, by rw [Option.map_some, addr_add], hb, fun i y hy => ?_⟩
  have := hall _ y (subL_get hy)
  rwa [Nat.add_mul, ← Nat.add_assoc] at this
theorem of_slice_sl_lo {l : Operand} {lo : Int} {k : IntKind} {e : TypeId} (hx : Rep (eSl E) A w (evalR R x) xs) (hlo : evalR R l = .int k lo) (hu : P.underlying T = some (.slice e)) (hsz : ∀ w, (sizeOf e).run P w = .ok E.size w) (hr : subR lo xs.length xs.length = true) :
    OpF P ⟨d, .slice T x (some l) none none, t, p, af, g⟩ R w (.rep (eSl E) A (subL xs lo xs.length)) := by
  obtain ⟨cs, hv, ad, n, c, rfl, hl, hnc, hcm, h4⟩ := hx
  obtain ⟨h1, h2, h3⟩ := subR_iff.1 hr
  refine opr_val (w' := w) ?_ ⟨sub_rep hl hnc hcm h4 hr, Fr.refl _⟩
  have hv' : evalR R x = .slice ad n c := hv
  obtain ⟨m, rfl⟩ := Int.eq_ofNat_of_zero_le h1
  have b1 : m ≤ n := by omega
  simp [execOp, Instr.sliceAt, Instr.slice, Instr.sliceBounds, Instr.sliceBound, asIntOf, hv', hlo, underlying, hu, hsz, b1, hl, go_sem]
theorem of_slice_sl_hi {h : Operand} {hi : Int} {k' : IntKind} {e : TypeId} (hx : Rep (eSl E) A w (evalR R x) xs) (hhi : evalR R h = .int k' hi) (hu : P.underlying T = some (.slice e)) (hsz : ∀ w, (sizeOf e).run P w = .ok E.size w) (hr : subR 0 hi xs.length = true) :
    OpF P ⟨d, .slice T x none (some h) none, t, p, af, g⟩ R w (.rep (eSl E) A (subL xs 0 hi)) := by
  obtain ⟨cs, hv, ad, n, c, rfl, hl, hnc, hcm, h4⟩ := hx
  obtain ⟨h1, h2, h3⟩ := subR_iff.1 hr
  refine opr_val (w' := w) ?_ ⟨sub_rep hl hnc hcm h4 hr, Fr.refl _⟩
  have hv' : evalR R x = .slice ad n c := hv
  obtain ⟨q, rfl⟩ := Int.eq_ofNat_of_zero_le h2
  have b2 : q ≤ c := by omega
  simp [execOp, Instr.sliceAt, Instr.slice, Instr.sliceBounds, Instr.sliceBound, asIntOf, hv', hhi, underlying, hu, hsz, b2, go_sem]
end
end Go.Proofs.Ytmgiijdejigdhaa
