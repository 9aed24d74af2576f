/- More operations for printed proofs: parts of slices and strings, bits, comparisons of strings. No statement of the seat is proved here. -/
import Derived.Test.YtcodfkieaoomnaaDoorDw
namespace Go.Proofs.YtcodfkieaoomnaaDoor
open Go.RowKit
set_option linter.unusedVariables false

def subR (lo hi : Int) (n : Nat) : Bool := decide (0 ≤ lo) && decide (lo ≤ hi) && decide (hi ≤ n)
def subL {α : Type} (xs : List α) (lo hi : Int) : List α := (xs.drop lo.toNat).take (hi.toNat - lo.toNat)
theorem subR_iff {lo hi : Int} {n : Nat} : subR lo hi n = true ↔ 0 ≤ lo ∧ lo ≤ hi ∧ hi ≤ n := by simp [subR, and_assoc]
theorem subL_length {α : Type} {xs : List α} {lo hi : Int} (h : subR lo hi xs.length = true) : (subL xs lo hi).length = hi.toNat - lo.toNat := by
  obtain ⟨h1, h2, h3⟩ := subR_iff.1 h
  unfold subL
  rw [List.length_take, List.length_drop]
  omega
theorem subL_get {α : Type} {xs : List α} {lo hi : Int} {i : Nat} {x : α} (h : (subL xs lo hi)[i]? = some x) : xs[lo.toNat + i]? = some x := by
  unfold subL at h
  rw [List.getElem?_take] at h
  split at h
  · rwa [List.getElem?_drop] at h
  · cases h

theorem sub_ne {m n c : Nat} {lo hi : Int} (h1 : 0 ≤ lo) (h3 : hi ≤ (m : Int)) (hl : m = n) (hnc : n ≤ c) (hn : 0 < hi.toNat - lo.toNat) : c ≠ lo.toNat := by omega
section
variable {α : Type} {E : Enc α} {P : Program} {R : Reg} {A : Av} {w : World} {d : Option Nat} {t T : TypeId} {p : String} {af : Array Edge} {g : Option (Nat × Bool)} {x : Operand} {xs : List α}
theorem sub_rep {ad : Option Addr} {n c : Nat} {lo hi : Int} (hl : xs.length = n) (hnc : n ≤ c) (hcm : c ≤ maxLen)
    (h4 : 0 < n → ∃ b off, ad = some ⟨b, off, none⟩ ∧ b < w.heap.size ∧ ∀ i x, xs[i]? = some x → QAt E A w b (off + i * E.size) x) (hr : subR lo hi xs.length = true) :
    Rep (eSl E) A w (.slice (if c = lo.toNat then ad else ad.map (·.add (lo.toNat * E.size))) (hi.toNat - lo.toNat) (c - lo.toNat)) (subL xs lo hi) := by
  obtain ⟨h1, h2, h3⟩ := subR_iff.1 hr
  refine ⟨_, rfl, _, _, _, rfl, subL_length hr, by omega, by omega, fun hn => ?_⟩
  obtain ⟨b, off, rfl, hb, hall⟩ := h4 (by omega)
  have hne : c ≠ lo.toNat := sub_ne h1 h3 hl hnc hn
  rw [if_neg hne]
  refine ⟨b, off + lo.toNat * E.size, by rw [Option.map_some, addr_add], hb, fun i y hy => ?_⟩
  have := hall _ y (subL_get hy)
  rwa [Nat.add_mul, ← Nat.add_assoc] at this
theorem of_slice_sl {l h : Operand} {lo hi : Int} {k k' : IntKind} {e : TypeId} (hx : Rep (eSl E) A w (evalR R x) xs) (hlo : evalR R l = .int k lo) (hhi : evalR R h = .int k' hi) (hu : P.underlying T = some (.slice e)) (hsz : ∀ w, (sizeOf e).run P w = .ok E.size w) (hr : subR lo hi xs.length = true) :
    OpF P ⟨d, .slice T x (some l) (some h) none, t, p, af, g⟩ R w (.rep (eSl E) A (subL xs lo hi)) := by
  obtain ⟨cs, hv, ad, n, c, rfl, hl, hnc, hcm, h4⟩ := hx
  obtain ⟨h1, h2, h3⟩ := subR_iff.1 hr
  refine opr_val (w' := w) ?_ ⟨sub_rep hl hnc hcm h4 hr, Fr.refl _⟩
  have hv' : evalR R x = .slice ad n c := hv
  obtain ⟨q, rfl⟩ := Int.eq_ofNat_of_zero_le (Int.le_trans h1 h2)
  obtain ⟨m, rfl⟩ := Int.eq_ofNat_of_zero_le h1
  have b1 : m ≤ q := by omega
  have b2 : q ≤ c := by omega
  simp [execOp, Instr.sliceAt, Instr.slice, Instr.sliceBounds, Instr.sliceBound, asIntOf, hv', hlo, hhi, underlying, hu, hsz, b1, b2, go_sem]
theorem of_slice_sl_lo {l : Operand} {lo : Int} {k : IntKind} {e : TypeId} (hx : Rep (eSl E) A w (evalR R x) xs) (hlo : evalR R l = .int k lo) (hu : P.underlying T = some (.slice e)) (hsz : ∀ w, (sizeOf e).run P w = .ok E.size w) (hr : subR lo xs.length xs.length = true) :
    OpF P ⟨d, .slice T x (some l) none none, t, p, af, g⟩ R w (.rep (eSl E) A (subL xs lo xs.length)) := by
  obtain ⟨cs, hv, ad, n, c, rfl, hl, hnc, hcm, h4⟩ := hx
  obtain ⟨h1, h2, h3⟩ := subR_iff.1 hr
  refine opr_val (w' := w) ?_ ⟨sub_rep hl hnc hcm h4 hr, Fr.refl _⟩
  have hv' : evalR R x = .slice ad n c := hv
  obtain ⟨m, rfl⟩ := Int.eq_ofNat_of_zero_le h1
  have b1 : m ≤ n := by omega
  simp [execOp, Instr.sliceAt, Instr.slice, Instr.sliceBounds, Instr.sliceBound, asIntOf, hv', hlo, underlying, hu, hsz, b1, hl, go_sem]
theorem of_slice_sl_hi {h : Operand} {hi : Int} {k' : IntKind} {e : TypeId} (hx : Rep (eSl E) A w (evalR R x) xs) (hhi : evalR R h = .int k' hi) (hu : P.underlying T = some (.slice e)) (hsz : ∀ w, (sizeOf e).run P w = .ok E.size w) (hr : subR 0 hi xs.length = true) :
    OpF P ⟨d, .slice T x none (some h) none, t, p, af, g⟩ R w (.rep (eSl E) A (subL xs 0 hi)) := by
  obtain ⟨cs, hv, ad, n, c, rfl, hl, hnc, hcm, h4⟩ := hx
  obtain ⟨h1, h2, h3⟩ := subR_iff.1 hr
  refine opr_val (w' := w) ?_ ⟨sub_rep hl hnc hcm h4 hr, Fr.refl _⟩
  have hv' : evalR R x = .slice ad n c := hv
  obtain ⟨q, rfl⟩ := Int.eq_ofNat_of_zero_le h2
  have b2 : q ≤ c := by omega
  simp [execOp, Instr.sliceAt, Instr.slice, Instr.sliceBounds, Instr.sliceBound, asIntOf, hv', hhi, underlying, hu, hsz, b2, go_sem]
theorem of_slice_sl_all {e : TypeId} (hx : Rep (eSl E) A w (evalR R x) xs) (hu : P.underlying T = some (.slice e)) (hsz : ∀ w, (sizeOf e).run P w = .ok E.size w) (hr : subR 0 xs.length xs.length = true) :
    OpF P ⟨d, .slice T x none none none, t, p, af, g⟩ R w (.rep (eSl E) A (subL xs 0 xs.length)) := by
  obtain ⟨cs, hv, ad, n, c, rfl, hl, hnc, hcm, h4⟩ := hx
  refine opr_val (w' := w) ?_ ⟨sub_rep hl hnc hcm h4 hr, Fr.refl _⟩
  have hv' : evalR R x = .slice ad n c := hv
  simp [execOp, Instr.sliceAt, Instr.slice, Instr.sliceBounds, hv', underlying, hu, hsz, hl, go_sem]
theorem sub_str {s : ByteArray} {lo hi : Int} (hm : s.size ≤ maxLen) (hr : subR lo hi s.data.toList.length = true) : Rep eStr A w (.string (s.extract lo.toNat hi.toNat)) (subL s.data.toList lo hi) := by
  refine ⟨_, rfl, _, rfl, ?_, ?_⟩
  · rw [ByteArray.data_extract, Array.toList_extract]
    unfold subL
    rw [List.extract_eq_take_drop]
  · rw [ByteArray.size_extract]
    omega
theorem of_slice_str {s : List UInt8} {l h : Operand} {lo hi : Int} {k k' : IntKind} (hx : Rep eStr A w (evalR R x) s) (hlo : evalR R l = .int k lo) (hhi : evalR R h = .int k' hi) (hu : P.underlying T = some .string) (hr : subR lo hi s.length = true) :
    OpF P ⟨d, .slice T x (some l) (some h) none, t, p, af, g⟩ R w (.rep eStr A (subL s lo hi)) := by
  obtain ⟨cs, hv, sb, rfl, rfl, hm⟩ := hx
  obtain ⟨h1, h2, h3⟩ := subR_iff.1 hr
  refine opr_val (w' := w) ?_ ⟨sub_str hm hr, Fr.refl _⟩
  have hv' : evalR R x = .string sb := hv
  have hs : sb.data.toList.length = sb.size := Array.length_toList
  obtain ⟨q, rfl⟩ := Int.eq_ofNat_of_zero_le (Int.le_trans h1 h2)
  obtain ⟨m, rfl⟩ := Int.eq_ofNat_of_zero_le h1
  have b1 : m ≤ q := by omega
  have b2 : q ≤ sb.size := by omega
  simp [execOp, Instr.sliceAt, Instr.slice, Instr.sliceBounds, Instr.sliceBound, asIntOf, hv', hlo, hhi, underlying, hu, b1, b2, go_sem]
theorem of_slice_str_lo {s : List UInt8} {l : Operand} {lo : Int} {k : IntKind} (hx : Rep eStr A w (evalR R x) s) (hlo : evalR R l = .int k lo) (hu : P.underlying T = some .string) (hr : subR lo s.length s.length = true) :
    OpF P ⟨d, .slice T x (some l) none none, t, p, af, g⟩ R w (.rep eStr A (subL s lo s.length)) := by
  obtain ⟨cs, hv, sb, rfl, rfl, hm⟩ := hx
  obtain ⟨h1, h2, h3⟩ := subR_iff.1 hr
  refine opr_val (w' := w) ?_ ⟨sub_str hm hr, Fr.refl _⟩
  have hv' : evalR R x = .string sb := hv
  have hs : sb.data.toList.length = sb.size := Array.length_toList
  obtain ⟨m, rfl⟩ := Int.eq_ofNat_of_zero_le h1
  have b1 : m ≤ sb.size := by omega
  simp [execOp, Instr.sliceAt, Instr.slice, Instr.sliceBounds, Instr.sliceBound, asIntOf, hv', hlo, underlying, hu, b1, hs, go_sem]
theorem of_slice_str_hi {s : List UInt8} {h : Operand} {hi : Int} {k' : IntKind} (hx : Rep eStr A w (evalR R x) s) (hhi : evalR R h = .int k' hi) (hu : P.underlying T = some .string) (hr : subR 0 hi s.length = true) :
    OpF P ⟨d, .slice T x none (some h) none, t, p, af, g⟩ R w (.rep eStr A (subL s 0 hi)) := by
  obtain ⟨cs, hv, sb, rfl, rfl, hm⟩ := hx
  obtain ⟨h1, h2, h3⟩ := subR_iff.1 hr
  refine opr_val (w' := w) ?_ ⟨sub_str hm hr, Fr.refl _⟩
  have hv' : evalR R x = .string sb := hv
  have hs : sb.data.toList.length = sb.size := Array.length_toList
  obtain ⟨q, rfl⟩ := Int.eq_ofNat_of_zero_le h2
  have b2 : q ≤ sb.size := by omega
  simp [execOp, Instr.sliceAt, Instr.slice, Instr.sliceBounds, Instr.sliceBound, asIntOf, hv', hhi, underlying, hu, b2, go_sem]
end
end Go.Proofs.YtcodfkieaoomnaaDoor
