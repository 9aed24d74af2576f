/- Own texts laid together. No statement of the seat is proved here. -/
import Derived.Test.YtmkgocdgkdglnaaZx1
import Derived.Laws.BytesArg
import Derived.Laws.Strings
import Derived.Test.YtmkgocdgkdglnaaProg
import Derived.Shelf.Slices.In.SortNone
import Derived.Shelf.SlSortCmp.NoneTotal
import Derived.Shelf.Small.Strs
import Derived.Shelf.Sort.Plain
import Derived.Ground.NamesProg
import Derived.Ground.SlsfProg
import Derived.Maps.Own
import Derived.Maps.Views
import Derived.Carry
import Derived.Lib.ItoaNum
import Derived.Lib.AtoiAll
import Derived.Lib.Split
import Derived.Lib.Join
/- More operations for printed proofs: strings, numbers of other kinds, conversions, parts of a row of our own, calls that write a row. No statement of the seat is proved here. -/
namespace Go.Proofs.Ytmkgocdgkdglnaa
open Go.RowKit
set_option linter.unusedVariables false

section
variable {P : Program} {R : Reg} {w : World} {d : Option Nat} {t : TypeId} {p : String} {af : Array Edge} {g : Option (Nat × Bool)} {A : Av} {α β : Type} {x y : Operand} {T T' : TypeId}
/-! ### numbers of whatever kind -/
section ints
variable {k k' : IntKind} {a b c e : Int}
theorem of_add_w (hx : evalR R x = .int k a) (hy : evalR R y = .int k b) : OpF P ⟨d, .binOp .add T x y T', t, p, af, g⟩ R w (.raw (.int k (k.wrap (a + b)))) :=
  opr_val (w' := w) (by simp [execOp, hx, hy, go_sem]) ⟨rfl, Fr.refl _⟩
theorem of_sub_w (hx : evalR R x = .int k a) (hy : evalR R y = .int k b) : OpF P ⟨d, .binOp .sub T x y T', t, p, af, g⟩ R w (.raw (.int k (k.wrap (a - b)))) :=
  opr_val (w' := w) (by simp [execOp, hx, hy, go_sem]) ⟨rfl, Fr.refl _⟩
theorem of_mul_w (hx : evalR R x = .int k a) (hy : evalR R y = .int k b) : OpF P ⟨d, .binOp .mul T x y T', t, p, af, g⟩ R w (.raw (.int k (k.wrap (a * b)))) :=
  opr_val (w' := w) (by simp [execOp, hx, hy, go_sem]) ⟨rfl, Fr.refl _⟩
/-- & | ^ on numbers -/
def bitI (f : {n : Nat} → BitVec n → BitVec n → BitVec n) (k : IntKind) (a b : Int) : Int := k.wrap (f (BitVec.ofInt k.bits a) (BitVec.ofInt k.bits b)).toNat
theorem of_and (hx : evalR R x = .int k a) (hy : evalR R y = .int k b) : OpF P ⟨d, .binOp .and T x y T', t, p, af, g⟩ R w (.raw (.int k (bitI (fun u v => u &&& v) k a b))) :=
  opr_val (w' := w) (by simp [execOp, hx, hy, go_sem, bitI]; rfl) ⟨rfl, Fr.refl _⟩
theorem of_xor (hx : evalR R x = .int k a) (hy : evalR R y = .int k b) : OpF P ⟨d, .binOp .xor T x y T', t, p, af, g⟩ R w (.raw (.int k (bitI (fun u v => u ^^^ v) k a b))) :=
  opr_val (w' := w) (by simp [execOp, hx, hy, go_sem, bitI]; rfl) ⟨rfl, Fr.refl _⟩
end ints
/-! ### strings -/
theorem rep_sl_val {E : Enc α} {A : Av} {w : World} {v : Value} {x : List α} (h : Rep (eSl E) A w v x) : ∃ a n c, v = .slice a n c ∧ (eSl E).rep A w x [.slice a n c] := by
  obtain ⟨cs, hv, a, n, c, rfl, h1⟩ := h
  exact ⟨a, n, c, hv, a, n, c, rfl, h1⟩
section strs
variable {a b : List UInt8}
theorem str_two (hx : Rep eStr A w (evalR R x) a) : ∃ s : ByteArray, evalR R x = .string s ∧ s.toList = a ∧ s.size ≤ maxLen := by
  obtain ⟨cs, hv, s, rfl, rfl, hm⟩ := hx
  exact ⟨s, hv, ByteArray.toList_eq s, hm⟩
theorem of_seql (hx : Rep eStr A w (evalR R x) a) (hy : Rep eStr A w (evalR R y) b) : OpF P ⟨d, .binOp .eql T x y T', t, p, af, g⟩ R w (.raw (.bool (a == b))) := by
  obtain ⟨s, hs, rfl, _⟩ := str_two hx
  obtain ⟨u, hu, rfl, _⟩ := str_two hy
  exact opr_val (w' := w) (by simp [execOp, hs, hu, go_sem]) ⟨rfl, Fr.refl _⟩
theorem of_sneq (hx : Rep eStr A w (evalR R x) a) (hy : Rep eStr A w (evalR R y) b) : OpF P ⟨d, .binOp .neq T x y T', t, p, af, g⟩ R w (.raw (.bool (!(a == b)))) := by
  obtain ⟨s, hs, rfl, _⟩ := str_two hx
  obtain ⟨u, hu, rfl, _⟩ := str_two hy
  exact opr_val (w' := w) (by simp [execOp, hs, hu, go_sem]) ⟨rfl, Fr.refl _⟩
theorem of_cat (hx : Rep eStr A w (evalR R x) a) (hy : Rep eStr A w (evalR R y) b) (hl : lenOK (a ++ b).length = true) : OpF P ⟨d, .binOp .add T x y T', t, p, af, g⟩ R w (.rep eStr A (a ++ b)) := by
  obtain ⟨cs, hs, s, rfl, rfl, _⟩ := hx
  obtain ⟨cs', hu, u, rfl, rfl, _⟩ := hy
  have hs' : evalR R x = .string s := hs
  have hu' : evalR R y = .string u := hu
  have h := lenOK_le hl
  rw [List.length_append, Array.length_toList, Array.length_toList] at h
  have h1 : s.size + u.size ≤ 9223372036854775807 := by
    have e1 : s.data.size = s.size := rfl
    have e2 : u.data.size = u.size := rfl
    omega
  refine opr_val (v := .string (s ++ u)) (w' := w) (by simp [execOp, hs', hu', go_sem, h1]) ⟨⟨_, rfl, _, rfl, ?_, ?_⟩, Fr.refl _⟩
  · rw [ByteArray.data_append, Array.toList_append]
  · rw [ByteArray.size_append]
    unfold maxLen
    have e1 : s.data.size = s.size := rfl
    have e2 : u.data.size = u.size := rfl
    omega
end strs
/-! ### min, max -/
section
variable {a b c : Int}
end
/-! ### bytes to a string -/
def strB (xs : List Int) : List UInt8 := xs.map fun n => UInt8.ofNat n.toNat
theorem of_conv_bytes {S D e : TypeId} {xs : List Int} {A1 : Av} (hx : Rep (eSl (eInt .u8)) A1 w (evalR R y) xs) (hs : P.underlying S = some (.slice e)) (he : P.underlying e = some (.int .u8)) (hd : P.underlying D = some .string) :
    OpF P ⟨d, .convert S D y, t, p, af, g⟩ R w (.rep eStr A (strB xs)) := by
  obtain ⟨cs, hv, ad, n, c, rfl, hl, hnc, hcm, h4⟩ := hx
  have hv' : evalR R y = .slice ad n c := hv
  rcases Nat.eq_zero_or_pos n with h0 | h0
  · have hnil : xs = [] := List.eq_nil_of_length_eq_zero (by omega)
    subst hnil
    refine opr_val (v := .string ByteArray.empty) (w' := w) ?_ ⟨⟨_, rfl, _, rfl, rfl, Nat.zero_le _⟩, Fr.refl _⟩
    have : (convert S D (.slice ad n c)).run P w = .ok (.string ByteArray.empty) w := by
      rw [run_convert_bytes_string w S D e ad n c hs he hd, h0]
      cases ad with
      | none => simp [Conv.bytesToString]
      | some a => 
        have := run_bytesToString (P := P) w a 0 c [] (by simp [loadCells, loadCellsFrom])
        simpa using this
    simp [execOp, hv', this]
  · obtain ⟨b, off, rfl, hb, hall⟩ := h4 h0
    have hc := run_convert_bytes_arg (P := P) w S e hs he b off n c xs hl (fun i hi => by
      have hx : xs[i]? = some xs[i] := List.getElem?_eq_getElem (by omega)
      obtain ⟨⟨cs, h1, h2⟩, _⟩ := hall i _ hx
      obtain rfl := h1
      have := h2 0 _ rfl
      simp only [eInt, Nat.mul_one, Nat.add_zero] at this
      rw [this]
      simp [List.getD, hx]) D hd
    refine opr_val (v := .string (strOfNums xs)) (w' := w) (by simp [execOp, hv', hc]) ⟨⟨_, rfl, _, rfl, ?_, ?_⟩, Fr.refl _⟩
    · simp [strOfNums, strB]
    · have : (strOfNums xs).size = xs.length := by simp [strOfNums, ByteArray.size]
      omega
/-! ### a slice that may be nil -/
def isNilV : Value → Bool
  | .slice none _ _ => true
  | _ => false
section
variable {E : Enc α} {xs : List α} {u : Value} {e : TypeId}
theorem nil_of_rep (h : Rep (eSl E) A w u xs) (hn : isNilV u = true) : xs = [] := by
  obtain ⟨cs, rfl, ad, n, c, rfl, hl, hnc, hcm, h4⟩ := h
  rcases Nat.eq_zero_or_pos n with h0 | h0
  · exact List.eq_nil_of_length_eq_zero (by omega)
  · obtain ⟨b, off, rfl, _⟩ := h4 h0
    cases hn
theorem of_nil_eql (hx : evalR R x = u) (h : Rep (eSl E) A w u xs) (hy : evalR R y = .slice none 0 0) (hu : P.underlying T = some (.slice e)) : OpF P ⟨d, .binOp .eql T x y T', t, p, af, g⟩ R w (.raw (.bool (isNilV u))) := by
  obtain ⟨cs, rfl, ad, n, c, rfl, hl, hnc, hcm, h4⟩ := h
  have hx' : evalR R x = .slice ad n c := hx
  cases ad with
  | none => exact opr_val (v := .bool true) (w' := w) (by simp [execOp, hx', hy, eqGuard]; simp [binOp, Op.equal, Op.maxDepth, Lib.run_equalIn_slice_nil w 9999 T e none n c 0 0 hu]) ⟨rfl, Fr.refl _⟩
  | some a => exact opr_val (v := .bool false) (w' := w) (by simp [execOp, hx', hy, eqGuard]; simp [binOp, Op.equal, Op.maxDepth, Lib.run_equalIn_slice_nil w 9999 T e (some a) n c 0 0 hu]) ⟨rfl, Fr.refl _⟩
end
/-! ### parts of a row of our own -/
/-- n elements of s cells of a row from element lo on -/
def vsub (u : Value) (lo n s : Nat) : Value := match u with
  | .slice a _ c => .slice (if c = lo then a else a.map (·.add (lo * s))) n (c - lo)
  | v => v
section
variable {E : Enc α} {xs : List α} {u : Value} {e : TypeId} {B : Nat} {w0 : World} {A0 : Av} {k : IntKind} {lo i : Int} {n s : Nat}
theorem of_view {l : Operand} (hV : Vec E A0 B e w0 u xs) (hx : evalR R x = u) (hlo : evalR R l = .int k lo) (hu : P.underlying T = some (.slice e)) (hsz : ∀ w, (sizeOf e).run P w = .ok s w) (hr : subR lo xs.length xs.length = true) :
    OpF P ⟨d, .slice T x (some l) none none, t, p, af, g⟩ R w (.raw (vsub u lo.toNat (xs.length - lo.toNat) s)) := by
  obtain ⟨ad, cap, rfl, _⟩ := vec_val hV
  obtain ⟨h1, h2, h3⟩ := subR_iff.1 hr
  refine opr_val (w' := w) ?_ ⟨rfl, Fr.refl _⟩
  obtain ⟨m, rfl⟩ := Int.eq_ofNat_of_zero_le h1
  have b1 : m ≤ xs.length := by omega
  simp [execOp, Instr.sliceAt, Instr.slice, Instr.sliceBounds, Instr.sliceBound, asIntOf, hx, hlo, underlying, hu, hsz, b1, go_sem, vsub]
theorem of_view_hi {h : Operand} {hi : Int} {k' : IntKind} (hV : Vec E A0 B e w0 u xs) (hx : evalR R x = u) (hhi : evalR R h = .int k' hi) (hu : P.underlying T = some (.slice e)) (hsz : ∀ w, (sizeOf e).run P w = .ok s w) (hr : subR 0 hi xs.length = true) :
    OpF P ⟨d, .slice T x none (some h) none, t, p, af, g⟩ R w (.raw (vsub u (0 : Int).toNat (hi.toNat - (0 : Int).toNat) s)) := by
  obtain ⟨cs, hown, hf⟩ := hV
  obtain ⟨h1, h2, h3⟩ := subR_iff.1 hr
  obtain ⟨q, rfl⟩ := Int.eq_ofNat_of_zero_le h2
  rcases hown.2 with ⟨rfl, hz⟩ | ⟨b, cap, cur, rfl, _, _, hnc, _⟩
  · have hq : q = 0 := by omega
    subst hq
    refine opr_val (w' := w) ?_ ⟨rfl, Fr.refl _⟩
    simp [execOp, Instr.sliceAt, Instr.slice, Instr.sliceBounds, Instr.sliceBound, asIntOf, hx, hhi, underlying, hu, hsz, go_sem, vsub]
  · have b2 : q ≤ cap := by omega
    refine opr_val (w' := w) ?_ ⟨rfl, Fr.refl _⟩
    simp [execOp, Instr.sliceAt, Instr.slice, Instr.sliceBounds, Instr.sliceBound, asIntOf, hx, hhi, underlying, hu, hsz, b2, go_sem, vsub]
theorem vsub_len (hV : Vec E A0 B e w0 u xs) : ∃ a c, vsub u lo.toNat n s = .slice a n c := by
  obtain ⟨ad, cap, rfl, _⟩ := vec_val hV
  exact ⟨_, _, rfl⟩
theorem of_len_view (hV : Vec E A0 B e w0 u xs) (hx : evalR R x = vsub u lo.toNat n s) (hu : P.underlying T = some (.slice e)) : OpF P ⟨d, .call ⟨.builtin .len, #[x], #[T]⟩, t, p, af, g⟩ R w (.raw (.int .i64 (n : Int))) := by
  obtain ⟨a, c, h⟩ := vsub_len (lo := lo) (n := n) (s := s) hV
  rw [h] at hx
  exact opr_val (w' := w) (by simp [execOp, resolve, invoke, builtin, Builtin.len_, hx, underlying, hu, goInt]) ⟨rfl, Fr.refl _⟩
theorem of_indexAddr_view {ix : Operand} {m : Nat} (hV : Vec E A0 B e w0 u xs) (hx : evalR R x = vsub u lo.toNat n s) (hi : evalR R ix = .int k i) (hu : P.underlying T = some (.slice e)) (hsz : ∀ w, (sizeOf e).run P w = .ok s w) (hr : inR i n = true) (h0 : decide (0 ≤ lo) = true) (hr' : inR (lo + i) xs.length = true) (hm : (lo + i).toNat * s = m) :
    OpF P ⟨d, .indexAddr T x ix, t, p, af, g⟩ R w (.raw (vptr u m)) := by
  subst hm
  obtain ⟨cs, hown, _⟩ := hV
  obtain ⟨i0, i1⟩ := inR_iff.1 hr
  obtain ⟨j0, j1⟩ := inR_iff.1 hr'
  have h0 := of_decide_eq_true h0
  rcases hown.2 with ⟨rfl, hz⟩ | ⟨b, cap, cur, rfl, _, _, hnc, _⟩
  · omega
  · have hne : cap ≠ lo.toNat := by omega
    have hx' : evalR R x = .slice (some ⟨b, lo.toNat * s, none⟩) n (cap - lo.toNat) := by
      rw [hx]
      simp [vsub, hne, addr_add]
    refine opr_val (v := .pointer (some ⟨b, lo.toNat * s + i.toNat * s, none⟩)) (w' := w) ?_ ⟨?_, Fr.refl _⟩
    · simp [execOp, Instr.indexAt, hx', hi, asIntOf, underlying, hu, i0, i1, hsz, addr_add]
    · show Value.pointer _ = Value.pointer _
      rw [show (lo + i).toNat = lo.toNat + i.toNat by omega, Nat.add_mul, Nat.zero_add]
/-- the row's first elements, handed on for the row -/
theorem took_prefix {h : Operand} {hi : Int} {ys : List α} (hx : evalR R x = u) (hok : (Res.vec B e E xs).ok A u w) (hav : ∀ k, ownsB u k → ∀ o, A k o) (hh : evalR R h = .int k hi) (hu : P.underlying T = some (.slice e)) (hsz : ∀ w, (sizeOf e).run P w = .ok s w) (hr : subR 0 hi xs.length = true) (hy : subL xs 0 hi = ys) :
    OpR P ⟨d, .slice T x none (some h) none, t, p, af, g⟩ R w (Took A true u (.vec B e E ys) (fun _ => .any) w) := by
  subst hy
  obtain ⟨cs, hown, hf⟩ := hok
  obtain ⟨h1, h2, h3⟩ := subR_iff.1 hr
  obtain ⟨q, rfl⟩ := Int.eq_ofNat_of_zero_le h2
  have hlen : (subL xs 0 (q : Int)).length = q := by rw [subL_length hr]; simp
  have hsub : subL xs 0 (q : Int) = xs.take q := by simp [subL]
  have hflat : Flat E A w (cs.take (q * E.size)) (xs.take q) := by
    have hq : q ≤ xs.length := by omega
    have hm := Nat.mul_le_mul_right E.size hq
    refine ⟨by rw [List.length_take, List.length_take, hf.1, Nat.min_eq_left hm, Nat.min_eq_left hq], fun i y hy => ?_⟩
    rw [List.getElem?_take] at hy
    split at hy
    · obtain ⟨ds, k1, k2⟩ := hf.2 i y hy
      refine ⟨ds, k1, fun j d hj => ?_⟩
      have hjl := (List.getElem?_eq_some_iff.1 hj).1
      rw [E.len k1] at hjl
      have hmm := Nat.mul_le_mul_right E.size (show i + 1 ≤ q by omega)
      rw [Nat.add_mul, Nat.one_mul] at hmm
      rw [List.getElem?_take, if_pos (by omega)]
      exact k2 j d hj
    · cases hy
  rw [hsub] at hlen ⊢
  rcases hown.2 with ⟨rfl, hz⟩ | ⟨b, cap, cur, rfl, hBb, hb, hnc, hcm, hcs, htk⟩
  · have hq0 : q = 0 := by omega
    subst hq0
    have hc := Ch.refl (ownsB (.slice none 0 0)) w
    refine opr_val (v := .slice none 0 0) (w' := w) ?_ ⟨_, rfl, hc, fun k _ h => h, stp_swap_self hav hc, ?_, trivial⟩
    · simp [execOp, Instr.sliceAt, Instr.slice, Instr.sliceBounds, Instr.sliceBound, asIntOf, hx, hh, underlying, hu, hsz, go_sem]
    · rw [List.take_zero]
      exact vec_nil
  · have b2 : q ≤ cap := by omega
    have hrun : (execOp (evalR R) ⟨d, .slice T x none (some h) none, t, p, af, g⟩).run P w = .ok (.value (.slice (some ⟨b, 0, none⟩) q cap)) w := by
      have e0 : (⟨b, 0, none⟩ : Addr).add (0 * s) = ⟨b, 0, none⟩ := by rw [addr_add]; simp
      have e1 : (if cap = 0 then some (⟨b, 0, none⟩ : Addr) else some ((⟨b, 0, none⟩ : Addr).add (0 * s))) = some ⟨b, 0, none⟩ := by rw [e0]; split <;> rfl
      simp [execOp, Instr.sliceAt, Instr.slice, Instr.sliceBounds, Instr.sliceBound, asIntOf, hx, hh, underlying, hu, hsz, b2, go_sem]
    have hc := Ch.refl (ownsB (.slice (some ⟨b, 0, none⟩) xs.length cap)) w
    have hst := stp_swap_self hav hc
    refine opr_val hrun ⟨.slice (some ⟨b, 0, none⟩) q cap, rfl, hc, fun k _ h => h, hst, ⟨cs.take (q * E.size), ⟨by rw [hflat.1], .inr ⟨b, cap, cur, by rw [hlen], hBb, hb, by omega, hcm, hcs, ?_⟩⟩, hflat.stp hst⟩, trivial⟩
    rw [hlen, ← htk, List.take_take, Nat.min_eq_left (Nat.mul_le_mul_right _ (by omega))]
end
theorem swapA_self {A : Av} {u : Value} (hav : ∀ k, ownsB u k → ∀ o, A k o) : swapA A u u = A := by
  funext b o
  apply propext
  constructor
  · rintro (⟨h, _⟩ | h)
    · exact h
    · exact hav b h o
  · intro h
    by_cases hb : ownsB u b
    · exact .inr hb
    · exact .inl ⟨h, hb⟩
/-! ### a row handed to a call that writes it -/
abbrev subA (A : Av) (u : Value) : Av := fun b o => A b o ∧ ¬ ownsB u b
theorem AvOK.sub {A : Av} (h : AvOK A w) (u : Value) : AvOK (subA A u) w := fun b o hb => h b o hb.1
theorem addA_sub {A : Av} {u : Value} (hav : ∀ k, ownsB u k → ∀ o, A k o) : addA (subA A u) u = A := by
  funext b o
  apply propext
  constructor
  · rintro (⟨h, _⟩ | h)
    · exact h
    · exact hav b h o
  · intro h
    by_cases hb : ownsB u b
    · exact .inr hb
    · exact .inl ⟨h, hb⟩
theorem vec_base {E : Enc α} {B B' : Nat} {e : TypeId} {u : Value} {xs : List α} {A : Av} (hB : B' ≤ B) (h : (Res.vec B e E xs).ok A u w) : (Res.vec B' e E xs).ok A u w :=
  let ⟨cs, h1, h2⟩ := h; ⟨cs, ⟨h1.1, h1.2.imp id fun ⟨g, cap, cur, e1, hb, r⟩ => ⟨g, cap, cur, e1, Nat.le_trans hB hb, r⟩⟩, h2⟩
theorem Vec.flat {E : Enc α} {B : Nat} {e : TypeId} {u : Value} {xs : List α} {A A' : Av} (h : (Res.vec B e E xs).ok A u w) (hfl : ∀ A A' w x cs, E.rep A w x cs → E.rep A' w x cs) : (Res.vec B e E xs).ok A' u w :=
  let ⟨cs, h1, h2, h3⟩ := h; ⟨cs, h1, h2, fun i x hx => let ⟨ds, h4, h5⟩ := h3 i x hx; ⟨ds, hfl _ _ _ _ _ h4, h5⟩⟩
theorem FnK1.flat {ρ : Type} {E : Enc α} {φ : ρ → Fact} {K : Nat → Prop} {v : Value} {F : α → Option ρ} {A A' : Av} (h : FnK1 P E φ A K w v F) (hA : AvOK A w) (hfl : ∀ A A' w x cs, E.rep A w x cs → E.rep A' w x cs) : FnK1 P E φ A' K w v F :=
  fun x r hr w' a hch _ ha => h x r hr w' a hch (hA.fr hch.size) (let ⟨cs, h1, h2⟩ := ha; ⟨cs, h1, hfl _ _ _ _ _ h2⟩)
theorem FnK1.mono {ρ : Type} {E : Enc α} {φ : ρ → Fact} {K K' : Nat → Prop} {v : Value} {F : α → Option ρ} (h : FnK1 P E φ A K w v F) (hK : ∀ k, K' k → K k) : FnK1 P E φ A K' w v F :=
  fun x r hr w' a hch hA ha => h x r hr w' a ⟨hch.os, hch.tape, hch.output, hch.size, fun k hk hn => hch.block k hk fun h' => hn (hK k h'), hch.drawn⟩ hA ha
theorem IniOK.one {E : Enc α} {B : Nat} {e : TypeId} {u : Value} {xs : List α} {A : Av} (h : (Res.vec B e E xs).ok A u w) (hfl : ∀ A A' w x cs, E.rep A w x cs → E.rep A' w x cs) : IniOK [ob u (.vec B e E xs)] (addA A u) w := by
  refine ⟨fun i p hp => ?_, fun i p hp => ?_, fun i j p q hp hq hne k hk hk' => ?_⟩
  · cases i with
    | zero => simp at hp; subst hp; exact ⟨Vec.flat h hfl, fun k hk o => .inr hk⟩
    | succ i => simp at hp
  · cases i with
    | zero => simp at hp; subst hp; rfl
    | succ i => simp at hp
  · cases i with
    | zero =>
      cases j with
      | zero => exact hne rfl
      | succ j => simp at hq
    | succ i => simp at hp
theorem AvOK.one {E : Enc α} {B : Nat} {e : TypeId} {u : Value} {xs : List α} {A : Av} (hA : AvOK A w) (h : (Res.vec B e E xs).ok A u w) : AvOK (addA A u) w :=
  fun b o hb => hb.elim (hA b o) fun hb => Res.lt h rfl hb
/-- the call's last word on a row that it was handed, and hands back -/
theorem took_post {E : Enc α} {B : Nat} {e : TypeId} {u v : Value} {ys : List α} {A A' : Av} {w' : World} (hav : ∀ k, ownsB u k → ∀ o, A k o) (hch : Ch (ownsB u) w w') (hv : (Res.vec B e E ys).ok A' v w') (hge : ∀ k, ownsB v k → w.heap.size ≤ k ∨ ownsB u k) (hfl : ∀ A A' w x cs, E.rep A w x cs → E.rep A' w x cs) :
    Took A true u (.vec B e E ys) (fun _ => .any) w v w' :=
  ⟨v, rfl, hch, fun k hk h => (hge k h).resolve_left (by omega), ⟨hch.size, fun b o x hx hn => (World.cell?_of_block (w := w) (hch.block b (cell_lt' hx) fun h => hn (hav b h o))).trans hx, fun b o hb h => h.elim (·.1) fun h => hav b ((hge b h).resolve_left (by omega)) o⟩, Vec.flat hv hfl, trivial⟩
theorem IniOK.own_ge {ini : List Ob} {A : Av} {B : Nat} {K : Nat → Prop} (h : IniOK ini A w) (hB : allFor B K ini) {i : Nat} {u : Value} {r : Res} (hi : ini[i]? = some (ob u r)) : ∀ k, ownsB u k → B ≤ k ∨ K k :=
  fun k hk => h.geK hB k ⟨i, _, hi, hk⟩
theorem CRep.less {E : Enc α} {B : Nat} {a : α} {A A' : Av} {v : Value} (h : CRep E A w B v a) (hAA : ∀ b o, A' b o → A b o) : CRep E A' w B v a :=
  let ⟨b, o, h1, h2, h3, cs, h4, h5⟩ := h; ⟨b, o, h1, h2, h3, cs, E.stp (stp_down hAA) h4, h5⟩
/-- a row of our own becomes a list that nobody writes any more -/
theorem IniOK.freeze {E : Enc α} {B : Nat} {e : TypeId} {u : Value} {xs : List α} {A A0 : Av} {rest : List Ob} (h : IniOK (ob u (.vec B e E xs) :: rest) A w) (hA : AvOK A w) (hAA : ∀ b o, A0 b o → A b o) (hA0 : ∀ b o, A0 b o → b < B) :
    ∃ A' : Av, (∀ b o, A' b o → A b o) ∧ (∀ b o, A0 b o → A' b o) ∧ AvOK A' w ∧ IniOK rest A' w ∧ Rep (eSl E) A' w u xs := by
  have hv := (h.ok 0 _ rfl).1
  refine ⟨subA A u, fun b o h => h.1, fun b o h' => ⟨hAA b o h', fun hb => ?_⟩, hA.sub u, ⟨fun i p hp => ?_, fun i p hp => (Res.stabS (h.ok (i + 1) p (by simpa using hp)).1 (h.own (i + 1) p (by simpa using hp)) (fun _ _ => rfl) (stp_down fun b o h => h.1)).2, fun i j p q hp hq hne => h.dis (i + 1) (j + 1) p q (by simpa using hp) (by simpa using hq) (by omega)⟩, ?_⟩
  · have h1 := Res.geB hv rfl hb
    have h2 := hA0 b o h'
    have : B ≤ b := h1
    omega
  · have h1 := h.ok (i + 1) p (by simpa using hp)
    have h2 := h.own (i + 1) p (by simpa using hp)
    refine ⟨(Res.stabS h1.1 h2 (fun _ _ => rfl) (stp_down fun b o h => h.1)).1, fun k hk o => ⟨h1.2 k hk o, fun hu => ?_⟩⟩
    exact h.dis (i + 1) 0 p _ (by simpa using hp) rfl (by omega) k hk hu
  · obtain ⟨cs, hown, hf⟩ := hv
    have hst : Stp A (subA A u) w w := stp_down fun b o h => h.1
    rcases hown.2 with ⟨rfl, h0⟩ | ⟨g, cap, cur, rfl, hbg, hg, hnc, hcm, hcs, htake⟩
    · have : xs = [] := List.eq_nil_of_length_eq_zero h0
      subst this
      exact rep_nil
    · refine ⟨_, rfl, some ⟨g, 0, none⟩, xs.length, cap, rfl, rfl, hnc, hcm, fun _ => ⟨g, 0, rfl, hg.lt, fun i x hx => ?_⟩⟩
      obtain ⟨ds, h1, h2⟩ := hf.2 i x hx
      refine ⟨⟨ds, E.stp hst h1, fun j u hj => ?_⟩, fun j _ hA0 => hA0.2 rfl⟩
      have := hown.cells (g := g) rfl (i * E.size + j) u (h2 j u hj)
      rwa [addr_add, ← Nat.add_assoc] at this
/-- a call that takes a row and hands back another for it -/
theorem took_callm {E : Enc α} {e : TypeId} {ys : List α} {B : Nat} {u : Value} {fn : FuncId} {al : List Operand} {aT : Array TypeId} {dd : Nat} (hc : ∀ args w, (callFunc fn args).run P w = .ok (.enter fn args) w) (hav : ∀ k, ownsB u k → ∀ o, A k o)
    (h : Calls P fn (al.map (evalR R)).toArray w fun ed w' => ∃ v, ed = .returned v ∧ Took (addA (subA A u) u) true u (.vec B e E ys) (fun _ => .any) w v w') :
    OpR P ⟨some dd, .call ⟨.value (.func fn), al.toArray, aT⟩, t, p, af, g⟩ R w (Took A true u (.vec B e E ys) (fun _ => .any) w) := by
  unfold OpR
  have : (execOp (evalR R) ⟨some dd, .call ⟨.value (.func fn), al.toArray, aT⟩, t, p, af, g⟩).run P w = .ok (.enter fn (al.map (evalR R)).toArray) w := by
    simp [execOp, resolve, evalR, Deferred.ofValue, invoke, hc]
  rw [this]
  rw [addA_sub hav] at h
  exact h
/-- the row's end filled with zeros -/
theorem took_clear {E : Enc α} {xs ys : List α} {u : Value} {e : TypeId} {B : Nat} {lo : Int} {n s : Nat} {zc : Value} {z : α} (hx : evalR R x = vsub u lo.toNat n s) (hok : (Res.vec B e E xs).ok A u w) (hav : ∀ k, ownsB u k → ∀ o, A k o) (hu : P.underlying T = some (.slice e)) (hs : s = E.size)
    (hz : ∀ w, (zeroValue e).run P w = .ok zc w) (hzr : ∀ A w, E.rep A w z zc.cells.toList) (hr : subR lo xs.length xs.length = true) (hn : (n == xs.length - lo.toNat) = true) (hy : xs.take lo.toNat ++ List.replicate (xs.length - lo.toNat) z = ys) :
    OpR P ⟨none, .call ⟨.builtin .clear, #[x], #[T]⟩, t, p, af, g⟩ R w (Took A false u (.vec B e E ys) (fun _ => .any) w) := by
  subst hy hs
  obtain rfl := of_decide_eq_true hn
  obtain ⟨h1, h2, h3⟩ := subR_iff.1 hr
  obtain ⟨q, rfl⟩ := Int.eq_ofNat_of_zero_le h1
  have hq : q ≤ xs.length := by omega
  simp only [Int.toNat_natCast] at hx ⊢
  have hlen : (xs.take q ++ List.replicate (xs.length - q) z).length = xs.length := by simp; omega
  have hcu := Ch.refl (ownsB u) w
  by_cases hq0 : xs.length - q = 0
  · obtain ⟨a, c, he⟩ := vsub_len (lo := (q : Int)) (n := xs.length - q) (s := E.size) hok
    rw [Int.toNat_natCast] at he
    rw [he, hq0] at hx
    refine opr_val (v := .tuple #[]) (w' := w) ?_ ⟨u, rfl, hcu, fun k _ h => h, stp_swap_self hav hcu, ?_, trivial⟩
    · cases a <;> simp [execOp, resolve, invoke, builtin, Builtin.clear_, hx, run_underlying hu]
    · rw [swapA_self hav, hq0, List.replicate_zero, List.append_nil, List.take_of_length_le (by omega)]
      exact hok
  · obtain ⟨cs, hown, hf⟩ := hok
    rcases hown.2 with ⟨rfl, hz0⟩ | ⟨b, cap, cur, rfl, hBb, hb, hnc, hcm, hcs, htk⟩
    · omega
    · have hne : cap ≠ q := by omega
      have hx' : evalR R x = .slice (some ⟨b, q * E.size, none⟩) (xs.length - q) (cap - q) := by
        rw [hx]
        simp [vsub, hne, addr_add]
      have hzl : zc.cells.size = E.size := by simpa using E.len (hzr A w)
      have hzone : ∀ v ∈ (Builtin.zeroCells zc.cells (xs.length - q)).toList, v.oneCell' = true := by
        intro v hv
        simp only [Builtin.zeroCells, Array.toList_map, List.mem_map, Array.toList_range, List.mem_range] at hv
        obtain ⟨i, hi, rfl⟩ := hv
        have hpos : 0 < zc.cells.size := by
          rcases Nat.eq_zero_or_pos zc.cells.size with h | h
          · rw [h, Nat.mul_zero] at hi; omega
          · exact h
        have hm := Nat.mod_lt i hpos
        rw [getElem!_pos zc.cells _ hm]
        exact E.oc (hzr A w) _ (by simp)
      have hzsz : (Builtin.zeroCells zc.cells (xs.length - q)).toList.length = (xs.length - q) * E.size := by
        simp [Builtin.zeroCells, hzl]
      have hm1 := Nat.mul_le_mul_right E.size hq
      have hm2 := Nat.mul_le_mul_right E.size hnc
      obtain ⟨w', hr1, hr2, hr3⟩ := run_storeCellsM (P := P) (b := b) (T := e) (Builtin.zeroCells zc.cells (xs.length - q)).toList cur (q * E.size) 0 w hzone hb (by rw [hzsz, Nat.sub_mul, hcs]; omega)
      have hch : Ch (ownsB (.slice (some ⟨b, 0, none⟩) xs.length cap)) w w' := hr2.ch
      have hst := stp_swap_self hav hch
      refine opr_val (v := .tuple #[]) (w' := w') ?_ ⟨_, rfl, hch, fun k _ h => h, hst, ?_, trivial⟩
      · obtain ⟨m, hm⟩ : ∃ m, xs.length - q = m + 1 := ⟨xs.length - q - 1, by omega⟩
        rw [hm] at hx' hr1
        simp [execOp, resolve, invoke, builtin, Builtin.clear_, hx', run_underlying hu, hz, hr1]
      · rw [swapA_self hav] at hst ⊢
        have hfl0 : Flat E A w' (cs.take (q * E.size)) (xs.take q) := by
          refine ⟨by rw [List.length_take, List.length_take, hf.1, Nat.min_eq_left hm1, Nat.min_eq_left hq], fun i y hy => ?_⟩
          rw [List.getElem?_take] at hy
          split at hy
          · obtain ⟨ds, k1, k2⟩ := (hf.stp hst).2 i y hy
            refine ⟨ds, k1, fun j d hj => ?_⟩
            have hjl := (List.getElem?_eq_some_iff.1 hj).1
            rw [E.len k1] at hjl
            have hmm := Nat.mul_le_mul_right E.size (show i + 1 ≤ q by omega)
            rw [Nat.add_mul, Nat.one_mul] at hmm
            rw [List.getElem?_take, if_pos (by omega)]
            exact k2 j d hj
          · cases hy
        have hfl1 : Flat E A w' (Builtin.zeroCells zc.cells (xs.length - q)).toList (List.replicate (xs.length - q) z) := by
          have := madeCells_flat (hzr A w') (xs.length - q) (E := E)
          have e1 : (madeCells zc.cells ((xs.length - q) * E.size)) = Builtin.zeroCells zc.cells (xs.length - q) := by
            simp [madeCells, Builtin.zeroCells, hzl]
          rwa [e1] at this
        refine ⟨_, ⟨?_, .inr ⟨b, cap, _, by rw [hlen], hBb, hr3, by rw [hlen]; exact hnc, hcm, by rw [lay_size]; exact hcs, rfl⟩⟩, ?_⟩
        · have hll : (lay cur (q * E.size + 0) (Builtin.zeroCells zc.cells (xs.length - q)).toList).toList.length = cap * E.size := by rw [Array.length_toList, lay_size, hcs]
          rw [List.length_take, hlen, hll]
          exact Nat.min_eq_left hm2
        · have e2 : ((lay cur (q * E.size + 0) (Builtin.zeroCells zc.cells (xs.length - q)).toList).toList.take ((xs.take q ++ List.replicate (xs.length - q) z).length * E.size)) = cs.take (q * E.size) ++ (Builtin.zeroCells zc.cells (xs.length - q)).toList := by
            rw [hlen]
            have hcsl := hf.1
            apply List.ext_getElem?
            intro j
            by_cases hj : j < xs.length * E.size
            · rw [List.getElem?_take, if_pos hj, Array.getElem?_toList, lay_at _ _ _ _ (by rw [hzsz, Nat.sub_mul, hcs]; omega), hzsz, Nat.add_zero]
              by_cases hj1 : j < q * E.size
              · rw [if_neg (by omega), List.getElem?_append_left (by simp; omega), List.getElem?_take, if_pos hj1, ← htk, List.getElem?_take, if_pos hj, Array.getElem?_toList]
              · rw [if_pos (by rw [Nat.sub_mul]; omega), List.getElem?_append_right (by simp; omega)]
                congr 1
                simp
                omega
            · rw [List.getElem?_take, if_neg hj, List.getElem?_eq_none (by rw [List.length_append, hzsz, List.length_take, Nat.sub_mul]; omega)]
          rw [e2]
          exact flat_app hfl0 hfl1
/-! ### rows that become plain lists -/
theorem Vec.thaw {E : Enc α} {B : Nat} {e : TypeId} {u : Value} {xs : List α} {A A' : Av} (h : Vec E A B e w u xs) (hAA : ∀ b o, A' b o → A b o) (hn : ∀ b o, A' b o → ¬ ownsB u b) : Rep (eSl E) A' w u xs := by
  obtain ⟨cs, hown, hf⟩ := h
  have hst : Stp A A' w w := stp_down hAA
  rcases hown.2 with ⟨rfl, h0⟩ | ⟨g, cap, cur, rfl, hbg, hg, hnc, hcm, hcs, htake⟩
  · have : xs = [] := List.eq_nil_of_length_eq_zero h0
    subst this
    exact rep_nil
  · refine ⟨_, rfl, some ⟨g, 0, none⟩, xs.length, cap, rfl, rfl, hnc, hcm, fun _ => ⟨g, 0, rfl, hg.lt, fun i x hx => ?_⟩⟩
    obtain ⟨ds, h1, h2⟩ := hf.2 i x hx
    refine ⟨⟨ds, E.stp hst h1, fun j u hj => ?_⟩, fun j _ hA0 => hn _ _ hA0 rfl⟩
    have := hown.cells (g := g) rfl (i * E.size + j) u (h2 j u hj)
    rwa [addr_add, ← Nat.add_assoc] at this
theorem OpR.thaw {o : Oper} {E : Enc α} {B : Nat} {e : TypeId} {u : Value} {xs : List α} {lk : Bool} (h : OpR P o R w (Took A true u (.vec B e E xs) (fun _ => .any) w)) (hA : AvOK A w) (hav : ∀ k, ownsB u k → ∀ o, A k o) : OpR P o R w (TookS A lk u (ownsB u) .nul (fun A => .rep (eSl E) A xs) w) :=
  h.mono fun v w' h => by
    obtain ⟨u'', hu, hch, hs, hst, hok, _⟩ := h
    subst hu
    have hAA : ∀ b o, swapS A (ownsB u) (fun _ => False) b o → swapA A u u'' b o := fun b o h => h.elim .inl fun h => h.elim
    refine ⟨bif lk then u'' else u, fun _ => False, by cases lk <;> rfl, hch, fun k _ h => h.elim, ⟨hst.size, fun b o v hv hn => hst.cell b o v hv hn, fun b o hb h => h.elim (·.1) fun h => h.elim⟩, trivial, rfl, ?_⟩
    refine Vec.thaw hok hAA fun b o h hb => ?_
    rcases h with ⟨h1, h2⟩ | h
    · exact h2 (hs b (hA b o h1) hb)
    · exact h
theorem view_rep {E : Enc α} {u : Value} {xs : List α} {A0 : Av} {lo hi : Int} {n s : Nat} (h : Rep (eSl E) A0 w u xs) (hr : subR lo hi xs.length = true) (hn : n = hi.toNat - lo.toNat) (hs : s = E.size) : Rep (eSl E) A0 w (vsub u lo.toNat n s) (subL xs lo hi) := by
  subst hn hs
  obtain ⟨cs, hv, ad, n, c, rfl, hl, hnc, hcm, h4⟩ := h
  obtain rfl : u = .slice ad n c := hv
  exact sub_rep hl hnc hcm h4 hr
/-- a row that the caller handed over, for reading -/
theorem vec_repK {E : Enc α} {B B' : Nat} {e : TypeId} {u : Value} {xs : List α} {A A0 : Av} {K : Nat → Prop} (h : Vec E A B e w u xs) (hAA : ∀ b o, A0 b o → A b o) (h0 : ∀ b o, A0 b o → b < B') (hN : ∀ b o, A0 b o → ¬ K b) (hK : ∀ k, ownsB u k → B' ≤ k ∨ K k) : Rep (eSl E) A0 w u xs :=
  Vec.thaw h hAA fun b o h hb => (hK b hb).elim (fun h' => by have := h0 b o h; omega) (hN b o h)
theorem frz_assign {E : Enc α} {B : Nat} {e : TypeId} {u : Value} {xs : List α} {lk : Bool} (hx : evalR R x = u) (hok : (Res.vec B e E xs).ok A u w) (hA : AvOK A w) (hav : ∀ k, ownsB u k → ∀ o, A k o) : OpR P ⟨d, .assign x, t, p, af, g⟩ R w (TookS A lk u (ownsB u) .nul (fun A => .rep (eSl E) A xs) w) :=
  (took_assign hx hok hav).thaw hA hav
end
end Go.Proofs.Ytmkgocdgkdglnaa
/- Trees: values with memory of their own, each block once (OE), and places in them (holes). No statement of the seat is proved here. -/
namespace Go.Proofs.Ytmkgocdgkdglnaa
open Go.RowKit
set_option linter.unusedVariables false

/-- the cells read x; the blocks of S, and no others, are the value's own -/
structure OE (α : Type) where
  E : Enc α
  own : Av → World → (Nat → Prop) → α → List Value → Prop
  lt : ∀ {A w S x cs k}, own A w S x cs → S k → k < w.heap.size
  stab : ∀ {A A' w w' S x cs}, own A w S x cs → (∀ k, S k → w'.heap[k]? = w.heap[k]?) → Stp A A' w w' → own A' w' S x cs
  rep : ∀ {A A0 w S x cs}, own A w S x cs → (∀ b o, A0 b o → A b o) → (∀ k o, S k → ¬ A0 k o) → E.rep A0 w x cs
section
variable {α β γ : Type}
theorem OE.len (F : OE α) {A : Av} {w : World} {S : Nat → Prop} {x : α} {cs : List Value} (h : F.own A w S x cs) : cs.length = F.E.size :=
  F.E.len (F.rep (A0 := av0) h (fun _ _ h => h.elim) fun _ _ _ h => h)
theorem OE.oc (F : OE α) {A : Av} {w : World} {S : Nat → Prop} {x : α} {cs : List Value} (h : F.own A w S x cs) : ∀ c ∈ cs, c.oneCell' = true :=
  F.E.oc (F.rep (A0 := av0) h (fun _ _ h => h.elim) fun _ _ _ h => h)
/-- nothing of its own: it reads memory that stays -/
def oRd (E : Enc α) : OE α where
  E := E
  own := fun A w S x cs => (∀ k, ¬ S k) ∧ E.rep A w x cs
  lt := fun h hk => (h.1 _ hk).elim
  stab := fun h _ hs => ⟨h.1, E.stp hs h.2⟩
  rep := fun h hA _ => E.stp (stp_down hA) h.2
def oPr (F : OE α) (G : OE β) : OE (α × β) where
  E := ePr F.E G.E
  own := fun A w S x cs => ∃ c d S1 S2, cs = c ++ d ∧ F.own A w S1 x.1 c ∧ G.own A w S2 x.2 d ∧ (∀ k, S k ↔ S1 k ∨ S2 k) ∧ ∀ k, S1 k → ¬ S2 k
  lt := by
    rintro A w S x cs k ⟨c, d, S1, S2, rfl, h1, h2, h3, h4⟩ hk
    rcases (h3 k).1 hk with h | h
    · exact F.lt h1 h
    · exact G.lt h2 h
  stab := by
    rintro A A' w w' S x cs ⟨c, d, S1, S2, rfl, h1, h2, h3, h4⟩ hb hs
    exact ⟨c, d, S1, S2, rfl, F.stab h1 (fun k hk => hb k ((h3 k).2 (.inl hk))) hs, G.stab h2 (fun k hk => hb k ((h3 k).2 (.inr hk))) hs, h3, h4⟩
  rep := by
    rintro A A0 w S x cs ⟨c, d, S1, S2, rfl, h1, h2, h3, h4⟩ hA hn
    exact ⟨c, d, rfl, F.rep h1 hA fun k o hk => hn k o ((h3 k).2 (.inl hk)), G.rep h2 hA fun k o hk => hn k o ((h3 k).2 (.inr hk))⟩
def oBx (F : OE α) : OE α where
  E := eBx F.E
  own := F.own
  lt := F.lt
  stab := F.stab
  rep := F.rep
/-- element i lies at cell i * size of the row, with blocks Si i -/
structure Els (F : OE α) (A : Av) (w : World) (S : Nat → Prop) (g : Nat) (arr : Array Value) (xs : List α) (Si : Nat → Nat → Prop) : Prop where
  el : ∀ (i : Nat) x, xs[i]? = some x → ∃ ds, F.own A w (Si i) x ds ∧ ∀ (j : Nat) u, ds[j]? = some u → arr[i * F.E.size + j]? = some u
  dis : ∀ i j k, i < xs.length → j < xs.length → i ≠ j → Si i k → ¬ Si j k
  out : ∀ i, i < xs.length → ¬ Si i g
  set : ∀ k, S k ↔ k = g ∨ ∃ i, i < xs.length ∧ Si i k
def oSl (T : TypeId) (F : OE α) : OE (List α) where
  E := eSl F.E
  own := fun A w S xs cs => (cs = [.slice none 0 0] ∧ xs = [] ∧ ∀ k, ¬ S k) ∨
    ∃ g c arr Si, cs = [.slice (some ⟨g, 0, none⟩) xs.length c] ∧ Blk w g T arr ∧ xs.length ≤ c ∧ c ≤ maxLen ∧ arr.size = c * F.E.size ∧ Els F A w S g arr xs Si
  lt := by
    rintro A w S xs cs k (⟨_, _, h⟩ | ⟨g, c, arr, Si, rfl, h1, h2, h3, h4, h5⟩) hk
    · exact (h k hk).elim
    · rcases (h5.set k).1 hk with rfl | ⟨i, hi, hk⟩
      · exact h1.lt
      · obtain ⟨ds, h6, _⟩ := h5.el i _ (List.getElem?_eq_getElem hi)
        exact F.lt h6 hk
  stab := by
    rintro A A' w w' S xs cs (⟨h0, h0', h⟩ | ⟨g, c, arr, Si, rfl, h1, h2, h3, h4, h5⟩) hb hs
    · exact .inl ⟨h0, h0', h⟩
    · refine .inr ⟨g, c, arr, Si, rfl, (hb g ((h5.set g).2 (.inl rfl))).trans h1, h2, h3, h4, ⟨fun i x hx => ?_, h5.dis, h5.out, h5.set⟩⟩
      obtain ⟨ds, h6, h7⟩ := h5.el i x hx
      exact ⟨ds, F.stab h6 (fun k hk => hb k ((h5.set k).2 (.inr ⟨i, (List.getElem?_eq_some_iff.1 hx).1, hk⟩))) hs, h7⟩
  rep := by
    rintro A A0 w S xs cs (⟨rfl, rfl, h⟩ | ⟨g, c, arr, Si, rfl, h1, h2, h3, h4, h5⟩) hA hn
    · exact rep1_nil
    · refine ⟨some ⟨g, 0, none⟩, xs.length, c, rfl, rfl, h2, h3, fun _ => ⟨g, 0, rfl, h1.lt, fun i x hx => ?_⟩⟩
      obtain ⟨ds, h6, h7⟩ := h5.el i x hx
      refine ⟨⟨ds, F.rep h6 hA fun k o hk => hn k o ((h5.set k).2 (.inr ⟨i, (List.getElem?_eq_some_iff.1 hx).1, hk⟩)), fun j u hj => ?_⟩, fun j hj => hn g _ ((h5.set g).2 (.inl rfl))⟩
      rw [h1.cell, Nat.zero_add]
      exact h7 j u hj
/-- an address of a variable of its own -/
def ePt (E : Enc α) : Enc α where
  size := 1
  agg := false
  rep := fun A w x cs => ∃ b, cs = [.pointer (some ⟨b, 0, none⟩)] ∧ b < w.heap.size ∧ QAt E A w b 0 x
  len := by rintro A w x cs ⟨b, rfl, _⟩; rfl
  one := fun _ => rfl
  oc := by rintro A w x cs ⟨b, rfl, _⟩ c hc; simp at hc; subst hc; rfl
  stp := by
    rintro A A' w w' x cs hs ⟨b, rfl, h1, h2⟩
    exact ⟨b, rfl, Nat.lt_of_lt_of_le h1 hs.size, h2.stp h1 hs⟩
def oPt (T : TypeId) (F : OE α) : OE α where
  E := ePt F.E
  own := fun A w S x cs => ∃ b ds S1, cs = [.pointer (some ⟨b, 0, none⟩)] ∧ Blk w b T ds.toArray ∧ F.own A w S1 x ds ∧ ¬ S1 b ∧ ∀ k, S k ↔ k = b ∨ S1 k
  lt := by
    rintro A w S x cs k ⟨b, ds, S1, rfl, h1, h2, h3, h4⟩ hk
    rcases (h4 k).1 hk with rfl | h
    · exact h1.lt
    · exact F.lt h2 h
  stab := by
    rintro A A' w w' S x cs ⟨b, ds, S1, rfl, h1, h2, h3, h4⟩ hb hs
    exact ⟨b, ds, S1, rfl, (hb b ((h4 b).2 (.inl rfl))).trans h1, F.stab h2 (fun k hk => hb k ((h4 k).2 (.inr hk))) hs, h3, h4⟩
  rep := by
    rintro A A0 w S x cs ⟨b, ds, S1, rfl, h1, h2, h3, h4⟩ hA hn
    refine ⟨b, rfl, h1.lt, ⟨ds, F.rep h2 hA fun k o hk => hn k o ((h4 k).2 (.inr hk)), fun j u hj => ?_⟩, fun j hj => hn b _ ((h4 b).2 (.inl rfl))⟩
    rw [h1.cell, Nat.zero_add]
    simpa using hj

/-! ### holes -/
abbrev Pw := Av → World → (Nat → Prop) → Prop
/-- block b has changed between off and off + n at most -/
def Up (b off n : Nat) (w w' : World) : Prop := ∃ arr arr' T, Blk w b T arr ∧ Blk w' b T arr' ∧ arr'.size = arr.size ∧ ∀ j, (j < off ∨ off + n ≤ j) → arr'[j]? = arr[j]?
/-- a place of memory: if what lies there is replaced, Q holds of it -/
structure Hole (F : OE β) (A : Av) (w : World) (S : Nat → Prop) (b off : Nat) (y : β) (S1 : Nat → Prop) (cs : List Value) (Q : β → Pw) : Prop where
  own : F.own A w S1 y cs
  at' : ∀ (j : Nat) u, cs[j]? = some u → w.cell? ⟨b, off + j, none⟩ = some u
  inb : S b
  out : ¬ S1 b
  sub : ∀ k, S1 k → S k
  blk : ∃ arr T, Blk w b T arr ∧ off + F.E.size ≤ arr.size
  put : ∀ A' w' S1' y' ds, F.own A' w' S1' y' ds → (∀ (j : Nat) u, ds[j]? = some u → w'.cell? ⟨b, off + j, none⟩ = some u) → Up b off F.E.size w w' → (∀ k, S k → ¬ S1 k → k ≠ b → w'.heap[k]? = w.heap[k]?) → Stp A A' w w' → (∀ k, S1' k → S k → S1 k) → Q y' A' w' (fun k => (S k ∧ ¬ S1 k) ∨ S1' k)
/-- a value: if what hangs at it is changed, Q holds of it -/
structure VHole (F : OE β) (A : Av) (w : World) (S : Nat → Prop) (cs : List Value) (y : β) (S1 : Nat → Prop) (Q : β → Pw) : Prop where
  own : F.own A w S1 y cs
  sub : ∀ k, S1 k → S k
  put : ∀ A' w' S1' y', F.own A' w' S1' y' cs → (∀ k, S k → ¬ S1 k → w'.heap[k]? = w.heap[k]?) → Stp A A' w w' → (∀ k, S1' k → S k → S1 k) → Q y' A' w' (fun k => (S k ∧ ¬ S1 k) ∨ S1' k)
/-- the same, at an address or a value as they stand in registers -/
def HoleA (F : OE β) (A : Av) (w : World) (S : Nat → Prop) (a : Value) (y : β) (Q : β → Pw) : Prop := ∃ b off S1 cs, a = .pointer (some ⟨b, off, none⟩) ∧ Hole F A w S b off y S1 cs Q
def VHoleA (F : OE β) (A : Av) (w : World) (S : Nat → Prop) (v : Value) (y : β) (Q : β → Pw) : Prop := ∃ S1 cs, v = F.E.val cs ∧ VHole F A w S cs y S1 Q
theorem set_eq {S S1 Sa Sb Sa' : Nat → Prop} (h : ∀ k, S1 k ↔ Sa k ∨ Sb k) (hs : ∀ k, S1 k → S k) (hd : ∀ k, Sa k → ¬ Sb k) : (fun k => (S k ∧ ¬ S1 k) ∨ (Sa' k ∨ Sb k)) = fun k => (S k ∧ ¬ Sa k) ∨ Sa' k := by
  funext k
  rw [eq_iff_iff]
  have h1 := h k
  have h2 := hs k
  have h3 := hd k
  constructor
  · rintro (⟨a, b⟩ | a | a)
    · exact .inl ⟨a, fun h => b (h1.2 (.inl h))⟩
    · exact .inr a
    · exact .inl ⟨h2 (h1.2 (.inr a)), fun h => h3 h a⟩
  · rintro (⟨a, b⟩ | a)
    · by_cases hb : Sb k
      · exact .inr (.inr hb)
      · exact .inl ⟨a, fun h => (h1.1 h).elim b hb⟩
    · exact .inr (.inl a)
section
variable {F : OE α} {G : OE β} {A : Av} {w : World} {S : Nat → Prop}
theorem VHole.root {cs : List Value} {x : α} (h : F.own A w S x cs) : VHole F A w S cs x S (fun z A' w' S' => F.own A' w' S' z cs) :=
  ⟨h, fun _ h => h, fun A' w' S1' y' h1 _ _ _ => by
    have : (fun k => (S k ∧ ¬ S k) ∨ S1' k) = S1' := by
      funext k
      rw [eq_iff_iff]
      exact ⟨fun h => h.elim (fun h => absurd h.1 h.2) id, .inr⟩
    rw [this]
    exact h1⟩
theorem cell_keep {w' : World} {b o : Nat} {u : Value} (hb : w'.heap[b]? = w.heap[b]?) (h : w.cell? ⟨b, o, none⟩ = some u) : w'.cell? ⟨b, o, none⟩ = some u := (World.cell?_of_block (w := w) hb).trans h
/-- what is read at a place, as a value -/
theorem Hole.v {b off : Nat} {y : α} {S1 : Nat → Prop} {cs : List Value} {Q : α → Pw} (h : Hole F A w S b off y S1 cs Q) : VHole F A w S cs y S1 Q := by
  refine ⟨h.own, h.sub, fun A' w' S1' y' h1 h2 h3 h4 => ?_⟩
  have hb := h2 b h.inb h.out
  obtain ⟨arr, T, h5, h6⟩ := h.blk
  exact h.put A' w' S1' y' cs h1 (fun j u hj => cell_keep hb (h.at' j u hj)) ⟨arr, arr, T, h5, hb.trans h5, rfl, fun _ _ => rfl⟩ (fun k h1 h2' _ => h2 k h1 h2') h3 h4
theorem Hole.fst {b off : Nat} {y : α × β} {S1 : Nat → Prop} {cs : List Value} {Q : α × β → Pw} (h : Hole (oPr F G) A w S b off y S1 cs Q) : ∃ Sa ca, Hole F A w S b off y.1 Sa ca (fun z => Q (z, y.2)) := by
  obtain ⟨c, d, Sa, Sb, rfl, h1, h2, h3, h4⟩ := h.own
  have hlc := F.len h1
  have hld := G.len h2
  refine ⟨Sa, c, h1, fun j u hj => h.at' j u (by rw [List.getElem?_append_left (List.getElem?_eq_some_iff.1 hj).1]; exact hj), h.inb, fun hb => h.out ((h3 b).2 (.inl hb)), fun k hk => h.sub k ((h3 k).2 (.inl hk)), ?_, fun A' w' S1' y' ds k1 k2 k3 k4 k5 k6 => ?_⟩
  · obtain ⟨arr, T, h5, h6⟩ := h.blk
    have h6 : off + (F.E.size + G.E.size) ≤ arr.size := h6
    exact ⟨arr, T, h5, by omega⟩
  · obtain ⟨arr, arr', T, k7, k8, k9, k10⟩ := k3
    have hSb : ∀ k, Sb k → S k := fun k hk => h.sub k ((h3 k).2 (.inr hk))
    have hbb : ∀ k, Sb k → k ≠ b := fun k hk e => h.out ((h3 b).2 (.inr (e ▸ hk)))
    have hG : G.own A' w' Sb y.2 d := G.stab h2 (fun k hk => k4 k (hSb k hk) (fun ha => h4 k ha hk) (hbb k hk)) k5
    have hldd := F.len k1
    have := h.put A' w' (fun k => S1' k ∨ Sb k) (y', y.2) (ds ++ d) ⟨ds, d, S1', Sb, rfl, k1, hG, fun k => Iff.rfl, fun k hk hb => h4 k (k6 k hk (hSb k hb)) hb⟩ (fun j u hj => ?_) ⟨arr, arr', T, k7, k8, k9, fun j hj => k10 j ?_⟩ (fun k a1 a2 a3 => k4 k a1 (fun ha => a2 ((h3 k).2 (.inl ha))) a3) k5 (fun k a1 a2 => a1.elim (fun a => (h3 k).2 (.inl (k6 k a a2))) fun a => (h3 k).2 (.inr a))
    · rw [set_eq h3 h.sub h4] at this
      exact this
    · by_cases hjl : j < ds.length
      · rw [List.getElem?_append_left hjl] at hj
        exact k2 j u hj
      · rw [List.getElem?_append_right (by omega)] at hj
        have hc := h.at' j u (by rw [List.getElem?_append_right (by omega), hlc, ← hldd]; exact hj)
        rw [k7.cell] at hc
        rw [k8.cell, k10 (off + j) (.inr (by omega))]
        exact hc
    · have hj : j < off ∨ off + (F.E.size + G.E.size) ≤ j := hj
      omega
theorem Hole.snd {b off : Nat} {y : α × β} {S1 : Nat → Prop} {cs : List Value} {Q : α × β → Pw} (h : Hole (oPr F G) A w S b off y S1 cs Q) : ∃ Sb cb, Hole G A w S b (off + F.E.size) y.2 Sb cb (fun z => Q (y.1, z)) := by
  obtain ⟨c, d, Sa, Sb, rfl, h1, h2, h3, h4⟩ := h.own
  have hlc := F.len h1
  have hld := G.len h2
  refine ⟨Sb, d, h2, fun j u hj => ?_, h.inb, fun hb => h.out ((h3 b).2 (.inr hb)), fun k hk => h.sub k ((h3 k).2 (.inr hk)), ?_, fun A' w' S1' y' ds k1 k2 k3 k4 k5 k6 => ?_⟩
  · have := h.at' (F.E.size + j) u (by rw [List.getElem?_append_right (by omega), hlc, Nat.add_sub_cancel_left]; exact hj)
    rwa [← Nat.add_assoc] at this
  · obtain ⟨arr, T, h5, h6⟩ := h.blk
    have h6 : off + (F.E.size + G.E.size) ≤ arr.size := h6
    exact ⟨arr, T, h5, by omega⟩
  · obtain ⟨arr, arr', T, k7, k8, k9, k10⟩ := k3
    have hSa : ∀ k, Sa k → S k := fun k hk => h.sub k ((h3 k).2 (.inl hk))
    have hba : ∀ k, Sa k → k ≠ b := fun k hk e => h.out ((h3 b).2 (.inl (e ▸ hk)))
    have hF : F.own A' w' Sa y.1 c := F.stab h1 (fun k hk => k4 k (hSa k hk) (fun hb => h4 k hk hb) (hba k hk)) k5
    have hldd := G.len k1
    have := h.put A' w' (fun k => S1' k ∨ Sa k) (y.1, y') (c ++ ds) ⟨c, ds, Sa, S1', rfl, hF, k1, fun k => Or.comm, fun k hk hb => h4 k hk (k6 k hb (hSa k hk))⟩ (fun j u hj => ?_) ⟨arr, arr', T, k7, k8, k9, fun j hj => k10 j ?_⟩ (fun k a1 a2 a3 => k4 k a1 (fun ha => a2 ((h3 k).2 (.inr ha))) a3) k5 (fun k a1 a2 => a1.elim (fun a => (h3 k).2 (.inr (k6 k a a2))) fun a => (h3 k).2 (.inl a))
    · rw [set_eq (fun k => (h3 k).trans Or.comm) h.sub (fun k a b => h4 k b a)] at this
      exact this
    · by_cases hjl : j < c.length
      · rw [List.getElem?_append_left hjl] at hj
        have hc := h.at' j u (by rw [List.getElem?_append_left hjl]; exact hj)
        rw [k7.cell] at hc
        rw [k8.cell, k10 (off + j) (.inl (by omega))]
        exact hc
      · rw [List.getElem?_append_right (by omega)] at hj
        have := k2 (j - c.length) u hj
        rwa [show off + F.E.size + (j - c.length) = off + j by omega] at this
    · have hj : j < off ∨ off + (F.E.size + G.E.size) ≤ j := hj
      omega
theorem Hole.bx {b off : Nat} {y : α} {S1 : Nat → Prop} {cs : List Value} {Q : α → Pw} (h : Hole (oBx F) A w S b off y S1 cs Q) : Hole F A w S b off y S1 cs Q :=
  ⟨h.own, h.at', h.inb, h.out, h.sub, h.blk, h.put⟩
theorem VHole.elem {T : TypeId} {xs : List α} {S1 : Nat → Prop} {cs : List Value} {Q : List α → Pw} (h : VHole (oSl T F) A w S cs xs S1 Q) {i : Nat} {x : α} (hx : xs[i]? = some x) :
    ∃ g n c S2 ds, cs = [.slice (some ⟨g, 0, none⟩) n c] ∧ Hole F A w S g (i * F.E.size) x S2 ds (fun z => Q (xs.set i z)) := by
  have hi := (List.getElem?_eq_some_iff.1 hx).1
  rcases h.own with ⟨_, rfl, _⟩ | ⟨g, c, arr, Si, rfl, h1, h2, h3, h4, h5⟩
  · simp at hi
  · obtain ⟨ds, h6, h7⟩ := h5.el i x hx
    have hSi : ∀ j k, j < xs.length → Si j k → S1 k := fun j k hj hk => (h5.set k).2 (.inr ⟨j, hj, hk⟩)
    have hgS : S1 g := (h5.set g).2 (.inl rfl)
    have hrow : ∀ j, j < xs.length → j * F.E.size + F.E.size ≤ arr.size := fun j hj => by
      rw [h4]
      have := Nat.mul_le_mul_right F.E.size (show j + 1 ≤ c by omega)
      rwa [Nat.add_mul, Nat.one_mul] at this
    refine ⟨g, xs.length, c, Si i, ds, rfl, h6, fun j u hj => ?_, h.sub g hgS, h5.out i hi, fun k hk => h.sub k (hSi i k hi hk), ⟨arr, T, h1, hrow i hi⟩, fun A' w' S1' y' es k1 k2 k3 k4 k5 k6 => ?_⟩
    · rw [h1.cell]
      exact h7 j u hj
    · obtain ⟨arr0, arr', T', k7, k8, k9, k10⟩ := k3
      obtain ⟨rfl, rfl⟩ : arr = arr0 ∧ T = T' := by
        have := h1.symm.trans k7
        injection this with this
        injection this with e1 e2
        exact ⟨e1, e2⟩
      have hes := F.len k1
      let Sj : Nat → Nat → Prop := fun j => if j = i then S1' else Si j
      have hset : (fun k => (S k ∧ ¬ Si i k) ∨ S1' k) = fun k => (S k ∧ ¬ S1 k) ∨ (k = g ∨ ∃ j, j < xs.length ∧ Sj j k) := by
        funext k
        rw [eq_iff_iff]
        constructor
        · rintro (⟨a, b⟩ | a)
          · by_cases hs1 : S1 k
            · rcases (h5.set k).1 hs1 with e | ⟨j, hj, hk⟩
              · exact .inr (.inl e)
              · have hne : j ≠ i := fun e => b (e ▸ hk)
                exact .inr (.inr ⟨j, hj, by simp only [Sj, if_neg hne]; exact hk⟩)
            · exact .inl ⟨a, hs1⟩
          · exact .inr (.inr ⟨i, hi, by simp only [Sj, if_pos]; exact a⟩)
        · rintro (⟨a, b⟩ | a | ⟨j, hj, a⟩)
          · exact .inl ⟨a, fun hk => b (hSi i k hi hk)⟩
          · exact .inl ⟨a ▸ h.sub g hgS, fun hk => h5.out i hi (a ▸ hk)⟩
          · by_cases e : j = i
            · simp only [Sj, if_pos e] at a
              exact .inr a
            · simp only [Sj, if_neg e] at a
              exact .inl ⟨h.sub k (hSi j k hj a), fun hk => h5.dis j i k hj hi e a hk⟩
      rw [hset]
      refine h.put A' w' _ (xs.set i y') (.inr ⟨g, c, arr', Sj, by rw [List.length_set], k8, by rw [List.length_set]; exact h2, h3, by rw [k9]; exact h4, ⟨fun j z hz => ?_, fun j j' k hj hj' hne a b => ?_, fun j hj => ?_, fun k => ?_⟩⟩) (fun k a b => ?_) k5 (fun k a b => ?_)
      · have hj : j < xs.length := by have := (List.getElem?_eq_some_iff.1 hz).1; rwa [List.length_set] at this
        by_cases e : j = i
        · subst e
          rw [List.getElem?_set_self hi] at hz
          injection hz with hz
          subst hz
          refine ⟨es, by simp only [Sj, if_pos]; exact k1, fun q u hq => ?_⟩
          have := k2 q u hq
          rwa [k8.cell] at this
        · rw [List.getElem?_set_ne (Ne.symm e)] at hz
          obtain ⟨fs, a1, a2⟩ := h5.el j z hz
          have hfs := F.len a1
          refine ⟨fs, ?_, fun q u hq => ?_⟩
          · simp only [Sj, if_neg e]
            refine F.stab a1 (fun k hk => k4 k (h.sub k (hSi j k hj hk)) (fun hk' => h5.dis j i k hj hi e hk hk') fun e' => h5.out j hj (e' ▸ hk)) k5
          · have hq' := (List.getElem?_eq_some_iff.1 hq).1
            rw [k10 _ ?_]
            · exact a2 q u hq
            · rcases Nat.lt_or_ge j i with hlt | hge
              · left
                have := Nat.mul_le_mul_right F.E.size (show j + 1 ≤ i by omega)
                rw [Nat.add_mul, Nat.one_mul] at this
                omega
              · right
                have := Nat.mul_le_mul_right F.E.size (show i + 1 ≤ j by omega)
                rw [Nat.add_mul, Nat.one_mul] at this
                omega
      · rw [List.length_set] at hj hj'
        simp only [Sj] at a b
        split at a <;> split at b
        · omega
        · rename_i e1 e2
          exact h5.dis j' i k hj' hi e2 b (k6 k a (h.sub k (hSi j' k hj' b)))
        · rename_i e1 e2
          exact h5.dis j i k hj hi e1 a (k6 k b (h.sub k (hSi j k hj a)))
        · exact h5.dis j j' k hj hj' hne a b
      · rw [List.length_set] at hj
        simp only [Sj]
        split
        · exact fun hg => h5.out i hi (k6 g hg (h.sub g hgS))
        · exact h5.out j hj
      · rw [List.length_set]
      · exact k4 k a (fun hk => b (hSi i k hi hk)) fun e => b (e ▸ hgS)
      · rcases a with rfl | ⟨j, hj, a⟩
        · exact hgS
        · simp only [Sj] at a
          split at a
          · exact hSi i k hi (k6 k a b)
          · exact hSi j k hj a
theorem VHole.ptr {T : TypeId} {x : α} {S1 : Nat → Prop} {cs : List Value} {Q : α → Pw} (h : VHole (oPt T F) A w S cs x S1 Q) :
    ∃ b S2 ds, cs = [.pointer (some ⟨b, 0, none⟩)] ∧ Hole F A w S b 0 x S2 ds Q := by
  obtain ⟨b, ds, S2, rfl, h1, h2, h3, h4⟩ := h.own
  have hl := F.len h2
  have hb1 : S1 b := (h4 b).2 (.inl rfl)
  refine ⟨b, S2, ds, rfl, h2, fun j u hj => ?_, h.sub b hb1, h3, fun k hk => h.sub k ((h4 k).2 (.inr hk)), ⟨_, T, h1, by simp [hl]⟩, fun A' w' S1' y' es k1 k2 k3 k4 k5 k6 => ?_⟩
  · rw [h1.cell, Nat.zero_add]
    simpa using hj
  · obtain ⟨arr0, arr', T', k7, k8, k9, k10⟩ := k3
    obtain ⟨e1, rfl⟩ : ds.toArray = arr0 ∧ T = T' := by
      have := h1.symm.trans k7
      injection this with this
      injection this with e1 e2
      exact ⟨e1, e2⟩
    subst e1
    have hes := F.len k1
    have harr : arr' = es.toArray := by
      apply Array.ext_getElem?
      intro j
      by_cases hj : j < es.length
      · have := k2 j _ (List.getElem?_eq_getElem hj)
        rw [k8.cell, Nat.zero_add] at this
        rw [this]
        simp [hj]
      · rw [Array.getElem?_eq_none (by rw [k9]; simp; omega), Array.getElem?_eq_none (by simp; omega)]
    have hset : (fun k => (S k ∧ ¬ S2 k) ∨ S1' k) = fun k => (S k ∧ ¬ S1 k) ∨ (k = b ∨ S1' k) := by
      funext k
      rw [eq_iff_iff]
      constructor
      · rintro (⟨a, c⟩ | a)
        · by_cases e : k = b
          · exact .inr (.inl e)
          · exact .inl ⟨a, fun h => ((h4 k).1 h).elim e c⟩
        · exact .inr (.inr a)
      · rintro (⟨a, c⟩ | a | a)
        · exact .inl ⟨a, fun h => c ((h4 k).2 (.inr h))⟩
        · exact .inl ⟨a ▸ h.sub b hb1, fun h => h3 (a ▸ h)⟩
        · exact .inr a
    rw [hset]
    refine h.put A' w' _ y' ⟨b, es, S1', rfl, harr ▸ k8, k1, fun hb => h3 (k6 b hb (h.sub b hb1)), fun k => Iff.rfl⟩ (fun k a c => k4 k a (fun hk => c ((h4 k).2 (.inr hk))) fun e => c (e ▸ hb1)) k5 (fun k a c => ?_)
    rcases a with rfl | a
    · exact hb1
    · exact (h4 k).2 (.inr (k6 k a c))
end
end
end Go.Proofs.Ytmkgocdgkdglnaa
/- Trees as resources; operations at places in them. No statement of the seat is proved here. -/
namespace Go.Proofs.Ytmkgocdgkdglnaa
open Go.RowKit
set_option linter.unusedVariables false

abbrev Pin := Value × List Value
/-- cells whose content is known -/
def PinOK (w : World) (S : Nat → Prop) (q : Pin) : Prop := ∃ b o, q.1 = .pointer (some ⟨b, o, none⟩) ∧ S b ∧ ∀ (j : Nat) u, q.2[j]? = some u → w.cell? ⟨b, o + j, none⟩ = some u
/-- the value is a tree that reads x; some of its cells are known -/
def trP {α : Type} (F : OE α) (x : α) (pins : List Pin) : SP where
  P := fun A w S u => (∃ cs, u = F.E.val cs ∧ F.own A w S x cs) ∧ ∀ q, q ∈ pins → PinOK w S q
  lt := fun ⟨⟨_, _, h⟩, _⟩ hk => F.lt h hk
  stab := fun ⟨⟨cs, h1, h2⟩, h3⟩ hb hs => ⟨⟨cs, h1, F.stab h2 hb hs⟩, fun q hq => let ⟨b, o, h4, h5, h6⟩ := h3 q hq; ⟨b, o, h4, h5, fun j u hj => (World.cell?_of_block (hb b h5)).trans (h6 j u hj)⟩⟩
abbrev trR {α : Type} (K : Nat → Prop) (F : OE α) (x : α) (pins : List Pin) : Res := .gen K (trP F x pins)
/-- from block B on -/
abbrev geB (B : Nat) : Nat → Prop := fun k => B ≤ k
/-- an address further on -/
def padd : Value → Nat → Value
  | .pointer (some a), k => .pointer (some ⟨a.block, a.off + k, none⟩)
  | v, _ => v
theorem padd_zero {u : Value} (h : ∃ b o, u = .pointer (some ⟨b, o, none⟩)) : padd u 0 = u := by
  obtain ⟨b, o, rfl⟩ := h
  rfl
theorem padd_vptr (u : Value) (m k : Nat) : padd (vptr u m) k = vptr u (m + k) := by
  unfold vptr
  split
  · unfold padd
    simp [Nat.add_assoc]
  · rfl
theorem val_cells {α : Type} {E : Enc α} {A : Av} {w : World} {x : α} {cs : List Value} (h : E.rep A w x cs) : (E.val cs).cells.toList = cs := by
  have hl := E.len h
  cases ha : E.agg with
  | true => simp [Enc.val, ha, Value.cells]
  | false =>
    have h1 := E.one ha
    rw [h1] at hl
    match cs, hl, h with
    | [c], _, h =>
      have h2 := E.oc h c (by simp)
      have : (Enc.val E [c]).cells = #[c] := by
        simp only [Enc.val, ha]
        cases c <;> first | rfl | cases h2
      rw [this]
section
variable {α β γ : Type} {F : OE α} {G : OE β} {A A0 : Av} {w : World} {S : Nat → Prop}
theorem OE.rep0 (F : OE α) {x : α} {cs : List Value} (h : F.own A w S x cs) : F.E.rep av0 w x cs := F.rep h (fun _ _ h => h.elim) fun _ _ _ h => h
theorem OE.cells (F : OE α) {x : α} {cs : List Value} (h : F.own A w S x cs) : (F.E.val cs).cells.toList = cs := val_cells (F.rep0 h)
theorem tr_root {x : α} {pins : List Pin} {u : Value} (h : (trP F x pins).P A w S u) : VHoleA F A w S u x (fun z A w S => (trP F z []).P A w S u) := by
  obtain ⟨⟨cs, rfl, h1⟩, _⟩ := h
  have := VHole.root h1
  exact ⟨S, cs, rfl, this.own, this.sub, fun A' w' S1' y' k1 k2 k3 k4 => ⟨⟨cs, rfl, this.put A' w' S1' y' k1 k2 k3 k4⟩, fun q hq => by cases hq⟩⟩
theorem VHoleA.elem [Inhabited α] {T : TypeId} {v : Value} {xs : List α} {Q : List α → Pw} (h : VHoleA (oSl T F) A w S v xs Q) {i : Int} {m : Nat} (hi : inR i xs.length = true) (hm : i.toNat * F.E.size = m) : HoleA F A w S (vptr v m) (gtD xs i) (fun z => Q (xs.set i.toNat z)) := by
  obtain ⟨S1, cs, rfl, h⟩ := h
  obtain ⟨g, n, c, S2, ds, rfl, h2⟩ := h.elem (getD_at hi)
  exact ⟨g, m, S2, ds, by show Value.pointer _ = _; rw [Nat.zero_add], hm ▸ h2⟩
theorem VHoleA.len {T : TypeId} {v : Value} {xs : List α} {Q : List α → Pw} (h : VHoleA (oSl T F) A w S v xs Q) : ∃ a c, v = .slice a xs.length c ∧ (0 < xs.length → ∃ b, a = some ⟨b, 0, none⟩) := by
  obtain ⟨S1, cs, rfl, h⟩ := h
  rcases h.own with ⟨rfl, rfl, _⟩ | ⟨g, c, arr, Si, rfl, _⟩
  · exact ⟨none, 0, rfl, fun h => absurd h (by simp)⟩
  · exact ⟨_, c, rfl, fun _ => ⟨g, rfl⟩⟩
theorem HoleA.fst {a : Value} {y : α × β} {Q : α × β → Pw} (h : HoleA (oPr F G) A w S a y Q) : HoleA F A w S a y.1 (fun z => Q (z, y.2)) := by
  obtain ⟨b, off, S1, cs, rfl, h⟩ := h
  obtain ⟨Sa, ca, h⟩ := h.fst
  exact ⟨b, off, Sa, ca, rfl, h⟩
theorem HoleA.snd {a a' : Value} {y : α × β} {Q : α × β → Pw} (h : HoleA (oPr F G) A w S a y Q) (ha : padd a F.E.size = a') : HoleA G A w S a' y.2 (fun z => Q (y.1, z)) := by
  obtain ⟨b, off, S1, cs, rfl, h⟩ := h
  obtain ⟨Sa, ca, h⟩ := h.snd
  exact ⟨b, off + F.E.size, Sa, ca, ha.symm, h⟩
theorem HoleA.bx {a : Value} {y : α} {Q : α → Pw} (h : HoleA (oBx F) A w S a y Q) : HoleA F A w S a y Q := by
  obtain ⟨b, off, S1, cs, rfl, h⟩ := h
  exact ⟨b, off, S1, cs, rfl, h.bx⟩
theorem HoleA.ad {a : Value} {y : α} {Q : α → Pw} (h : HoleA F A w S a y Q) : ∃ b off, a = .pointer (some ⟨b, off, none⟩) := let ⟨b, off, _, _, e, _⟩ := h; ⟨b, off, e⟩
/-- what stands at a place -/
theorem HoleA.open {a : Value} {y : α} {Q : α → Pw} (h : HoleA F A w S a y Q) : ∃ cs, cs.length = F.E.size ∧ PinOK w S (a, cs) := by
  obtain ⟨b, off, S1, cs, rfl, h⟩ := h
  exact ⟨cs, F.len h.own, b, off, rfl, h.inb, h.at'⟩
theorem HoleA.open1 {a : Value} {y : α} {Q : α → Pw} (h : HoleA F A w S a y Q) (ha : F.E.agg = false) : ∃ v, PinOK w S (a, [v]) := by
  obtain ⟨cs, hl, hp⟩ := h.open
  rw [F.E.one ha] at hl
  match cs, hl, hp with
  | [c], _, hp => exact ⟨c, hp⟩
theorem HoleA.pinS {a : Value} {y : α} {Q : α → Pw} {S' : Nat → Prop} {ds : List Value} (h : HoleA F A w S a y Q) (hp : PinOK w S' (a, ds)) (hl : ds.length = F.E.size) : VHoleA F A w S (F.E.val ds) y Q := by
  obtain ⟨b, off, S1, cs, rfl, h⟩ := h
  obtain ⟨b', o', e, _, hc⟩ := hp
  injection e with e
  injection e with e
  injection e with e1 e2
  subst e1 e2
  have hl' := F.len h.own
  have : ds = cs := by
    apply List.ext_getElem?
    intro j
    by_cases hj : j < ds.length
    · have h1 := hc j _ (List.getElem?_eq_getElem hj)
      have hj' : j < cs.length := by omega
      have h2 := h.at' j _ (List.getElem?_eq_getElem hj')
      rw [List.getElem?_eq_getElem hj, List.getElem?_eq_getElem hj']
      exact h1.symm.trans h2
    · rw [List.getElem?_eq_none (by omega), List.getElem?_eq_none (by omega)]
  subst this
  exact ⟨S1, ds, rfl, h.v⟩
theorem HoleA.pin {a v : Value} {y : α} {Q : α → Pw} {S' : Nat → Prop} (h : HoleA F A w S a y Q) (hp : PinOK w S' (a, [v])) (ha : F.E.agg = false) : VHoleA F A w S v y Q := by
  have := h.pinS hp (by rw [F.E.one ha]; rfl)
  simpa [Enc.val, ha] using this
theorem VHoleA.ptr {T : TypeId} {u : Value} {y : α} {Q : α → Pw} (h : VHoleA (oPt T F) A w S u y Q) : HoleA F A w S u y Q := by
  obtain ⟨S1, cs, rfl, h⟩ := h
  obtain ⟨b, S2, ds, rfl, h2⟩ := h.ptr
  exact ⟨b, 0, S2, ds, rfl, h2⟩
/-- a part of a struct that stands in a register -/
theorem VHoleA.own {v : Value} {y : α} {Q : α → Pw} (h : VHoleA F A w S v y Q) : ∃ S1 cs, v = F.E.val cs ∧ F.own A w S1 y cs ∧ (∀ k, S1 k → S k) := let ⟨S1, cs, e, h⟩ := h; ⟨S1, cs, e, h.own, h.sub⟩

/-! the objects -/
theorem IniOK.repin {ini : List Ob} (h : IniOK ini A w) (i : Nat) {u : Value} {K : Nat → Prop} {p p' : SP} (hi : ini[i]? = some ⟨u, S, .gen K p⟩) (hp : p.P A w S u → p'.P A w S u) : IniOK (ini.set i ⟨u, S, .gen K p'⟩) A w := by
  have hlt := (List.getElem?_eq_some_iff.1 hi).1
  have hset : ∀ (j : Nat) q, (ini.set i ⟨u, S, .gen K p'⟩)[j]? = some q → (j = i ∧ q = ⟨u, S, .gen K p'⟩) ∨ (j ≠ i ∧ ini[j]? = some q) := fun j q hq => by
    by_cases e : j = i
    · subst e
      rw [List.getElem?_set_self hlt] at hq
      injection hq with hq
      exact .inl ⟨rfl, hq.symm⟩
    · rw [List.getElem?_set_ne (Ne.symm e)] at hq
      exact .inr ⟨e, hq⟩
  refine ⟨fun j q hq => ?_, fun j q hq => ?_, fun j j' q q' hq hq' hne => ?_⟩
  · rcases hset j q hq with ⟨rfl, rfl⟩ | ⟨_, hq⟩
    · exact ⟨trivial, (h.ok j _ hi).2⟩
    · exact h.ok j q hq
  · rcases hset j q hq with ⟨rfl, rfl⟩ | ⟨_, hq⟩
    · have := h.own j _ hi
      exact ⟨this.1, hp this.2⟩
    · exact h.own j q hq
  · have key : ∀ (j : Nat) q, (ini.set i ⟨u, S, .gen K p'⟩)[j]? = some q → ∃ q0, ini[j]? = some q0 ∧ q0.S = q.S := fun j q hq => by
      rcases hset j q hq with ⟨rfl, rfl⟩ | ⟨_, hq⟩
      · exact ⟨_, hi, rfl⟩
      · exact ⟨q, hq, rfl⟩
    obtain ⟨q0, h1, h2⟩ := key j q hq
    obtain ⟨q1, h3, h4⟩ := key j' q' hq'
    rw [← h2, ← h4]
    exact h.dis j j' q0 q1 h1 h3 hne
theorem trP.pin {x : α} {pins : List Pin} {u : Value} {q : Pin} (hq : PinOK w S q) (h : (trP F x pins).P A w S u) : (trP F x (q :: pins)).P A w S u :=
  ⟨h.1, fun q' hq' => by
    rcases List.mem_cons.1 hq' with rfl | hq'
    · exact hq
    · exact h.2 q' hq'⟩
theorem trP.nopin {x : α} {pins : List Pin} {u : Value} (h : (trP F x pins).P A w S u) : (trP F x []).P A w S u := ⟨h.1, fun q hq => by cases hq⟩
/-- a plain row as a tree -/
theorem own_of_vec {E : Enc α} {B : Nat} {T : TypeId} {u : Value} {xs : List α} (h : Vec E A B T w u xs) (hT : T ≠ tByte) : ∃ cs, u = (oSl T (oRd E)).E.val cs ∧ (oSl T (oRd E)).own A w (ownsB u) xs cs := by
  obtain ⟨cs, hown, hf⟩ := h
  rcases hown.2 with ⟨rfl, h0⟩ | ⟨g, c, arr, rfl, hb, hg, hnc, hcm, hcs, htk⟩
  · obtain rfl : xs = [] := List.eq_nil_of_length_eq_zero h0
    exact ⟨[.slice none 0 0], rfl, .inl ⟨rfl, rfl, fun k hk => hk⟩⟩
  · refine ⟨[.slice (some ⟨g, 0, none⟩) xs.length c], rfl, .inr ⟨g, c, arr, fun _ _ => False, rfl, hg.plain hT, hnc, hcm, hcs, ⟨fun i x hx => ?_, fun _ _ _ _ _ _ h => h.elim, fun _ _ h => h, fun k => ⟨fun hk => .inl (Eq.symm hk), fun hk => hk.elim (fun e => Eq.symm e) fun ⟨_, _, h⟩ => h.elim⟩⟩⟩⟩
    obtain ⟨ds, h1, h2⟩ := hf.2 i x hx
    refine ⟨ds, ⟨fun _ h => h, h1⟩, fun j u hj => ?_⟩
    have := h2 j u hj
    rw [← htk, List.getElem?_take] at this
    show arr[i * E.size + j]? = some u
    split at this
    · simpa using this
    · cases this
theorem vec_of_own {E : Enc α} {B : Nat} {T : TypeId} {v : Value} {xs : List α} {cs : List Value} (h : (oSl T (oRd E)).own A w S xs cs) (hv : v = (oSl T (oRd E)).E.val cs) (hB : ∀ k, S k → B ≤ k) : Vec E A B T w v xs ∧ S = ownsB v := by
  subst hv
  rcases h with ⟨rfl, rfl, h⟩ | ⟨g, c, arr, Si, rfl, h1, h2, h3, h4, h5⟩
  · refine ⟨vec_nil, ?_⟩
    funext k
    rw [eq_iff_iff]
    exact ⟨fun hk => (h k hk).elim, fun hk => hk.elim⟩
  · have hsi : ∀ i k, i < xs.length → ¬ Si i k := fun i k hi hk => by
      obtain ⟨ds, h6, _⟩ := h5.el i _ (List.getElem?_eq_getElem hi)
      exact h6.1 k hk
    refine ⟨⟨arr.toList.take (xs.length * E.size), ⟨?_, .inr ⟨g, c, arr, rfl, hB g ((h5.set g).2 (.inl rfl)), BlkM.of h1, h2, h3, h4, rfl⟩⟩, ?_, fun i x hx => ?_⟩, ?_⟩
    · have := Nat.mul_le_mul_right E.size h2
      have h4' : arr.toList.length = c * E.size := by rw [Array.length_toList]; exact h4
      rw [List.length_take, h4']
      exact Nat.min_eq_left this
    · have := Nat.mul_le_mul_right E.size h2
      have h4' : arr.toList.length = c * E.size := by rw [Array.length_toList]; exact h4
      rw [List.length_take, h4']
      exact Nat.min_eq_left this
    · obtain ⟨ds, h6, h7⟩ := h5.el i x hx
      refine ⟨ds, h6.2, fun j u hj => ?_⟩
      have hi := (List.getElem?_eq_some_iff.1 hx).1
      have hj' := (List.getElem?_eq_some_iff.1 hj).1
      rw [E.len h6.2] at hj'
      have := Nat.mul_le_mul_right E.size (show i + 1 ≤ xs.length by omega)
      rw [Nat.add_mul, Nat.one_mul] at this
      rw [List.getElem?_take, if_pos (by omega), Array.getElem?_toList]
      exact h7 j u hj
    · funext k
      rw [eq_iff_iff]
      refine ⟨fun hk => ?_, fun hk => (h5.set k).2 (.inl (Eq.symm hk))⟩
      rcases (h5.set k).1 hk with rfl | ⟨i, hi, hk⟩
      · exact rfl
      · exact (hsi i k hi hk).elim
end

/-! operations -/
section
variable {P : Program} {R : Reg} {w : World} {d : Option Nat} {t : TypeId} {p : String} {af : Array Edge} {g : Option (Nat × Bool)} {A : Av} {α β : Type} {S : Nat → Prop}
variable {E : Enc α} {F : OE α} {x ix : Operand} {T e : TypeId} {K : Nat → Prop} {u a v : Value}
theorem stp_swapS {w' : World} {S'' : Nat → Prop} (hav : ∀ k, S k → ∀ o, A k o) (hc : Ch S w w') (hS : ∀ k, k < w.heap.size → S'' k → S k) : Stp A (swapS A S S'') w w' :=
  ⟨hc.size, fun b o v hv hn => (World.cell?_of_block (w := w) (hc.block b (cell_lt' hv) fun h => hn (hav b h o))).trans hv, fun b o hb h => h.elim (·.1) fun h => hav b (hS b hb h) o⟩
theorem of_len_tr {xs : List α} {Q : List α → Pw} {A' : Av} {w0 : World} {T' : TypeId} (h : VHoleA (oSl T' F) A' w0 S v xs Q) (hx : evalR R x = v) (hu : P.underlying T = some (.slice e)) : OpF P ⟨d, .call ⟨.builtin .len, #[x], #[T]⟩, t, p, af, g⟩ R w (.raw (.int .i64 (xs.length : Int))) := by
  obtain ⟨ad, cap, rfl, _⟩ := h.len
  exact opr_val (w' := w) (by simp [execOp, resolve, invoke, builtin, Builtin.len_, hx, underlying, hu, goInt]) ⟨rfl, Fr.refl _⟩
theorem of_indexAddr_tr {k : IntKind} {i : Int} {xs : List α} {Q : List α → Pw} {A' : Av} {w0 : World} {T' : TypeId} {s m : Nat} (h : VHoleA (oSl T' F) A' w0 S v xs Q) (hx : evalR R x = v) (hi : evalR R ix = .int k i) (hu : P.underlying T = some (.slice e)) (hsz : ∀ w, (sizeOf e).run P w = .ok s w) (hr : inR i xs.length = true) (hm : i.toNat * s = m) :
    OpF P ⟨d, .indexAddr T x ix, t, p, af, g⟩ R w (.raw (vptr v m)) := by
  subst hm
  obtain ⟨ad, cap, rfl, hb⟩ := h.len
  obtain ⟨i0, i1⟩ := inR_iff.1 hr
  obtain ⟨b, rfl⟩ := hb (by omega)
  refine opr_val (v := .pointer (some ⟨b, 0 + i.toNat * s, none⟩)) (w' := w) ?_ ⟨rfl, Fr.refl _⟩
  have hin : i < (xs.length : Int) := i1
  simp [execOp, Instr.indexAt, hx, hi, asIntOf, underlying, hu, i0, hin, hsz, addr_add]
theorem of_fieldAddr_tr {sn kn ft off sz : Nat} {a' : Value} (h : ∃ b off, a = .pointer (some ⟨b, off, none⟩)) (hx : evalR R x = a) (hf : FldF P sn kn ft off) (hsz : ∀ w, (sizeOf ft).run P w = .ok sz w) (h0 : sz ≠ 0) (ha : padd a off = a') :
    OpF P ⟨d, .fieldAddr sn x kn, t, p, af, g⟩ R w (.raw a') := by
  obtain ⟨b, o, rfl⟩ := h
  subst ha
  exact opr_val (v := .pointer (some ⟨b, o + off, none⟩)) (w' := w) (by simp [execOp, run_fieldAt (w := w) hf hsz h0 hx]) ⟨rfl, Fr.refl _⟩
theorem of_load_pin (hp : PinOK w S (a, [v])) (hx : evalR R x = a) (hag : ∀ w, (isAgg T).run P w = .ok false w) (hsz : ∀ w, (sizeOf T).run P w = .ok 1 w) : OpF P ⟨d, .load T x, t, p, af, g⟩ R w (.raw v) := by
  obtain ⟨b, o, rfl, _, hc⟩ := hp
  refine opr_val (v := v) (w' := w) ?_ ⟨rfl, Fr.refl _⟩
  have := run_loadVar (P := P) (w := w) (b := b) (o := o) (cs := [v]) hag hsz rfl (fun _ => rfl) hc
  simp [execOp, Instr.loadAt, Instr.sureAddr, hx, this]
theorem of_load_pinS {cs : List Value} (hp : PinOK w S (a, cs)) (hl : cs.length = F.E.size) (hx : evalR R x = a) (hag : ∀ w, (isAgg T).run P w = .ok F.E.agg w) (hsz : ∀ w, (sizeOf T).run P w = .ok F.E.size w) : OpF P ⟨d, .load T x, t, p, af, g⟩ R w (.raw (F.E.val cs)) := by
  obtain ⟨b, o, rfl, _, hc⟩ := hp
  refine opr_val (v := F.E.val cs) (w' := w) ?_ ⟨rfl, Fr.refl _⟩
  have := run_loadVar (P := P) (w := w) (b := b) (o := o) (cs := cs) hag hsz hl F.E.one hc
  simp [execOp, Instr.loadAt, Instr.sureAddr, hx, this, Enc.val]
/-- a store at a place: a tree of its own, or a plain value (Sv empty) -/
theorem took_hput {ad : Operand} {T' : TypeId} {y y' : α} {Q : α → Pw} {Sv ST : Nat → Prop} {cs : List Value} {q : SP} (h : HoleA F A w S a y Q) (hv : F.own A w Sv y' cs) (hxv : evalR R x = F.E.val cs) (had : evalR R ad = a) (hd : ∀ k, S k → ¬ Sv k) (hST : ∀ k, ST k ↔ S k ∨ Sv k) (hav : ∀ k, ST k → ∀ o, A k o)
    (hB : ∀ k, ST k → K k) (hsz : ∀ w, (sizeOf T').run P w = .ok F.E.size w) (hQ : ∀ A w S, Q y' A w S → q.P A w S u) : OpR P ⟨none, .store T' ad x, t, p, af, g⟩ R w (TookS A false u ST (.gen K q) (fun _ => .any) w) := by
  obtain ⟨b, off, S1, es, rfl, h⟩ := h
  obtain ⟨arr, T0, hb, hle⟩ := h.blk
  have hcs := F.len hv
  have hcl := F.cells hv
  have hvb : ¬ Sv b := hd b h.inb
  obtain ⟨w', h1, h2, h3⟩ := run_storeVar (P := P) (o := off) (v := evalR R x) hsz (by rw [hxv, hcl]; exact F.oc hv) (by rw [hxv, ← Array.length_toList, hcl]; exact hcs) hb hle
  rw [hxv, hcl] at h3
  refine opr_skip (w' := w') ?_ ?_
  · simp only [execOp, Instr.storeAt, Instr.sureAddr, had]
    simp [h1]
  · have hch : Ch ST w w' := (h2.ch).trans (Ch.refl (fun _ => False) w') (fun _ _ h => h.elim) |> fun h => ⟨h.os, h.tape, h.output, h.size, fun k hk hn => h.block k hk fun e => hn ((hST k).2 (.inl (e ▸ ‹Hole F A w S b off y S1 es Q›.inb))), h.drawn⟩
    have hsub : ∀ k, k < w.heap.size → ((S k ∧ ¬ S1 k) ∨ Sv k) → ST k := fun k _ hk => (hST k).2 (hk.elim (fun h => .inl h.1) .inr)
    have hst := stp_swapS hav hch hsub
    have hne : ∀ k, Sv k → k ≠ b := fun k hk e => hvb (e ▸ hk)
    have hv' : F.own (swapS A ST fun k => (S k ∧ ¬ S1 k) ∨ Sv k) w' Sv y' cs := F.stab hv (fun k hk => h2.block k (hne k hk)) hst
    have hq := h.put _ w' Sv y' cs hv' (fun j u hj => ?_) ⟨arr, _, T0, hb, h3, lay_size _ _ _, fun j hj => ?_⟩ (fun k _ _ hk => h2.block k hk) hst (fun k a b => (hd k b a).elim)
    · refine ⟨u, fun k => (S k ∧ ¬ S1 k) ∨ Sv k, rfl, hch, hsub, hst, trivial, ⟨fun k hk => hB k ((hST k).2 (hk.elim (fun h => .inl h.1) .inr)), hQ _ _ _ hq⟩, trivial⟩
    · have hjl := (List.getElem?_eq_some_iff.1 hj).1
      rw [h3.cell, lay_at _ _ _ _ (by omega), if_pos (by omega), Nat.add_sub_cancel_left]
      exact hj
    · rw [lay_at _ _ _ _ (by omega), if_neg (by omega)]
theorem took_hstore {ad : Operand} {T' : TypeId} {y y' : α} {Q : α → Pw} {q : SP} (h : HoleA (oRd E) A w S a y Q) (hx : Rep E A w (evalR R x) y') (had : evalR R ad = a) (hav : ∀ k, S k → ∀ o, A k o) (hB : ∀ k, S k → K k) (hsz : ∀ w, (sizeOf T').run P w = .ok E.size w) (hQ : ∀ A w S, Q y' A w S → q.P A w S u) :
    OpR P ⟨none, .store T' ad x, t, p, af, g⟩ R w (TookS A false u S (.gen K q) (fun _ => .any) w) := by
  obtain ⟨cs, hxv, hr⟩ := hx
  exact took_hput (F := oRd E) (Sv := fun _ => False) (cs := cs) h ⟨fun _ h => h, hr⟩ hxv had (fun _ _ h => h) (fun k => ⟨.inl, fun h => h.elim id False.elim⟩) hav hB hsz hQ
theorem made_allocT {zc : Value} {z : α} (hz : ∀ w, (zeroValue T).run P w = .ok zc w) (hr : ∀ A w, F.own A w (fun _ => False) z zc.cells.toList) (hB : ∀ k, w.heap.size ≤ k → K k) : OpR P ⟨d, .alloc T, t, p, af, g⟩ R w (MadeS A (trR K (oPt T F) z []) (fun _ => .any) w) := by
  have hf := Fr.alloc w (.cells zc.cells T)
  refine opr_val (v := .pointer (some ⟨w.heap.size, 0, none⟩)) (w' := w.alloc (.cells zc.cells T)) ?_ ⟨fun k => k = w.heap.size, hf, fun k hk => Nat.le_of_eq (Eq.symm hk), trivial, ⟨fun k hk => hB k (Nat.le_of_eq (Eq.symm hk)), ⟨[.pointer (some ⟨w.heap.size, 0, none⟩)], rfl, w.heap.size, zc.cells.toList, fun _ => False, rfl, ?_, hr _ _, fun h => h, fun k => ⟨.inl, fun h => h.elim id False.elim⟩⟩, fun q hq => by cases hq⟩, trivial⟩
  · simp [execOp, Instr.alloc, newVar, newRow, hz]
  · have := Blk.new w T zc.cells
    simpa using this
/-- what a variable holds, taken out of it -/
theorem took_loadT {y : α} {pins : List Pin} {T' : TypeId} (h : (trP (oPt T' F) y pins).P A w S u) (hx : evalR R x = u) (hav : ∀ k, S k → ∀ o, A k o) (hB : ∀ k, S k → K k) (hag : ∀ w, (isAgg T).run P w = .ok F.E.agg w) (hsz : ∀ w, (sizeOf T).run P w = .ok F.E.size w) :
    OpR P ⟨d, .load T x, t, p, af, g⟩ R w (TookS A true u S (trR K F y []) (fun _ => .any) w) := by
  obtain ⟨⟨cs, rfl, b, ds, S1, rfl, h1, h2, h3, h4⟩, _⟩ := h
  have hsub : ∀ k, S1 k → S k := fun k hk => (h4 k).2 (.inr hk)
  have hst := stp_swapS (S'' := S1) hav (Ch.refl S w) fun k _ h => hsub k h
  refine opr_val (v := F.E.val ds) (w' := w) ?_ ⟨F.E.val ds, S1, rfl, Ch.refl S w, fun k _ h => hsub k h, hst, trivial, ⟨fun k hk => hB k (hsub k hk), ⟨ds, rfl, F.stab h2 (fun _ _ => rfl) hst⟩, fun q hq => by cases hq⟩, trivial⟩
  have := run_loadVar (P := P) (w := w) (b := b) (o := 0) hag hsz (F.len h2) F.E.one (fun j v hj => by rw [h1.cell, Nat.zero_add]; simpa using hj)
  have hx' : evalR R x = .pointer (some ⟨b, 0, none⟩) := hx
  simp [execOp, Instr.loadAt, Instr.sureAddr, hx', this, Enc.val]
theorem call_run {fn : FuncId} {al : List Operand} {aT : Array TypeId} {K : Value → World → Prop} (hc : ∀ args w, (callFunc fn args).run P w = .ok (.enter fn args) w) (h : Calls P fn (al.map (evalR R)).toArray w fun ed w' => ∃ v, ed = .returned v ∧ K v w') : OpR P ⟨d, .call ⟨.value (.func fn), al.toArray, aT⟩, t, p, af, g⟩ R w K := by
  unfold OpR
  have : (execOp (evalR R) ⟨d, .call ⟨.value (.func fn), al.toArray, aT⟩, t, p, af, g⟩).run P w = .ok (.enter fn (al.map (evalR R)).toArray) w := by
    simp [execOp, resolve, evalR, Deferred.ofValue, invoke, hc]
  rw [this]
  exact h
theorem MadeS.base {K' : Nat → Prop} {q : SP} {f : Av → Fact} {v : Value} {w' : World} (h : MadeS A (.gen K' q) f w v w') (hK : ∀ k, K' k → K k) : MadeS A (.gen K q) f w v w' :=
  let ⟨S, h1, h2, h3, h4, h5⟩ := h; ⟨S, h1, h2, trivial, ⟨fun k hk => hK k (h4.1 k hk), h4.2⟩, h5⟩
/-- what a call that writes a tree of the caller's says of it: S before, S' behind -/
def Gave {α : Type} (F : OE α) (A0 : Av) (S : Nat → Prop) (w : World) (v : Value) (y : α) (w' : World) : Prop :=
  ∃ S', (trP F y []).P (addS A0 S') w' S' v ∧ (∀ k, k < w.heap.size → S' k → S k) ∧ Ch S w w'
/-- a call that writes what hangs at a value in the tree -/
theorem took_callT {fn : FuncId} {al : List Operand} {aT : Array TypeId} {y y' : α} {Q : α → Pw} {q : SP} {f : Fact} (hc : ∀ args w, (callFunc fn args).run P w = .ok (.enter fn args) w)
    (h : VHoleA F A w S v y Q) (hav : ∀ k, S k → ∀ o, A k o) (hB : ∀ k, S k → K k) (hBw : ∀ k, w.heap.size ≤ k → K k) (hl : ∀ k, S k → k < w.heap.size)
    (hcall : ∀ S1, (∀ k, S1 k → S k) → (trP F y []).P (addS (fun b o => A b o ∧ ¬ S1 b) S1) w S1 v → Calls P fn (al.map (evalR R)).toArray w fun ed w' => ∃ z, ed = .returned z ∧ (f.ok z w' ∧ Gave F (fun b o => A b o ∧ ¬ S1 b) S1 w v y' w')) (hQ : ∀ A w S, Q y' A w S → q.P A w S u) :
    OpR P ⟨d, .call ⟨.value (.func fn), al.toArray, aT⟩, t, p, af, g⟩ R w (TookS A false u S (.gen K q) (fun _ => f) w) := by
  obtain ⟨S1, cs, rfl, h⟩ := h
  have hA1 : ∀ b o, addS (fun b o => A b o ∧ ¬ S1 b) S1 b o ↔ A b o := fun b o => by
    constructor
    · rintro (h1 | h1)
      · exact h1.1
      · exact hav b (h.sub b h1) o
    · intro h1
      by_cases h2 : S1 b
      · exact .inr h2
      · exact .inl ⟨h1, h2⟩
  refine call_run hc (Calls.mono (hcall S1 h.sub ⟨⟨cs, rfl, F.stab h.own (fun _ _ => rfl) (stp_down fun b o h => (hA1 b o).1 h)⟩, fun q hq => by cases hq⟩) ?_)
  rintro ed w' ⟨z, he, hf, S1', ⟨⟨cs', e, h1⟩, _⟩, h2, h3⟩
  have hcs : cs' = cs := by
    have a := F.cells h1
    have b := F.cells h.own
    rw [← e, b] at a
    exact a.symm
  subst hcs
  have hch : Ch S w w' := ⟨h3.os, h3.tape, h3.output, h3.size, fun k hk hn => h3.block k hk fun hk' => hn (h.sub k hk'), h3.drawn⟩
  have hlt : ∀ k, S1' k → S k → S1 k := fun k b a => h2 k (hl k a) b
  have hsub : ∀ k, k < w.heap.size → ((S k ∧ ¬ S1 k) ∨ S1' k) → S k := fun k hk hs => hs.elim (·.1) fun hs => h.sub k (h2 k hk hs)
  have hst := stp_swapS hav hch hsub
  have hown := F.stab (A' := swapS A S fun k => (S k ∧ ¬ S1 k) ∨ S1' k) h1 (fun _ _ => rfl) (stp_down fun b o hb => by
    rcases hb with ⟨a, c⟩ | ⟨a, c⟩ | a
    · exact .inl ⟨a, fun hs => c (h.sub b hs)⟩
    · exact .inl ⟨hav b a o, c⟩
    · exact .inr a)
  have hq := h.put _ w' S1' y' hown (fun k a c => h3.block k (hl k a) c) hst hlt
  refine ⟨z, he, u, fun k => (S k ∧ ¬ S1 k) ∨ S1' k, rfl, hch, hsub, hst, trivial, ⟨fun k hk => ?_, hQ _ _ _ hq⟩, hf⟩
  rcases hk with hk | hk
  · exact hB k hk.1
  · rcases Nat.lt_or_ge k w.heap.size with hlt' | hge
    · exact hB k (h.sub k (h2 k hlt' hk))
    · exact hBw k hge
end

/-! the words that a printed proof uses -/
section
variable {P : Program} {R : Reg} {w : World} {d : Option Nat} {t : TypeId} {p : String} {af : Array Edge} {g : Option (Nat × Bool)} {A A0 : Av} {α β : Type} {S S0 : Nat → Prop}
variable {E : Enc α} {F : OE α} {x ix : Operand} {T e : TypeId} {K : Nat → Prop} {u a v : Value}
theorem own_of_vec' {B : Nat} {xs : List α} (h : (Res.vec B T E xs).ok A u w) (hS : (Res.vec B T E xs).own A u S w) (hT : T ≠ tByte := by decide) : ∃ cs, u = (oSl T (oRd E)).E.val cs ∧ (oSl T (oRd E)).own A w S xs cs := by
  obtain rfl : S = ownsB u := hS
  exact own_of_vec h hT
theorem vec_ge {B : Nat} {xs : List α} (h : (Res.vec B T E xs).ok A u w) (hS : (Res.vec B T E xs).own A u S w) : ∀ k, S k → B ≤ k := fun k hk => by
  obtain rfl : S = ownsB u := hS
  exact Res.geB h rfl hk
/-- a store that puts a tree of our own into another -/
theorem took_put2 {ad : Operand} {T' : TypeId} {y y' : α} {Q : α → Pw} {q : SP} {ρ : Nat → Value} {σ : Nat → Nat → Prop} {c1 c2 : Nat} (hne : Nat.beq c1 c2 = false) (h : HoleA F A w (σ c1) a y Q) (hv : ∃ cs, ρ c2 = F.E.val cs ∧ F.own A w (σ c2) y' cs) (hx : evalR R x = ρ c2) (had : evalR R ad = a)
    (hav : ∀ d, d ∈ [c1, c2] → ∀ k, σ d k → ∀ o, A k o) (hdd : ∀ d d', d ∈ [c1, c2] → d' ∈ [c1, c2] → d ≠ d' → ∀ k, σ d k → ¬ σ d' k) (hB1 : ∀ k, σ c1 k → K k) (hB2 : ∀ k, σ c2 k → K k) (hsz : ∀ w, (sizeOf T').run P w = .ok F.E.size w) (hQ : ∀ A w S, Q y' A w S → q.P A w S u) :
    OpR P ⟨none, .store T' ad x, t, p, af, g⟩ R w (TookS A false u (fun k => ∃ d, d ∈ [c1, c2] ∧ σ d k) (.gen K q) (fun _ => .any) w) := by
  obtain ⟨cs, e, hv⟩ := hv
  have hm1 : c1 ∈ [c1, c2] := .head _
  have hm2 : c2 ∈ [c1, c2] := .tail _ (.head _)
  have hne' : c1 ≠ c2 := fun h => by subst h; simp at hne
  have hST : ∀ k, (∃ d, d ∈ [c1, c2] ∧ σ d k) ↔ σ c1 k ∨ σ c2 k := fun k => by
    constructor
    · rintro ⟨d, hd, hk⟩
      rcases List.mem_cons.1 hd with hd | hd
      · exact .inl (hd ▸ hk)
      · exact .inr (List.mem_singleton.1 hd ▸ hk)
    · exact fun h => h.elim (fun h => ⟨c1, hm1, h⟩) fun h => ⟨c2, hm2, h⟩
  exact took_hput h hv (hx.trans e) had (hdd c1 c2 hm1 hm2 hne') hST (fun k ⟨d, hd, h⟩ => hav d hd k h) (fun k hk => ((hST k).1 hk).elim (hB1 k) (hB2 k)) hsz hQ
theorem AvOK.subS (hA : AvOK A w) (S : Nat → Prop) : AvOK (fun b o => A b o ∧ ¬ S b) w := fun b o h => hA b o h.1
/-- what a call that writes a plain row says of it -/
theorem gave_of_vec {B : Nat} {xs ys : List α} {w' : World} {f : Fact} {z : Value} (hfl : ∀ A A' w x cs, E.rep A w x cs → E.rep A' w x cs) (h : (trP (oSl T (oRd E)) xs []).P A w S v) (hz : f.ok z w' ∧ (Res.vec B T E ys).ok A0 v w' ∧ Ch (ownsB v) w w') (hS : S = ownsB v) (hT : T ≠ tByte := by decide) : f.ok z w' ∧ Gave (oSl T (oRd E)) A0 S w v ys w' := by
  subst hS
  obtain ⟨h1, h2, h3⟩ := hz
  refine ⟨h1, ownsB v, ⟨own_of_vec (Vec.flat h2 hfl) hT, fun q hq => by cases hq⟩, fun _ _ h => h, h3⟩
theorem vec_of_tr {A0 : Av} {xs : List α} (hfl : ∀ A A' w x cs, E.rep A w x cs → E.rep A' w x cs) (h : (trP (oSl T (oRd E)) xs []).P A w S v) : (Res.vec 0 T E xs).ok A0 v w ∧ S = ownsB v := by
  obtain ⟨⟨cs, e, h⟩, _⟩ := h
  obtain ⟨h1, h2⟩ := vec_of_own (B := 0) h e fun _ _ => Nat.zero_le _
  exact ⟨Vec.flat h1 hfl, h2⟩
theorem tr_ownsB {xs : List α} (hfl : ∀ A A' w x cs, E.rep A w x cs → E.rep A' w x cs) (h : (trP (oSl T (oRd E)) xs []).P A w S v) : S = ownsB v := (vec_of_tr (A0 := A) hfl h).2
theorem vh_rep {y : α} {Q : α → Pw} (h : VHoleA F A w S v y Q) (hA : ∀ b o, A0 b o → A b o) (hn : ∀ k o, S k → ¬ A0 k o) : Rep F.E A0 w v y :=
  let ⟨S1, cs, e, h1⟩ := h; ⟨cs, e, F.rep h1.own hA fun k o hk => hn k o (h1.sub k hk)⟩
theorem own_nil {A : Av} {w : World} : (oSl T F).own A w (fun _ => False) [] [.slice none 0 0] := .inl ⟨rfl, rfl, fun _ h => h⟩
end
end Go.Proofs.Ytmkgocdgkdglnaa
/- Printed by dec.py: plain functions and the proofs that the code computes them. No statement of the seat is proved here. -/
namespace Go.Proofs.Ytmkgocdgkdglnaa
open Go.RowKit
set_option linter.unusedVariables false
abbrev T_impl_Test := Int × Int × Bool
abbrev E_impl_Test : Enc T_impl_Test := ePr (eInt .i64) (ePr (eInt .i64) eBool)
theorem fl_impl_Test_0 : Fld E_impl_Test 0 (eInt .i64) (fun x : T_impl_Test => x.1) := Fld.fst
theorem ff_82_0 : FldF Try.prog 82 0 3 0 := ⟨_, _, Try.underlying82, rfl, rfl, rfl⟩
theorem fl_impl_Test_1 : Fld E_impl_Test 1 (eInt .i64) (fun x : T_impl_Test => x.2.1) := (Fld.snd Fld.fst)
theorem ff_82_1 : FldF Try.prog 82 1 3 1 := ⟨_, _, Try.underlying82, rfl, rfl, rfl⟩
theorem fl_impl_Test_2 : Fld E_impl_Test 2 eBool (fun x : T_impl_Test => x.2.2) := (Fld.snd (Fld.snd (Fld.id _)))
theorem ff_82_2 : FldF Try.prog 82 2 4 2 := ⟨_, _, Try.underlying82, rfl, rfl, rfl⟩
abbrev T_impl_Rule := (List T_impl_Test)
abbrev E_impl_Rule : Enc T_impl_Rule := eBx (eSl E_impl_Test)
theorem fl_impl_Rule_0 : Fld E_impl_Rule 0 (eSl E_impl_Test) (fun x : T_impl_Rule => x) := Fld.bx
theorem ff_79_0 : FldF Try.prog 79 0 65 0 := ⟨_, _, Try.underlying79, rfl, rfl, rfl⟩
abbrev T_impl_RuleSet := (List T_impl_Rule)
abbrev E_impl_RuleSet : Enc T_impl_RuleSet := eBx (eSl E_impl_Rule)
theorem fl_impl_RuleSet_0 : Fld E_impl_RuleSet 0 (eSl E_impl_Rule) (fun x : T_impl_RuleSet => x) := Fld.bx
theorem ff_29_0 : FldF Try.prog 29 0 27 0 := ⟨_, _, Try.underlying29, rfl, rfl, rfl⟩
abbrev T_spec_l1Cur := (List Int) × Int × Int
abbrev E_spec_l1Cur : Enc T_spec_l1Cur := ePr (eSl (eInt .u8)) (ePr (eInt .i64) (eInt .i64))
theorem fl_spec_l1Cur_0 : Fld E_spec_l1Cur 0 (eSl (eInt .u8)) (fun x : T_spec_l1Cur => x.1) := Fld.fst
theorem ff_110_0 : FldF Try.prog 110 0 46 0 := ⟨_, _, Try.underlying110, rfl, rfl, rfl⟩
theorem fl_spec_l1Cur_1 : Fld E_spec_l1Cur 1 (eInt .i64) (fun x : T_spec_l1Cur => x.2.1) := (Fld.snd Fld.fst)
theorem fs_spec_l1Cur_1 : FldS E_spec_l1Cur 1 (eInt .i64) (fun (x : T_spec_l1Cur) y => (x.1, y, x.2.2)) := (FldS.snd FldS.fst)
theorem ff_110_1 : FldF Try.prog 110 1 3 1 := ⟨_, _, Try.underlying110, rfl, rfl, rfl⟩
theorem fl_spec_l1Cur_2 : Fld E_spec_l1Cur 2 (eInt .i64) (fun x : T_spec_l1Cur => x.2.2) := (Fld.snd (Fld.snd (Fld.id _)))
theorem fs_spec_l1Cur_2 : FldS E_spec_l1Cur 2 (eInt .i64) (fun (x : T_spec_l1Cur) y => (x.1, x.2.1, y)) := (FldS.snd (FldS.snd (FldS.id _)))
theorem ff_110_2 : FldF Try.prog 110 2 3 2 := ⟨_, _, Try.underlying110, rfl, rfl, rfl⟩
theorem el_79 : ElF Try.prog 79 1 := el_of Try.zeroValue79 Try.sizeOf79 (by kernel_rfl : (Try.prog.info? 79).map (·.bytes) = some 24) rfl (by decide) (by decide)
theorem el_3 : ElF Try.prog 3 1 := el_of Try.zeroValue3 Try.sizeOf3 (by kernel_rfl : (Try.prog.info? 3).map (·.bytes) = some 8) rfl (by decide) (by decide)
theorem el_33 : ElF Try.prog 33 1 := el_of Try.zeroValue33 Try.sizeOf33 (by kernel_rfl : (Try.prog.info? 33).map (·.bytes) = some 24) rfl (by decide) (by decide)
theorem el_82 : ElF Try.prog 82 3 := el_of Try.zeroValue82 Try.sizeOf82 (by kernel_rfl : (Try.prog.info? 82).map (·.bytes) = some 24) rfl (by decide) (by decide)
theorem el_9 : ElF Try.prog 9 1 := el_of Try.zeroValue9 Try.sizeOf9 (by kernel_rfl : (Try.prog.info? 9).map (·.bytes) = some 16) rfl (by decide) (by decide)
end Go.Proofs.Ytmkgocdgkdglnaa
/- Short forms for the printed texts. No statement of the seat is proved here. -/
namespace Go.Proofs.Ytmkgocdgkdglnaa
open Go.RowKit
set_option linter.unusedVariables false

theorem Obls.p {P : Program} {l : List Ent} {R : Reg} {w : World} {i : Nat} {x : Ent} {r : List Ent}
    (h : ∀ R' w', Fr w w' → (∀ t, okRead l i t = true → R' t = R t) → Deps l R' w' x.o.after.toList → OpR P x.o R' w' fun v w'' => x.f.ok v w'' ∧ Fr w' w'')
    (t : Obls P l R w (i + 1) r) (hg : x.o.guard = none := by exact rfl) (hx : x.g = true := by exact rfl) : Obls P l R w i (x :: r) := ⟨Obl.plain hg hx h, t⟩
theorem OblsR.p {P : Program} {ini : List Ob} {l : List EntR} {A : Av} {R : Reg} {w : World} {i : Nat} {x : EntR} {r : List EntR}
    (h : ∀ A' R' w', Onto ini l A R w i A' R' w' → DepsR l A' R' w' x.o.after.toList → OpR P x.o R' w' fun v w'' => (x.f A').ok v w'' ∧ Fr w' w'')
    (t : OblsR P ini l A R w (i + 1) r) (hg : x.o.guard = none := by exact rfl) (hx : x.g = true := by exact rfl) (hc : x.con = [] := by exact rfl) (hr : x.res = none := by exact rfl) : OblsR P ini l A R w i (x :: r) :=
  ⟨OblR.plain hg hx hc hr h, t⟩
def depF (l : List Ent) (es : List Edge) (j : Nat) : Option (Nat × Fact) :=
  match es[j]? with
  | none => none
  | some e => bif bnd e then (match l[e.on]? with
    | none => none
    | some x => match x.o.dst with
      | none => none
      | some d => bif x.g then some (d, x.f) else none) else none
theorem Deps.g {l : List Ent} {R : Reg} {w : World} {es : List Edge} (h : Deps l R w es) (j : Nat) {d : Nat} {f : Fact} (e : depF l es j = some (d, f)) : f.ok (R d) w := by
  unfold depF at e
  cases h1 : es[j]? with
  | none => rw [h1] at e; cases e
  | some a =>
    rw [h1] at e
    dsimp only at e
    cases h2 : bnd a
    · rw [h2] at e; cases e
    rw [h2, cond_true] at e
    cases h3 : l[a.on]? with
    | none => rw [h3] at e; cases e
    | some x =>
      rw [h3] at e
      dsimp only at e
      cases h4 : x.o.dst with
      | none => rw [h4] at e; cases e
      | some d' =>
        rw [h4] at e
        dsimp only at e
        cases h5 : x.g
        · rw [h5] at e; cases e
        rw [h5, cond_true] at e
        obtain ⟨rfl, rfl⟩ := Prod.mk.inj (Option.some.inj e)
        exact h j a x _ h1 h2 h3 h4 h5
def depFR (l : List EntR) (es : List Edge) (j : Nat) : Option (Nat × (Av → Fact)) :=
  match es[j]? with
  | none => none
  | some e => bif bnd e then (match l[e.on]? with
    | none => none
    | some x => match x.o.dst with
      | none => none
      | some d => bif x.g then some (d, x.f) else none) else none
theorem DepsR.g {l : List EntR} {A : Av} {R : Reg} {w : World} {es : List Edge} (h : DepsR l A R w es) (j : Nat) {d : Nat} {f : Av → Fact} (e : depFR l es j = some (d, f)) : (f A).ok (R d) w := by
  unfold depFR at e
  cases h1 : es[j]? with
  | none => rw [h1] at e; cases e
  | some a =>
    rw [h1] at e
    dsimp only at e
    cases h2 : bnd a
    · rw [h2] at e; cases e
    rw [h2, cond_true] at e
    cases h3 : l[a.on]? with
    | none => rw [h3] at e; cases e
    | some x =>
      rw [h3] at e
      dsimp only at e
      cases h4 : x.o.dst with
      | none => rw [h4] at e; cases e
      | some d' =>
        rw [h4] at e
        dsimp only at e
        cases h5 : x.g
        · rw [h5] at e; cases e
        rw [h5, cond_true] at e
        obtain ⟨rfl, rfl⟩ := Prod.mk.inj (Option.some.inj e)
        exact h j a x _ h1 h2 h3 h4 h5
end Go.Proofs.Ytmkgocdgkdglnaa
/- Regions in the text's order, cut into parts: single operations that may do whatever to the objects, and runs of operations as before. No statement of the seat is proved here. -/
namespace Go.Proofs.Ytmkgocdgkdglnaa
open Go.RowKit
set_option linter.unusedVariables false

/-- the operations from k on, one after another -/
def SG (P : Program) (n : Nat) (ops : List Oper) (k : Nat) (R : Reg) (w : World) (Q : Exit → Reg → World → Prop) : Prop :=
  ∀ a : Act, Pl n a → regs a = R → wpOps P ops.toArray (PQ n Q) (List.range' k (ops.length - k)) a w
section
variable {P : Program} {n : Nat} {ops : List Oper} {k : Nat} {R : Reg} {w : World} {Q : Exit → Reg → World → Prop}
theorem SG.of {id : Nat} (h : SG P n ops 0 R w Q) : HT P n (.region id ops.toArray false) R w Q := fun a hpl hR => by
  refine wp_region ?_
  have := h a hpl hR
  rw [Nat.sub_zero] at this
  rw [List.range_eq_range']
  simpa using this
theorem SG.fin (hk : ops.length = k) (h : Q .normal R w) : SG P n ops k R w Q := fun a hpl hR => by
  rw [hk, Nat.sub_self]
  simp only [List.range'_zero, wpOps]
  exact ⟨hpl, hR ▸ h⟩
theorem SG.step {o : Oper} (ho : ops[k]? = some o) (hg : o.guard = none) (hd : ∀ d, o.dst = some d → d < n) (h : OpR P o R w fun v w' => SG P n ops (k + 1) (updO R o.dst v) w' Q) : SG P n ops k R w Q := fun a hpl hR => by
  have hk : k < ops.length := (List.getElem?_eq_some_iff.1 ho).1
  rw [show ops.length - k = (ops.length - (k + 1)) + 1 by omega, List.range'_succ, wpOps_cons]
  rw [← hR] at h
  refine opwp_of_opr hg h (fun v w' hs => ?_) k (by simpa using ho)
  refine hs _ ⟨by rw [put_defers']; exact hpl.1, by rw [put_size]; exact hpl.2⟩ ?_
  exact regs_put _ _ _ fun d hdd => Nat.lt_of_lt_of_le (hd d hdd) hpl.2
/-- one operation with a register -/
theorem SG.op {o : Oper} (d : Nat) (ho : ops[k]? = some o) (hg : o.guard = none) (hd : o.dst = some d) (hn : Nat.blt d n = true) {K : Value → World → Prop} (h : OpR P o R w K)
    (hk : ∀ v w', K v w' → ∀ R', (∀ t, Nat.beq t d = false → R' t = R t) → R' d = v → SG P n ops (k + 1) R' w' Q) : SG P n ops k R w Q := by
  refine SG.step ho hg (fun d' h' => ?_) (h.mono fun v w' hv => ?_)
  · rw [hd] at h'
    injection h' with h'
    subst h'
    simpa using hn
  · rw [hd]
    refine hk v w' hv _ (fun t ht => ?_) (upd_same _ _ _)
    show (bif Nat.beq t d then v else R t) = R t
    rw [ht]
    rfl
/-- what stands of the operations before k -/
def Past (A : Av) (R : Reg) (w : World) : Nat → List EntR → Prop
  | 0, _ => True
  | _ + 1, [] => True
  | k + 1, x :: l => (x.g = true ∧ x.con = [] ∧ x.res = none ∧ (match x.o.dst with | some d => (x.f A).ok (R d) w | none => True)) ∧ Past A R w k l
theorem Past.at {A : Av} : ∀ (l : List EntR) (k : Nat), Past A R w k l → ∀ (i : Nat) x, i < k → l[i]? = some x → x.g = true ∧ x.con = [] ∧ x.res = none ∧ ∀ d, x.o.dst = some d → (x.f A).ok (R d) w
  | [], k, _, i, x, _, hx => by simp at hx
  | y :: l, 0, _, i, x, hi, _ => by omega
  | y :: l, k + 1, h, 0, x, _, hx => by
    simp only [List.getElem?_cons_zero, Option.some.injEq] at hx
    subst hx
    obtain ⟨⟨h1, h2, h3, h4⟩, _⟩ := h
    refine ⟨h1, h2, h3, fun d hd => ?_⟩
    rw [hd] at h4
    exact h4
  | y :: l, k + 1, h, i + 1, x, hi, hx => Past.at l k h.2 i x (by omega) (by simpa using hx)
theorem SG.textR {A : Av} {rest : List Oper} (ini : List Ob) (l : List EntR) (k' : Nat) (hops : ops = l.map (·.o) ++ rest) (hk' : l.length = k') (hkk : Nat.ble k k' = true) (hb : backFrom 0 (l.map (·.o)) = true) (hs : dstOK n (l.map (·.o)) = true) (hw : Wf ini l) (hi : IniOK ini A w) (hA : AvOK A w)
    (hp : Past A R w k l) (ho : OblsR P ini l A R w k (l.drop k)) (ha : AfterR ini l A R w (fun R w => SG P n ops k' R w Q)) : SG P n ops k R w Q := fun a hpl hR => by
  have hkk : k ≤ k' := Nat.le_of_ble_eq_true hkk
  have hlen : ops.length = k' + rest.length := by rw [hops, List.length_append, List.length_map, hk']
  have hopl : ∀ (i : Nat) x, l[i]? = some x → ops.toArray[i]? = some x.o := fun i x hx => by
    have hlt := (List.getElem?_eq_some_iff.1 hx).1
    rw [List.getElem?_toArray, hops, List.getElem?_append_left (by rw [List.length_map]; exact hlt), List.getElem?_map, hx]
    rfl
  have hmap : ∀ (i : Nat) x, l[i]? = some x → (l.map (·.o))[i]? = some x.o := fun i x hx => by
    rw [List.getElem?_map, hx]
    rfl
  have hobl : ∀ (i : Nat) x, k ≤ i → l[i]? = some x → OblR P ini l A R w i x := fun i x hki hx => by
    have := OblsR.at (l.drop k) k ho (i - k) x (by rw [List.getElem?_drop, show k + (i - k) = i by omega]; exact hx)
    rwa [show k + (i - k) = i by omega] at this
  have key : ∀ m j, m + j = l.length → k ≤ j → ∀ (a : Act) (ρ : Nat → Value) (σ : Nat → Nat → Prop) (A' : Av) (w' : World), Pl n a → InvR ini l A R w (fun i => Nat.blt i j) ρ σ A' (regs a) w' →
      wpOps P ops.toArray (PQ n Q) (List.range' j (ops.length - j)) a w' := by
    intro m
    induction m with
    | zero =>
      intro j hj hkj a ρ σ A' w' hpl hI
      have := ha _ ρ σ A' _ _ (fun i hi => by simpa using (by omega : i < j)) hI a hpl rfl
      rwa [show k' = j by omega] at this
    | succ m ih =>
      intro j hj hkj a ρ σ A' w' hpl hI
      rw [show ops.length - j = (ops.length - (j + 1)) + 1 by omega, List.range'_succ, wpOps_cons]
      have hkl : j < l.length := by omega
      have hx : l[j]? = some l[j] := List.getElem?_eq_getElem hkl
      refine step_anyR1 (done := fun i => Nat.blt i j) hw hopl (fun i x d hx hdd => dstOK_spec hs (hmap i x hx) hdd) hx (hobl j _ hkj hx) (nblt_no (Nat.le_refl j)) (fun e he hbe => ?_) (fun i y hy hex => ?_) hpl hI (fun a' ρ' σ' A'' w'' hpl' hI' => ih (j + 1) (by omega) (by omega) a' ρ' σ' A'' w'' hpl' ?_)
      · have := backFrom_spec _ 0 hb j _ (hmap j _ hx) e he hbe
        show Nat.blt e.on j = true
        simpa using this
      · obtain ⟨e, he, hbe, hon⟩ := hex
        have := backFrom_spec _ 0 hb i _ (hmap i _ hy) e he hbe
        exact nblt_no (by omega)
      · have : setB (fun i => Nat.blt i j) j = fun i => Nat.blt i (j + 1) := by
          funext i
          by_cases e : i = j
          · subst e; rw [setB_same]; simp
          · rw [setB_ne _ e, Bool.eq_iff_iff]; simp; omega
        rw [← this]
        exact hI'
  refine key (k' - k) k (by omega) (Nat.le_refl k) a (fun id => ((ini[id]?).map (·.u)).getD undef) (fun id => ((ini[id]?).map (·.S)).getD fun _ => False) A w hpl ?_
  have hdn : ∀ i, Nat.blt i k = true → i < k := fun i h => by simpa using h
  have hlive : ∀ id r, resAt ini l id = some r → Live ini l (fun i => Nat.blt i k) id → id < ini.length := fun id r hr h => by
    rcases h.1 with h1 | h1
    · exact h1
    · rcases Nat.lt_or_ge id ini.length with h2 | h2
      · exact h2
      · exfalso
        unfold resAt at hr
        rw [List.getElem?_eq_none h2] at hr
        cases hx : l[id - ini.length]? with
        | none => rw [hx] at hr; cases hr
        | some x =>
          rw [hx] at hr
          have := (Past.at l k hp _ x (hdn _ h1) hx).2.2.1
          simp only [Option.bind_some, this] at hr
          cases hr
  have kk : ∀ id r, resAt ini l id = some r → Live ini l (fun i => Nat.blt i k) id → ∃ p, ini[id]? = some p ∧ p.r = r ∧ ((ini[id]?).map (·.u)).getD undef = p.u ∧ (((ini[id]?).map (·.S)).getD fun _ => False) = p.S := fun id r hr hl => by
    obtain ⟨p, hp', hr'⟩ := resAt_ini (l := l) (hlive id r hr hl)
    rw [hr'] at hr
    injection hr with hr
    exact ⟨p, hp', hr, by rw [hp']; rfl, by rw [hp']; rfl⟩
  rw [← hR] at hp
  refine ⟨Ch.refl _ _, (Fr.refl w).stp A, hA, hA, fun _ _ h _ => h, fun t _ => by rw [hR], fun i x d hx hd hxd hg => ?_, fun i x d hx hd hxd hg => ?_, fun id r hr hl => ?_, fun id r hr hl q hq o => ?_, fun id id' r r' hr hr' hl hl' hne q hq => ?_, fun id r hr hl q _ hq => ?_, fun id p hp' => (by rw [hp']; exact ⟨rfl, rfl⟩), fun i x d hx hd hres => ?_, fun i x c hx hd hres => ?_, fun n id r p hd hrt hp' => ?_⟩
  · exact (Past.at l k hp i x (hdn i hd) hx).2.2.2 d hxd
  · have := (Past.at l k hp i x (hdn i hd) hx).1
    rw [this] at hg
    cases hg
  · obtain ⟨p, hp', rfl, he, hs'⟩ := kk id r hr hl
    rw [he, hs']
    exact ⟨(hi.ok id p hp').1, hi.own id p hp'⟩
  · obtain ⟨p, hp', rfl, he, hs'⟩ := kk id r hr hl
    rw [hs'] at hq
    exact (hi.ok id p hp').2 q hq o
  · obtain ⟨p, hp', rfl, he, hs'⟩ := kk id r hr hl
    obtain ⟨p2, hp2, rfl, he2, hs2⟩ := kk id' r' hr' hl'
    rw [hs'] at hq
    rw [hs2]
    exact hi.dis id id' p p2 hp' hp2 hne q hq
  · obtain ⟨p, hp', rfl, he, hs'⟩ := kk id r hr hl
    rw [hs'] at hq
    exact ⟨id, p, hp', hq⟩
  · exact absurd (Past.at l k hp i x (hdn i hd) hx).2.2.1 hres
  · exact absurd (Past.at l k hp i x (hdn i hd) hx).2.2.1 hres
  · cases n with
    | zero => cases hrt
    | succ n =>
      unfold rootOf at hrt
      rcases Nat.lt_or_ge id ini.length with hl | hl
      · rw [List.getElem?_eq_getElem hl] at hrt
        obtain rfl : id = r := Option.some.inj hrt
        rw [hp']
        rfl
      · rw [List.getElem?_eq_none hl] at hrt
        have hdn' := hdn _ (hd.resolve_left (by omega))
        cases hx : l[id - ini.length]? with
        | none => rw [hx] at hrt; cases hrt
        | some x =>
          have := (Past.at l k hp _ x hdn' hx).2.2.1
          rw [hx] at hrt
          simp only [this, Option.isSome_none, Bool.not_false, Bool.or_true, cond_true] at hrt
          cases hrt
end
/-! ### what a call hands back -/
/-- the objects that a call gives: K: the blocks that it was handed -/
structure GPost (A0 : Av) (K : Nat → Prop) (w : World) (obs : List Ob) (A1 : Av) (w' : World) : Prop where
  ini : IniOK obs A1 w'
  avok : AvOK A1 w'
  low : ∀ b o, A0 b o → A1 b o
  up : ∀ b o, A1 b o → A0 b o ∨ isIni obs b
  new : ∀ k, isIni obs k → w.heap.size ≤ k ∨ K k
  ch : Ch K w w'
abbrev subS (A : Av) (S : Nat → Prop) : Av := fun b o => A b o ∧ ¬ S b
section
variable {ini obs : List Ob} {A A0 A1 : Av} {w w' : World} {K : Nat → Prop}
theorem IniOK.shrink (h : IniOK ini A w) (h1 : ∀ b o, A1 b o → A b o) (h2 : ∀ k, isIni ini k → ∀ o, A1 k o) : IniOK ini A1 w :=
  ⟨fun i p hp => ⟨(Res.stabS (h.ok i p hp).1 (h.own i p hp) (fun _ _ => rfl) (stp_down h1)).1, fun k hk => h2 k ⟨i, p, hp, hk⟩⟩, fun i p hp => (Res.stabS (h.ok i p hp).1 (h.own i p hp) (fun _ _ => rfl) (stp_down h1)).2, h.dis⟩
/-- the callee's last word -/
theorem GPost.of (hO : IniOK obs A w') (hA : AvOK A w') (hAA : ∀ b o, A0 b o → A b o) (hge : ∀ k, isIni obs k → w.heap.size ≤ k ∨ K k) (hF : Ch K w w') : ∃ A1, (∀ b o, A1 b o → A b o) ∧ GPost A0 K w obs A1 w' := by
  have hsub : ∀ b o, (A0 b o ∨ isIni obs b) → A b o := fun b o h => h.elim (hAA b o) fun ⟨i, p, hp, hk⟩ => (hO.ok i p hp).2 b hk o
  exact ⟨fun b o => A0 b o ∨ isIni obs b, hsub, hO.shrink hsub fun k hk o => .inr hk, fun b o h => hA b o (hsub b o h), fun _ _ h => .inl h, fun _ _ h => h, hge, hF⟩
theorem stp_call (hA : AvOK A w) (h : GPost (subS A K) K w obs A1 w') (hK : ∀ k, K k → ∀ o, A k o) : Stp A A1 w w' :=
  ⟨h.ch.size, fun b o v hv hn => (World.cell?_of_block (w := w) (h.ch.block b (cell_lt' hv) fun hk => hn (hK b hk o))).trans hv, fun b o hb h1 => (h.up b o h1).elim (·.1) fun h2 => (h.new b h2).elim (fun h3 => by omega) fun h3 => hK b h3 o⟩
/-- the caller goes on: object i has gone into the call -/
theorem GPost.next (hO : IniOK ini A w) (hA : AvOK A w) (i : Nat) {p : Ob} (hp : ini[i]? = some p) (h : GPost (subS A p.S) p.S w obs A1 w') : IniOK (obs ++ ini.eraseIdx i) A1 w' := by
  have hK : ∀ k, p.S k → ∀ o, A k o := (hO.ok i p hp).2
  have hst := stp_call hA h hK
  have hlt : ∀ (j : Nat) q, ini[j]? = some q → ∀ k, q.S k → k < w.heap.size := fun j q hq k hk => Res.ltS (hO.ok j q hq).1 (hO.own j q hq) hk
  have her : ∀ (j : Nat) q, (ini.eraseIdx i)[j]? = some q → ∃ j', j' ≠ i ∧ ini[j']? = some q ∧ (j' = if j < i then j else j + 1) := fun j q hq => by
    rw [List.getElem?_eraseIdx] at hq
    split at hq
    · rename_i hlt; exact ⟨j, by omega, hq, by rw [if_pos hlt]⟩
    · rename_i hlt; exact ⟨j + 1, by omega, hq, by rw [if_neg hlt]⟩
  have hrest : ∀ (j : Nat) q, (ini.eraseIdx i)[j]? = some q → (q.r.ok A1 q.u w' ∧ q.r.own A1 q.u q.S w') ∧ ∀ k, q.S k → ∀ o, A1 k o := fun j q hq => by
    obtain ⟨j', hne, hj', _⟩ := her j q hq
    have hd : ∀ k, q.S k → ¬ p.S k := hO.dis j' i q p hj' hp hne
    exact ⟨Res.stabS (hO.ok j' q hj').1 (hO.own j' q hj') (fun k hk => h.ch.block k (hlt j' q hj' k hk) (hd k hk)) hst, fun k hk o => h.low k o ⟨(hO.ok j' q hj').2 k hk o, hd k hk⟩⟩
  have hobr : ∀ (i' j : Nat) p' q, obs[i']? = some p' → (ini.eraseIdx i)[j]? = some q → ∀ k, p'.S k → ¬ q.S k := fun i' j p' q hp' hq k hk hk' => by
    obtain ⟨j', hne, hj', _⟩ := her j q hq
    rcases h.new k ⟨i', p', hp', hk⟩ with h1 | h1
    · have := hlt j' q hj' k hk'
      omega
    · exact hO.dis j' i q p hj' hp hne k hk' h1
  refine ⟨fun j q hq => ?_, fun j q hq => ?_, fun j j' q q' hq hq' hne k hk => ?_⟩
  · rcases Nat.lt_or_ge j obs.length with hl | hl
    · rw [List.getElem?_append_left hl] at hq
      exact h.ini.ok j q hq
    · rw [List.getElem?_append_right hl] at hq
      exact ⟨(hrest _ q hq).1.1, (hrest _ q hq).2⟩
  · rcases Nat.lt_or_ge j obs.length with hl | hl
    · rw [List.getElem?_append_left hl] at hq
      exact h.ini.own j q hq
    · rw [List.getElem?_append_right hl] at hq
      exact (hrest _ q hq).1.2
  · rcases Nat.lt_or_ge j obs.length with hl | hl <;> rcases Nat.lt_or_ge j' obs.length with hl' | hl'
    · rw [List.getElem?_append_left hl] at hq
      rw [List.getElem?_append_left hl'] at hq'
      exact h.ini.dis j j' q q' hq hq' hne k hk
    · rw [List.getElem?_append_left hl] at hq
      rw [List.getElem?_append_right hl'] at hq'
      exact hobr _ _ _ _ hq hq' k hk
    · rw [List.getElem?_append_right hl] at hq
      rw [List.getElem?_append_left hl'] at hq'
      exact fun hk' => hobr _ _ _ _ hq' hq k hk' hk
    · rw [List.getElem?_append_right hl] at hq
      rw [List.getElem?_append_right hl'] at hq'
      obtain ⟨a, _, ha, ea⟩ := her _ q hq
      obtain ⟨b, _, hb, eb⟩ := her _ q' hq'
      exact hO.dis a b q q' ha hb (by rw [ea, eb]; split <;> split <;> omega) k hk
/-- the same where nothing went in -/
theorem GPost.next0 (hO : IniOK ini A w) (hA : AvOK A w) (h : GPost A (fun _ => False) w obs A1 w') : IniOK (obs ++ ini) A1 w' ∧ Stp A A1 w w' := by
  have e : subS A (fun _ => False) = A := by
    funext b o
    simp [subS]
  have h' : GPost (subS A fun _ => False) (fun _ => False) w obs A1 w' := by rw [e]; exact h
  have hst := stp_call hA h' fun _ h => h.elim
  have hlt : ∀ (j : Nat) q, ini[j]? = some q → ∀ k, q.S k → k < w.heap.size := fun j q hq k hk => Res.ltS (hO.ok j q hq).1 (hO.own j q hq) hk
  have hrest : ∀ (j : Nat) q, ini[j]? = some q → (q.r.ok A1 q.u w' ∧ q.r.own A1 q.u q.S w') ∧ ∀ k, q.S k → ∀ o, A1 k o := fun j q hj =>
    ⟨Res.stabS (hO.ok j q hj).1 (hO.own j q hj) (fun k hk => h.ch.block k (hlt j q hj k hk) fun h => h) hst, fun k hk o => h.low k o ((hO.ok j q hj).2 k hk o)⟩
  have hobr : ∀ (i' j : Nat) p' q, obs[i']? = some p' → ini[j]? = some q → ∀ k, p'.S k → ¬ q.S k := fun i' j p' q hp' hq k hk hk' => by
    rcases h.new k ⟨i', p', hp', hk⟩ with h1 | h1
    · have := hlt j q hq k hk'
      omega
    · exact h1
  refine ⟨⟨fun j q hq => ?_, fun j q hq => ?_, fun j j' q q' hq hq' hne k hk => ?_⟩, hst⟩
  · rcases Nat.lt_or_ge j obs.length with hl | hl
    · rw [List.getElem?_append_left hl] at hq
      exact h.ini.ok j q hq
    · rw [List.getElem?_append_right hl] at hq
      exact ⟨(hrest _ q hq).1.1, (hrest _ q hq).2⟩
  · rcases Nat.lt_or_ge j obs.length with hl | hl
    · rw [List.getElem?_append_left hl] at hq
      exact h.ini.own j q hq
    · rw [List.getElem?_append_right hl] at hq
      exact (hrest _ q hq).1.2
  · rcases Nat.lt_or_ge j obs.length with hl | hl <;> rcases Nat.lt_or_ge j' obs.length with hl' | hl'
    · rw [List.getElem?_append_left hl] at hq
      rw [List.getElem?_append_left hl'] at hq'
      exact h.ini.dis j j' q q' hq hq' hne k hk
    · rw [List.getElem?_append_left hl] at hq
      rw [List.getElem?_append_right hl'] at hq'
      exact hobr _ _ _ _ hq hq' k hk
    · rw [List.getElem?_append_right hl] at hq
      rw [List.getElem?_append_left hl'] at hq'
      exact fun hk' => hobr _ _ _ _ hq' hq k hk' hk
    · rw [List.getElem?_append_right hl] at hq
      rw [List.getElem?_append_right hl'] at hq'
      exact hO.dis _ _ q q' hq hq' (by omega) k hk
/-- an object turned: its blocks are among those that it had -/
theorem IniOK.put (h : IniOK ini A w) (i : Nat) {p : Ob} (hi : ini[i]? = some p) (p' : Ob) (hok : p'.r.ok A p'.u w) (hown : p'.r.own A p'.u p'.S w) (hS : ∀ k, p'.S k → p.S k) : IniOK (ini.set i p') A w := by
  have hl := (List.getElem?_eq_some_iff.1 hi).1
  have hat : ∀ (j : Nat) q, (ini.set i p')[j]? = some q → ∃ q0, ini[j]? = some q0 ∧ (∀ k, q.S k → q0.S k) ∧ (j = i ∧ q = p' ∨ j ≠ i ∧ q0 = q) := fun j q hq => by
    by_cases e : j = i
    · subst e
      rw [List.getElem?_set_self hl] at hq
      injection hq with hq
      subst hq
      exact ⟨_, hi, hS, .inl ⟨rfl, rfl⟩⟩
    · rw [List.getElem?_set_ne (Ne.symm e)] at hq
      exact ⟨q, hq, fun _ h => h, .inr ⟨e, rfl⟩⟩
  refine ⟨fun j q hq => ?_, fun j q hq => ?_, fun j j' q q' hq hq' hne k hk hk' => ?_⟩
  · obtain ⟨q0, h0, hS', hc⟩ := hat j q hq
    rcases hc with ⟨rfl, rfl⟩ | ⟨_, rfl⟩
    · exact ⟨hok, fun k hk => (h.ok _ _ h0).2 k (hS' k hk)⟩
    · exact h.ok j _ h0
  · obtain ⟨q0, h0, hS', hc⟩ := hat j q hq
    rcases hc with ⟨rfl, rfl⟩ | ⟨_, rfl⟩
    · exact hown
    · exact h.own j _ h0
  · obtain ⟨q0, h0, hS', _⟩ := hat j q hq
    obtain ⟨q0', h0', hS'', _⟩ := hat j' q' hq'
    exact h.dis j j' q0 q0' h0 h0' hne k (hS' k hk) (hS'' k hk')
/-- a tree's blocks under another bound -/
theorem IniOK.reK (h : IniOK ini A w) (i : Nat) {u : Value} {S : Nat → Prop} {K K' : Nat → Prop} {p : SP} (hi : ini[i]? = some ⟨u, S, .gen K p⟩) (hK : ∀ k, K k → K' k) : IniOK (ini.set i ⟨u, S, .gen K' p⟩) A w :=
  h.put i hi ⟨u, S, .gen K' p⟩ trivial ⟨fun k hk => hK k ((h.own i _ hi).1 k hk), (h.own i _ hi).2⟩ fun _ h => h
theorem IniOK.reV (h : IniOK ini A w) (i : Nat) {u : Value} {S : Nat → Prop} {α : Type} {B B' : Nat} {T : TypeId} {E : Enc α} {xs : List α} (hi : ini[i]? = some ⟨u, S, .vec B T E xs⟩) (hB : B' ≤ B) : IniOK (ini.set i ⟨u, S, .vec B' T E xs⟩) A w :=
  h.put i hi ⟨u, S, .vec B' T E xs⟩ (Res.mono (r := .nul) (h.ok i _ hi).1 hB) (by have := h.own i _ hi; exact this) fun _ h => h
theorem IniOK.reX (h : IniOK ini A w) (i : Nat) {u : Value} {S : Nat → Prop} {α : Type} {B B' : Nat} {T : TypeId} {E : Enc α} {x : α} (hi : ini[i]? = some ⟨u, S, .box B T E x⟩) (hB : B' ≤ B) : IniOK (ini.set i ⟨u, S, .box B' T E x⟩) A w :=
  h.put i hi ⟨u, S, .box B' T E x⟩ (let ⟨b, h1, h2, h3⟩ := (h.ok i _ hi).1; ⟨b, h1, Nat.le_trans hB h2, h3⟩) (by have := h.own i _ hi; exact this) fun _ h => h
/-- a variable's tree, as the value that it holds -/
theorem IniOK.unbox {P : Program} {R : Reg} (h : IniOK ini A w) (i : Nat) {u : Value} {S : Nat → Prop} {K : Nat → Prop} {α : Type} {F : OE α} {x : α} {pins : List Pin} {T T' : TypeId} {r : Nat} (hi : ini[i]? = some ⟨u, S, trR K (oPt T' F) x pins⟩) (hR : R r = u) (hag : ∀ w, (isAgg T).run P w = .ok F.E.agg w) (hsz : ∀ w, (sizeOf T).run P w = .ok F.E.size w) :
    ∃ v S1, ResVal P R w (.cell r T) v ∧ IniOK (ini.set i ⟨v, S1, trR K F x []⟩) A w := by
  obtain ⟨hK, ⟨cs, e, b, ds, S1, rfl, h1, h2, h3, h4⟩, _⟩ := h.own i _ hi
  have hu : u = .pointer (some ⟨b, 0, none⟩) := e
  have hsub : ∀ k, S1 k → S k := fun k hk => (h4 k).2 (.inr hk)
  refine ⟨F.E.val ds, S1, ⟨⟨b, 0, none⟩, by rw [hR, hu], ?_⟩, h.put i hi ⟨F.E.val ds, S1, trR K F x []⟩ trivial ⟨fun k hk => hK k (hsub k hk), ⟨ds, rfl, h2⟩, fun q hq => by cases hq⟩ hsub⟩
  have := run_loadVar (P := P) (w := w) (b := b) (o := 0) hag hsz (F.len h2) F.E.one (fun j v hj => by rw [h1.cell, Nat.zero_add]; simpa using hj)
  simpa [Enc.val] using this
theorem low_call {B : Nat} (hAA : ∀ b o, A0 b o → A b o) (hA0 : ∀ b o, A0 b o → b < B) (hge : ∀ k, isIni ini k → B ≤ k) (i : Nat) {p : Ob} (hi : ini[i]? = some p) (h : GPost (subS A p.S) p.S w obs A1 w') : ∀ b o, A0 b o → A1 b o :=
  fun b o hb => h.low b o ⟨hAA b o hb, fun hk => by have := hA0 b o hb; have := hge b ⟨i, p, hi, hk⟩; omega⟩
theorem low_callK {B : Nat} (hAA : ∀ b o, A0 b o → A b o) (hA0 : ∀ b o, A0 b o → b < B) (hN : ∀ b o, A0 b o → ¬ K b) (hge : ∀ k, isIni ini k → B ≤ k ∨ K k) (i : Nat) {p : Ob} (hi : ini[i]? = some p) (h : GPost (subS A p.S) p.S w obs A1 w') : ∀ b o, A0 b o → A1 b o :=
  fun b o hb => h.low b o ⟨hAA b o hb, fun hk => (hge b ⟨i, p, hi, hk⟩).elim (fun h => by have := hA0 b o hb; omega) fun h => hN b o hb h⟩
theorem Ch.no {w w' : World} (h : Ch (fun _ => False) w w') : Fr w w' := ⟨⟨h.os, h.tape, h.output, h.size, fun k hk => h.block k hk fun h => h⟩, h.drawn⟩
/-! ### trees that read nothing but what they own -/
/-- an object that holds whatever is to be avoided -/
def ObPure (p : Ob) : Prop := ∀ A A' w, p.r.ok A p.u w → p.r.own A p.u p.S w → p.r.ok A' p.u w ∧ p.r.own A' p.u p.S w
def allPure : List Ob → Prop
  | [] => True
  | p :: l => ObPure p ∧ allPure l
theorem allPure.at : ∀ (l : List Ob), allPure l → ∀ (i : Nat) p, l[i]? = some p → ObPure p
  | [], _, i, p, h => by simp at h
  | q :: l, h, 0, p, hp => by simp at hp; subst hp; exact h.1
  | q :: l, h, i + 1, p, hp => allPure.at l h.2 i p (by simpa using hp)
/-- a call that writes a variable of our own, in a region that draws its order -/
theorem took_G {P : Program} {R : Reg} {d : Option Nat} {t : TypeId} {p : String} {af : Array Edge} {g : Option (Nat × Bool)} {fn : FuncId} {al : List Operand} {aT : Array TypeId} {α : Type} {B b : Nat} {T : TypeId} {E : Enc α} {x x' : α} {f : Av → Fact}
    (hc : ∀ args w, (callFunc fn args).run P w = .ok (.enter fn args) w) (hok : (Res.box B T E x).ok A (.pointer (some ⟨b, 0, none⟩)) w) (hav : ∀ k, ownsB (.pointer (some ⟨b, 0, none⟩)) k → ∀ o, A k o) (hA : AvOK A w)
    (h : IniOK [ob (.pointer (some ⟨b, 0, none⟩)) (.box B T E x)] A w → Calls P fn (al.map (evalR R)).toArray w fun e w' => ∃ v, e = .returned v ∧ ∃ A1, GPost (subS A (ownsB (.pointer (some ⟨b, 0, none⟩)))) (ownsB (.pointer (some ⟨b, 0, none⟩))) w [ob (.pointer (some ⟨b, 0, none⟩)) (.box B T E x')] A1 w' ∧ (f A1).ok v w') :
    OpR P ⟨d, .call ⟨.value (.func fn), al.toArray, aT⟩, t, p, af, g⟩ R w (Took A false (.pointer (some ⟨b, 0, none⟩)) (.box B T E x') f w) := by
  have hI : IniOK [ob (.pointer (some ⟨b, 0, none⟩)) (.box B T E x)] A w := by
    refine ⟨fun i q hq => ?_, fun i q hq => ?_, fun i j q q' hq hq' hne => ?_⟩
    · cases i with
      | zero => simp only [List.getElem?_cons_zero, Option.some.injEq] at hq; subst hq; exact ⟨hok, hav⟩
      | succ i => simp at hq
    · cases i with
      | zero => simp only [List.getElem?_cons_zero, Option.some.injEq] at hq; subst hq; rfl
      | succ i => simp at hq
    · cases i with
      | zero =>
        cases j with
        | zero => exact (hne rfl).elim
        | succ j => simp at hq'
      | succ i => simp at hq
  refine (call_run hc (h hI)).mono fun v w' ⟨A1, hG, hv⟩ => ?_
  have e : A1 = swapA A (.pointer (some ⟨b, 0, none⟩)) (.pointer (some ⟨b, 0, none⟩)) := by
    funext k o
    rw [eq_iff_iff]
    constructor
    · intro h1
      rcases hG.up k o h1 with h2 | ⟨i, q, hq, h2⟩
      · exact .inl h2
      · cases i with
        | zero => simp only [List.getElem?_cons_zero, Option.some.injEq] at hq; subst hq; exact .inr h2
        | succ i => simp at hq
    · rintro (h1 | h1)
      · exact hG.low k o h1
      · exact (hG.ini.ok 0 _ rfl).2 k h1 o
  have hst := stp_call hA hG hav
  subst e
  exact ⟨_, rfl, hG.ch, fun k _ h => h, hst, (hG.ini.ok 0 _ rfl).1, hv⟩
theorem of_nilCheck {P : Program} {R : Reg} {d : Option Nat} {t : TypeId} {p : String} {af : Array Edge} {g : Option (Nat × Bool)} {x : Operand} {a : Addr} (hx : evalR R x = .pointer (some a)) : OpF P ⟨d, .nilCheck x, t, p, af, g⟩ R w (.raw (.pointer (some a))) :=
  opr_val (v := .pointer (some a)) (w' := w) (by simp [execOp, hx]) ⟨rfl, Fr.refl _⟩
/-! ### a struct built of parts that are our own -/
end
end Go.Proofs.Ytmkgocdgkdglnaa
/- A row at a place in a tree that grows: between the append and the store the tree lacks the place, and a store there makes it whole. No statement of the seat is proved here. -/
namespace Go.Proofs.Ytmkgocdgkdglnaa
open Go.RowKit
set_option linter.unusedVariables false

/-- u is a value of our own that reads y; put at the address a it makes a tree whole -/
def pdP {β : Type} (F : OE β) (a : Value) (Q : β → Pw) (y : β) : SP where
  P := fun A w S u => ∃ (b off : Nat) (S1 S2 : Nat → Prop) (cs : List Value), a = .pointer (some ⟨b, off, none⟩) ∧ u = F.E.val cs ∧ F.own A w S1 y cs ∧ (∀ k, S k ↔ S2 k ∨ S1 k) ∧ (∀ k, S1 k → ¬ S2 k) ∧ S2 b ∧ (∃ arr T, Blk w b T arr ∧ off + F.E.size ≤ arr.size) ∧ (∀ k, S2 k → k < w.heap.size) ∧
    ∀ (A' : Av) (w' : World) (S1' : Nat → Prop) (y' : β) (ds : List Value), F.own A' w' S1' y' ds → (∀ (j : Nat) u, ds[j]? = some u → w'.cell? ⟨b, off + j, none⟩ = some u) → Up b off F.E.size w w' → (∀ k, S2 k → k ≠ b → w'.heap[k]? = w.heap[k]?) → Stp A A' w w' → (∀ k, S1' k → ¬ S2 k) → Q y' A' w' (fun k => S2 k ∨ S1' k)
  lt := by
    rintro A w S u k ⟨b, off, S1, S2, cs, rfl, rfl, h1, h2, h3, h4, h5, h6, h7⟩ hk
    rcases (h2 k).1 hk with h | h
    · exact h6 k h
    · exact F.lt h1 h
  stab := by
    rintro A A1 w w1 S u ⟨b, off, S1, S2, cs, rfl, rfl, h1, h2, h3, h4, ⟨arr, T, h5, h5'⟩, h6, h7⟩ hb hs
    have hbb := hb b ((h2 b).2 (.inl h4))
    refine ⟨b, off, S1, S2, cs, rfl, rfl, F.stab h1 (fun k hk => hb k ((h2 k).2 (.inr hk))) hs, h2, h3, h4, ⟨arr, T, hbb.trans h5, h5'⟩, fun k hk => Nat.lt_of_lt_of_le (h6 k hk) hs.size, fun A' w' S1' y' ds k1 k2 k3 k4 k5 k6 => ?_⟩
    obtain ⟨arr0, arr1, T0, j1, j2, j3, j4⟩ := k3
    exact h7 A' w' S1' y' ds k1 k2 ⟨arr0, arr1, T0, hbb.symm.trans j1, j2, j3, j4⟩ (fun k hk hne => (k4 k hk hne).trans (hb k ((h2 k).2 (.inl hk)))) (hs.trans k5) k6
/-- p holds of the value v, whatever the register says -/
def fixP (v : Value) (p : SP) : SP where
  P := fun A w S _ => p.P A w S v
  lt := fun h hk => p.lt h hk
  stab := fun h hb hs => p.stab h hb hs
section
variable {A A0 : Av} {w : World} {ini : List Ob}
theorem IniOK.refix (h : IniOK ini A w) (i : Nat) {u v : Value} {S K : Nat → Prop} {p : SP} (hi : ini[i]? = some ⟨u, S, .gen K (fixP v p)⟩) : IniOK (ini.set i ⟨v, S, .gen K p⟩) A w :=
  h.put i hi ⟨v, S, .gen K p⟩ trivial ⟨(h.own i _ hi).1, (h.own i _ hi).2⟩ fun _ h => h
end
section
variable {P : Program} {R : Reg} {w : World} {d : Option Nat} {t : TypeId} {p : String} {af : Array Edge} {g : Option (Nat × Bool)} {A A0 : Av} {α β : Type} {S S0 : Nat → Prop}
variable {E : Enc α} {F : OE α} {x ix : Operand} {T e : TypeId} {K : Nat → Prop} {u a v : Value}
/-- an append at a row at a place -/
theorem took_appendP {y : Operand} {ty : TypeId} {xs ys : List α} {Q : List α → Pw} {u0 : Value} {S' : Nat → Prop} {dd : Nat} (h : HoleA (oSl e (oRd E)) A w S a xs Q) (hp : PinOK w S' (a, [v])) (hx : evalR R x = v) (hav : ∀ k, S k → ∀ o, A k o) (hB : ∀ k, S k → K k) (hBw : ∀ k, w.heap.size ≤ k → K k) (hlt : ∀ k, S k → k < w.heap.size)
    (hy : Rep (eSl E) A w (evalR R y) ys) (ht : P.underlying T = some (.slice e)) (he : ElF P e E.size) (hl : lenOK (xs.length + ys.length) = true) (hT : e ≠ tByte := by decide) :
    OpR P ⟨some dd, .call ⟨.builtin .append, #[x, y], #[T, T]⟩, ty, p, af, g⟩ R w (TookS A true u0 S (.gen K (pdP (oSl e (oRd E)) a Q (xs ++ ys))) (fun _ => .any) w) := by
  obtain ⟨b, off, S1, cs, rfl, h⟩ := h
  obtain ⟨b', o', e0, _, hc⟩ := hp
  injection e0 with e0
  injection e0 with e0
  injection e0 with e1 e2
  subst e1 e2
  have hl1 : cs.length = 1 := (oSl e (oRd E)).len h.own
  obtain rfl : cs = [v] := by
    match cs, hl1 with
    | [c], _ =>
      have h1 := h.at' 0 c rfl
      have h2 := hc 0 v rfl
      rw [h1] at h2
      injection h2 with h2
      rw [h2]
  obtain ⟨hv, rfl⟩ := vec_of_own (B := 0) (v := v) h.own rfl (fun _ _ => Nat.zero_le _)
  have hS1 : ∀ k, ownsB v k → S k := h.sub
  have hbo : ¬ ownsB v b := h.out
  refine (took_append (P := P) (p := p) (af := af) (g := g) (ty := ty) (dd := dd) (B := 0) hx hv (fun k hk => hav k (hS1 k hk)) (Nat.zero_le _) hy ht he hl).mono ?_
  rintro v' w2 ⟨u2, rfl, hch, hsame, hst0, hok, _⟩
  have hch' : Ch S w w2 := ⟨hch.os, hch.tape, hch.output, hch.size, fun k hk hn => hch.block k hk fun hk' => hn (hS1 k hk'), hch.drawn⟩
  have hold : ∀ k, S k → ¬ ownsB v k → w2.heap[k]? = w.heap[k]? := fun k hk hn => hch.block k (hlt k hk) hn
  have hsub : ∀ k, k < w.heap.size → ((S k ∧ ¬ ownsB v k) ∨ ownsB u2 k) → S k := fun k hk hs => hs.elim (·.1) fun hs => hS1 k (hsame k hk hs)
  have hst := stp_swapS (A := A) hav hch' hsub
  refine ⟨u2, fun k => (S k ∧ ¬ ownsB v k) ∨ ownsB u2 k, rfl, hch', hsub, hst, trivial, ⟨fun k hk => ?_, ?_⟩, trivial⟩
  · rcases hk with hk | hk
    · exact hB k hk.1
    · rcases Nat.lt_or_ge k w.heap.size with hl2 | hg
      · exact hB k (hS1 k (hsame k hl2 hk))
      · exact hBw k hg
  · obtain ⟨cs2, he2, ho2⟩ := own_of_vec hok hT
    obtain ⟨arr, T0, hblk, hsz⟩ := h.blk
    have hdis : ∀ k, ownsB u2 k → ¬ (S k ∧ ¬ ownsB v k) := fun k hk hn => hn.2 (hsame k (hlt k hn.1) hk)
    have hb2 := hold b h.inb hbo
    refine ⟨b, off, ownsB u2, fun k => S k ∧ ¬ ownsB v k, cs2, rfl, he2, OE.stab _ ho2 (fun _ _ => rfl) (stp_down fun k o hk => ?_), fun k => Iff.rfl, hdis, ⟨h.inb, hbo⟩, ⟨arr, T0, hb2.trans hblk, hsz⟩, fun k hk => Nat.lt_of_lt_of_le (hlt k hk.1) hch.size, fun A' w' S1' y' ds k1 k2 k3 k4 k5 k6 => ?_⟩
    · rcases hk with ⟨h1, h2⟩ | ⟨h1, h2⟩ | h1
      · exact .inl ⟨h1, fun hk => h2 (hS1 k hk)⟩
      · exact .inl ⟨hav k h1 o, h2⟩
      · exact .inr h1
    · obtain ⟨arr0, arr1, T1, j1, j2, j3, j4⟩ := k3
      exact h.put A' w' S1' y' ds k1 k2 ⟨arr0, arr1, T1, hb2.symm.trans j1, j2, j3, j4⟩ (fun k a1 a2 a3 => (k4 k ⟨a1, a2⟩ a3).trans (hold k a1 a2)) (hst.trans k5) (fun k a1 a2 => Classical.byContradiction fun hn => k6 k a1 ⟨a2, hn⟩)
/-- the store that makes the tree whole -/
theorem took_putP {ad : Operand} {T' : TypeId} {y : α} {Q : α → Pw} {q : SP} (h : (pdP F a Q y).P A w S u) (hx : evalR R x = u) (had : evalR R ad = a) (hav : ∀ k, S k → ∀ o, A k o) (hB : ∀ k, S k → K k) (hsz : ∀ w, (sizeOf T').run P w = .ok F.E.size w) (hQ : ∀ A w S, Q y A w S → q.P A w S u) :
    OpR P ⟨none, .store T' ad x, t, p, af, g⟩ R w (TookS A false u S (.gen K q) (fun _ => .any) w) := by
  obtain ⟨b, off, S1, S2, cs, rfl, rfl, hv, hS, hd, hb2, ⟨arr, T0, hb, hle⟩, hl2, hput⟩ := h
  have hcs := F.len hv
  have hcl := F.cells hv
  have hvb : ¬ S1 b := fun h => hd b h hb2
  obtain ⟨w', h1, h2, h3⟩ := run_storeVar (P := P) (o := off) (v := evalR R x) hsz (by rw [hx, hcl]; exact F.oc hv) (by rw [hx, ← Array.length_toList, hcl]; exact hcs) hb hle
  rw [hx, hcl] at h3
  refine opr_skip (w' := w') ?_ ?_
  · simp only [execOp, Instr.storeAt, Instr.sureAddr, had]
    simp [h1]
  · have hch0 := h2.ch
    have hch : Ch S w w' := ⟨hch0.os, hch0.tape, hch0.output, hch0.size, fun k hk hn => hch0.block k hk fun e => hn ((hS k).2 (.inl (e ▸ hb2))), hch0.drawn⟩
    have hst := stp_swapS (S'' := S) hav hch fun _ _ h => h
    have hne : ∀ k, S1 k → k ≠ b := fun k hk e => hvb (e ▸ hk)
    have hv' : F.own (swapS A S S) w' S1 y cs := F.stab hv (fun k hk => h2.block k (hne k hk)) hst
    have hq := hput _ w' S1 y cs hv' (fun j u hj => ?_) ⟨arr, _, T0, hb, h3, lay_size _ _ _, fun j hj => ?_⟩ (fun k _ hk => h2.block k hk) hst hd
    · have e : (fun k => S2 k ∨ S1 k) = S := by funext k; rw [eq_iff_iff]; exact (hS k).symm
      rw [e] at hq
      exact ⟨_, S, rfl, hch, fun _ _ h => h, hst, trivial, ⟨hB, hQ _ _ _ hq⟩, trivial⟩
    · have hjl := (List.getElem?_eq_some_iff.1 hj).1
      rw [h3.cell, lay_at _ _ _ _ (by omega), if_pos (by omega), Nat.add_sub_cancel_left]
      exact hj
    · rw [lay_at _ _ _ _ (by omega), if_neg (by omega)]
/-- a tree's variable read for the last time: what it holds is a plain value from here on -/
theorem frz_loadT {y : α} {pins : List Pin} {T' : TypeId} {lk : Bool} (h : (trP (oPt T' F) y pins).P A w S u) (hx : evalR R x = u) (hav : ∀ k, S k → ∀ o, A k o) (hag : ∀ w, (isAgg T).run P w = .ok F.E.agg w) (hsz : ∀ w, (sizeOf T).run P w = .ok F.E.size w) :
    OpR P ⟨d, .load T x, t, p, af, g⟩ R w (TookS A lk u S .nul (fun A => .rep F.E A y) w) := by
  obtain ⟨⟨cs, e, b, ds, S1, rfl, h1, h2, h3, h4⟩, _⟩ := h
  have hu : u = .pointer (some ⟨b, 0, none⟩) := e
  have hst := stp_swapS (S'' := fun _ => False) hav (Ch.refl S w) fun _ _ h => h.elim
  refine opr_val (v := F.E.val ds) (w' := w) ?_ ⟨match lk with | true => _ | false => _, fun _ => False, by cases lk <;> rfl, Ch.refl _ _, fun _ _ h => h.elim, hst, trivial, rfl, ds, rfl, F.rep h2 (fun k o hk => hk.elim (·.1) False.elim) fun k o hk ha => ha.elim (fun ha => ha.2 ((h4 k).2 (.inr hk))) False.elim⟩
  have := run_loadVar (P := P) (w := w) (b := b) (o := 0) hag hsz (F.len h2) F.E.one (fun j v hj => by rw [h1.cell, Nat.zero_add]; simpa using hj)
  simp [execOp, Instr.loadAt, Instr.sureAddr, hx, hu, this, Enc.val]
theorem made_valT {o : Oper} {q : SP} (h : (execOp (evalR R) o).run P w = .ok (.value v) w) (hq : q.P A w (fun _ => False) v) (hB : ∀ k, w.heap.size ≤ k → K k) : OpR P o R w (MadeS A (.gen K q) (fun _ => .any) w) := by
  refine opr_val h ⟨fun _ => False, Fr.refl _, fun _ h => h.elim, trivial, ⟨fun _ h => h.elim, q.stab hq (fun _ h => h.elim) (stp_down fun b o h => h.elim id False.elim)⟩, trivial⟩
end
end Go.Proofs.Ytmkgocdgkdglnaa
/- Operations under a guard whose outcome is known, one by one in the text's order. No statement of the seat is proved here. -/
namespace Go.Proofs.Ytmkgocdgkdglnaa
open Go.RowKit
set_option linter.unusedVariables false

section
variable {P : Program} {n : Nat} {ops : List Oper} {k : Nat} {R : Reg} {w : World} {Q : Exit → Reg → World → Prop}
theorem yielded_at {j dj : Nat} {y : Oper} {a : Act} (hj : ops[j]? = some y) (hy : y.dst = some dj) : yielded ops.toArray a.tmps j = (match regs a dj with | .bool b => some b | _ => none) := by
  have hj' : ops.toArray[j]? = some y := by simpa using hj
  simp only [yielded, hj', regs]
  simp [hy]
  cases a.tmps[dj]? with
  | none => rfl
  | some v => cases v <;> rfl
/-- the guard lets it run -/
theorem SG.opG {o y : Oper} (d j dj : Nat) (want : Bool) (ho : ops[k]? = some o) (hg : o.guard = some (j, want)) (hj : ops[j]? = some y) (hy : y.dst = some dj) (hR : R dj = .bool want) (hd : o.dst = some d) (hn : Nat.blt d n = true) {K : Value → World → Prop} (h : OpR P o R w K)
    (hk : ∀ v w', K v w' → ∀ R', (∀ t, Nat.beq t d = false → R' t = R t) → R' d = v → SG P n ops (k + 1) R' w' Q) : SG P n ops k R w Q := fun a hpl hRa => by
  have hkl : k < ops.length := (List.getElem?_eq_some_iff.1 ho).1
  rw [show ops.length - k = (ops.length - (k + 1)) + 1 by omega, List.range'_succ, wpOps_cons]
  rw [← hRa] at h hR
  have hw : Region.wanted o (yielded ops.toArray a.tmps) = true := by
    rw [show Region.wanted o (yielded ops.toArray a.tmps) = (yielded ops.toArray a.tmps j == some want) by simp [Region.wanted, hg], yielded_at hj hy, hR]
    simp
  have ho' : ops.toArray[k]? = some o := by simpa using ho
  have hcont : ∀ v w', K v w' → wpOps P ops.toArray (PQ n Q) (List.range' (k + 1) (ops.length - (k + 1))) (a.put o.dst v) w' := fun v w' hv => by
    have hdn : d < n := by simpa using hn
    have hrp := regs_put a o.dst v fun d' h' => by rw [hd] at h'; injection h' with h'; subst h'; exact Nat.lt_of_lt_of_le hdn hpl.2
    refine hk v w' hv (regs (a.put o.dst v)) (fun t ht => ?_) ?_ _ ⟨by rw [put_defers']; exact hpl.1, by rw [put_size]; exact hpl.2⟩ rfl
    · rw [hrp, hd, hRa]
      show (bif Nat.beq t d then v else R t) = R t
      rw [ht]
      rfl
    · rw [hrp, hd]
      exact upd_same _ _ _
  unfold wpOp
  rw [ho']
  dsimp only
  rw [if_pos hw]
  refine .inl ?_
  unfold Oper.wp
  rw [eval_regs]
  refine OpK.elim (C := Oper.upon P o a _ (PQ n Q)) h (fun v w' h => ?_) (fun w' h => ?_) fun f args w' h => ?_
  · rw [Oper.upon_value]
    exact hcont _ _ h
  · rw [Oper.upon_skip]
    exact hcont _ _ h
  · rw [Oper.upon_enter]
    refine Calls.mono h ?_
    rintro e w3 ⟨v, rfl, h3⟩
    exact hcont _ _ h3
theorem SG.skipV {o y : Oper} (d j dj : Nat) (want : Bool) (ho : ops[k]? = some o) (hg : o.guard = some (j, want)) (hj : ops[j]? = some y) (hy : y.dst = some dj) (hR : (match R dj with | .bool b => some b | _ => none) ≠ some want) (hd : o.dst = some d) (hn : Nat.blt d n = true)
    (hk : ∀ R', (∀ t, Nat.beq t d = false → R' t = R t) → R' d = undef → SG P n ops (k + 1) R' w Q) : SG P n ops k R w Q := fun a hpl hRa => by
  have hkl : k < ops.length := (List.getElem?_eq_some_iff.1 ho).1
  rw [show ops.length - k = (ops.length - (k + 1)) + 1 by omega, List.range'_succ, wpOps_cons]
  rw [← hRa] at hR
  have hw : ¬ Region.wanted o (yielded ops.toArray a.tmps) = true := by
    rw [show Region.wanted o (yielded ops.toArray a.tmps) = (yielded ops.toArray a.tmps j == some want) by simp [Region.wanted, hg], yielded_at hj hy]
    simpa using hR
  have ho' : ops.toArray[k]? = some o := by simpa using ho
  unfold wpOp
  rw [ho']
  dsimp only
  rw [if_neg hw]
  have hdn : d < n := by simpa using hn
  have hrp := regs_put a o.dst undef fun d' h' => by rw [hd] at h'; injection h' with h'; subst h'; exact Nat.lt_of_lt_of_le hdn hpl.2
  refine hk (regs (a.put o.dst undef)) (fun t ht => ?_) ?_ _ ⟨by rw [put_defers']; exact hpl.1, by rw [put_size]; exact hpl.2⟩ rfl
  · rw [hrp, hd, hRa]
    show (bif Nat.beq t d then undef else R t) = R t
    rw [ht]
    rfl
  · rw [hrp, hd]
    exact upd_same _ _ _
theorem SG.skip {o y : Oper} (d j dj : Nat) (want : Bool) (ho : ops[k]? = some o) (hg : o.guard = some (j, want)) (hj : ops[j]? = some y) (hy : y.dst = some dj) (hR : R dj = .bool !want) (hd : o.dst = some d) (hn : Nat.blt d n = true)
    (hk : ∀ R', (∀ t, Nat.beq t d = false → R' t = R t) → R' d = undef → SG P n ops (k + 1) R' w Q) : SG P n ops k R w Q :=
  SG.skipV d j dj want ho hg hj hy (by rw [hR]; cases want <;> simp) hd hn hk
theorem SG.skipU {o y : Oper} (d j dj : Nat) (want : Bool) (ho : ops[k]? = some o) (hg : o.guard = some (j, want)) (hj : ops[j]? = some y) (hy : y.dst = some dj) (hR : R dj = undef) (hd : o.dst = some d) (hn : Nat.blt d n = true)
    (hk : ∀ R', (∀ t, Nat.beq t d = false → R' t = R t) → R' d = undef → SG P n ops (k + 1) R' w Q) : SG P n ops k R w Q :=
  SG.skipV d j dj want ho hg hj hy (by rw [hR]; simp [undef]) hd hn hk
end
end Go.Proofs.Ytmkgocdgkdglnaa
/- Arrays: readings, places in them, arrays of rows of our own; a row at a place that is handed to a call and comes back. No statement of the seat is proved here. -/
namespace Go.Proofs.Ytmkgocdgkdglnaa
open Go.RowKit
set_option linter.unusedVariables false

/-! ### readings -/
/-- n elements, one behind the other -/
def eAr0 {α : Type} : Enc (List α) where
  size := 0
  agg := true
  rep := fun _ _ xs cs => xs = [] ∧ cs = []
  len := by rintro A w x cs ⟨_, rfl⟩; rfl
  one := fun h => by cases h
  oc := by rintro A w x cs ⟨_, rfl⟩ c hc; cases hc
  stp := fun _ h => h
def eArS {α : Type} (E : Enc α) (G : Enc (List α)) : Enc (List α) where
  size := E.size + G.size
  agg := true
  rep := fun A w xs cs => ∃ x ys, xs = x :: ys ∧ (ePr E G).rep A w (x, ys) cs
  len := by rintro A w xs cs ⟨x, ys, _, h⟩; exact (ePr E G).len h
  one := fun h => by cases h
  oc := by rintro A w xs cs ⟨x, ys, _, h⟩; exact (ePr E G).oc h
  stp := by rintro A A' w w' xs cs hs ⟨x, ys, e, h⟩; exact ⟨x, ys, e, (ePr E G).stp hs h⟩
def eAr {α : Type} (E : Enc α) : Nat → Enc (List α)
  | 0 => eAr0
  | n + 1 => eArS E (eAr E n)
section
variable {α β : Type} {E : Enc α} {F : OE α} {A A0 : Av} {w : World} {S : Nat → Prop}
theorem eAr_len : ∀ {n : Nat} {xs : List α} {cs : List Value}, (eAr E n).rep A w xs cs → xs.length = n
  | 0, _, _, h => by rw [h.1]; rfl
  | n + 1, _, _, ⟨x, ys, e, c, d, _, _, h⟩ => by
    have := eAr_len (n := n) h
    rw [e, List.length_cons]
    have h2 : ys.length = n := this
    omega
theorem Fld.arN [Inhabited α] : ∀ (n i : Nat), i < n → Fld (eAr E n) (i * E.size) E fun xs => gtD xs (i : Int)
  | 0, i, h => absurd h (Nat.not_lt_zero _)
  | n + 1, 0, _ => ⟨by show 0 * E.size + E.size ≤ E.size + _; omega, by
    rintro A w xs cs ⟨x, ys, rfl, h⟩
    have := (Fld.fst (E := E) (F := eAr E n)).get h
    rw [Nat.zero_mul]
    exact this⟩
  | n + 1, i + 1, hi => by
    have ih := Fld.arN n i (by omega)
    have h2 := Fld.snd (E := E) ih
    have e : E.size + i * E.size = (i + 1) * E.size := by rw [Nat.add_mul, Nat.one_mul, Nat.add_comm]
    rw [e] at h2
    refine ⟨h2.le, ?_⟩
    rintro A w xs cs ⟨x, ys, rfl, h⟩
    have := h2.get h
    have e3 : gtD (x :: ys) ((i + 1 : Nat) : Int) = gtD ys (i : Int) := by
      unfold gtD
      rw [Int.toNat_natCast, Int.toNat_natCast]
      rfl
    rw [e3]
    exact this
theorem Fld.ar [Inhabited α] {n : Nat} {i : Int} (h : inR i n = true) : Fld (eAr E n) (i.toNat * E.size) E fun xs => gtD xs i := by
  obtain ⟨h0, h1⟩ := inR_iff.1 h
  have := Fld.arN (E := E) n i.toNat (by omega)
  have e : ((i.toNat : Nat) : Int) = i := by omega
  rwa [e] at this
theorem rep_ar0 : (eAr E 0).rep A w [] [] := ⟨rfl, rfl⟩
theorem rep_arc {n : Nat} {x : α} {ys : List α} {c d : List Value} (h : E.rep A w x c) (k : (eAr E n).rep A w ys d) : (eAr E (n + 1)).rep A w (x :: ys) (c ++ d) := ⟨x, ys, rfl, c, d, rfl, h, k⟩
/-! ### arrays of trees -/
def ownAr (F : OE α) : Nat → Av → World → (Nat → Prop) → List α → List Value → Prop
  | 0, _, _, S, xs, cs => xs = [] ∧ cs = [] ∧ ∀ k, ¬ S k
  | n + 1, A, w, S, xs, cs => ∃ x ys c d S1 S2, xs = x :: ys ∧ cs = c ++ d ∧ F.own A w S1 x c ∧ ownAr F n A w S2 ys d ∧ (∀ k, S k ↔ S1 k ∨ S2 k) ∧ ∀ k, S1 k → ¬ S2 k
theorem ownAr_lt {k : Nat} : ∀ {n : Nat} {S : Nat → Prop} {xs : List α} {cs : List Value}, ownAr F n A w S xs cs → S k → k < w.heap.size
  | 0, _, _, _, h, hk => (h.2.2 k hk).elim
  | n + 1, _, _, _, ⟨x, ys, c, d, S1, S2, _, _, h1, h2, h3, _⟩, hk => ((h3 k).1 hk).elim (fun h => F.lt h1 h) fun h => ownAr_lt h2 h
theorem ownAr_stab {A' : Av} {w' : World} (hs : Stp A A' w w') : ∀ {n : Nat} {S : Nat → Prop} {xs : List α} {cs : List Value}, ownAr F n A w S xs cs → (∀ k, S k → w'.heap[k]? = w.heap[k]?) → ownAr F n A' w' S xs cs
  | 0, _, _, _, h, _ => h
  | n + 1, _, _, _, ⟨x, ys, c, d, S1, S2, e1, e2, h1, h2, h3, h4⟩, hb => ⟨x, ys, c, d, S1, S2, e1, e2, F.stab h1 (fun k hk => hb k ((h3 k).2 (.inl hk))) hs, ownAr_stab hs h2 (fun k hk => hb k ((h3 k).2 (.inr hk))), h3, h4⟩
theorem ownAr_rep (hA : ∀ b o, A0 b o → A b o) : ∀ {n : Nat} {S : Nat → Prop} {xs : List α} {cs : List Value}, ownAr F n A w S xs cs → (∀ k o, S k → ¬ A0 k o) → (eAr F.E n).rep A0 w xs cs
  | 0, _, _, _, h, _ => ⟨h.1, h.2.1⟩
  | n + 1, _, _, _, ⟨x, ys, c, d, S1, S2, e1, e2, h1, h2, h3, h4⟩, hn => ⟨x, ys, e1, c, d, e2, F.rep h1 hA fun k o hk => hn k o ((h3 k).2 (.inl hk)), ownAr_rep hA h2 fun k o hk => hn k o ((h3 k).2 (.inr hk))⟩
def oAr (n : Nat) (F : OE α) : OE (List α) where
  E := eAr F.E n
  own := ownAr F n
  lt := fun h hk => ownAr_lt h hk
  stab := fun h hb hs => ownAr_stab hs h hb
  rep := fun h hA hn => ownAr_rep hA h hn
theorem own_ar0 : (oAr 0 F).own A w (fun _ => False) [] [] := ⟨rfl, rfl, fun _ h => h⟩
theorem own_arc {n : Nat} {x : α} {ys : List α} {c d : List Value} (h : F.own A w (fun _ => False) x c) (k : (oAr n F).own A w (fun _ => False) ys d) : (oAr (n + 1) F).own A w (fun _ => False) (x :: ys) (c ++ d) :=
  ⟨x, ys, c, d, _, _, rfl, rfl, h, k, fun _ => ⟨.inl, fun h => h.elim id id⟩, fun _ h => h.elim⟩
theorem Hole.arP {n b off : Nat} {x : α} {ys : List α} {S1 : Nat → Prop} {cs : List Value} {Q : List α → Pw} (h : Hole (oAr (n + 1) F) A w S b off (x :: ys) S1 cs Q) : Hole (oPr F (oAr n F)) A w S b off (x, ys) S1 cs (fun z => Q (z.1 :: z.2)) := by
  refine ⟨?_, h.at', h.inb, h.out, h.sub, h.blk, fun A' w' S1' y' ds k1 k2 k3 k4 k5 k6 => h.put A' w' S1' (y'.1 :: y'.2) ds ?_ k2 k3 k4 k5 k6⟩
  · obtain ⟨x', ys', c, d, Sa, Sb, e, h1⟩ := h.own
    obtain ⟨rfl, rfl⟩ := List.cons.inj e
    exact ⟨c, d, Sa, Sb, h1⟩
  · obtain ⟨c, d, Sa, Sb, h1⟩ := k1
    exact ⟨y'.1, y'.2, c, d, Sa, Sb, rfl, h1⟩
theorem Hole.ar : ∀ {n b off : Nat} {xs : List α} {S1 : Nat → Prop} {cs : List Value} {Q : List α → Pw} (i : Nat) {x : α}, Hole (oAr n F) A w S b off xs S1 cs Q → xs[i]? = some x → ∃ S2 ds, Hole F A w S b (off + i * F.E.size) x S2 ds (fun z => Q (xs.set i z))
  | 0, b, off, xs, S1, cs, Q, i, x, h, hx => by
    have := h.own.1
    rw [this] at hx
    simp at hx
  | n + 1, b, off, xs, S1, cs, Q, i, x, h, hx => by
    obtain ⟨x0, ys, c, d, Sa, Sb, rfl, _⟩ := h.own
    have hp := h.arP
    cases i with
    | zero =>
      simp only [List.getElem?_cons_zero, Option.some.injEq] at hx
      subst hx
      rw [Nat.zero_mul, Nat.add_zero]
      exact hp.fst
    | succ i =>
      obtain ⟨S2, ds, h2⟩ := hp.snd
      have := Hole.ar i h2 (by simpa using hx)
      rw [show off + F.E.size + i * F.E.size = off + (i + 1) * F.E.size by rw [Nat.add_mul, Nat.one_mul]; omega] at this
      exact this
theorem HoleA.ar [Inhabited α] {n m : Nat} {a : Value} {xs : List α} {Q : List α → Pw} (h : HoleA (oAr n F) A w S a xs Q) {i : Int} (hi : inR i n = true) (hm : i.toNat * F.E.size = m) : HoleA F A w S (padd a m) (gtD xs i) (fun z => Q (xs.set i.toNat z)) := by
  subst hm
  obtain ⟨b, off, S1, cs, rfl, h⟩ := h
  have hl : xs.length = n := eAr_len (E := F.E) (ownAr_rep (A0 := av0) (F := F) (fun _ _ h => h.elim) h.own fun _ _ _ h => h)
  obtain ⟨S2, ds, h2⟩ := h.ar i.toNat (getD_at (hl.symm ▸ hi))
  exact ⟨b, off + i.toNat * F.E.size, S2, ds, rfl, h2⟩
end
/-! ### operations -/
section
variable {P : Program} {R : Reg} {w : World} {d : Option Nat} {t : TypeId} {p : String} {af : Array Edge} {g : Option (Nat × Bool)} {A A0 : Av} {α β : Type} {S S0 : Nat → Prop}
variable {E : Enc α} {F : OE α} {x ix : Operand} {T e : TypeId} {K : Nat → Prop} {u a v : Value}
theorem of_indexAddr_ar {n s m : Nat} {k : IntKind} {i : Int} (h : ∃ b off, a = .pointer (some ⟨b, off, none⟩)) (hx : evalR R x = a) (hi : evalR R ix = .int k i) (hu : P.underlying T = some (.array n e)) (hsz : ∀ w, (sizeOf e).run P w = .ok s w) (hr : inR i n = true) (hm : i.toNat * s = m) :
    OpF P ⟨d, .indexAddr T x ix, t, p, af, g⟩ R w (.raw (padd a m)) := by
  subst hm
  obtain ⟨b, off, rfl⟩ := h
  obtain ⟨i0, i1⟩ := inR_iff.1 hr
  refine opr_val (v := .pointer (some ⟨b, off + i.toNat * s, none⟩)) (w' := w) ?_ ⟨rfl, Fr.refl _⟩
  have hadd : ∀ j, (⟨b, off, none⟩ : Addr).add j = ⟨b, off + j, none⟩ := addr_add b off
  simp [execOp, Instr.indexAt, Instr.sureAddr, hx, hi, asIntOf, underlying, hu, i0, i1, hsz, hadd]
theorem of_indexAddr_arb {n s m b : Nat} {k : IntKind} {i : Int} (hx : evalR R x = .pointer (some ⟨b, 0, none⟩)) (hi : evalR R ix = .int k i) (hu : P.underlying T = some (.array n e)) (hsz : ∀ w, (sizeOf e).run P w = .ok s w) (hr : inR i n = true) (hm : i.toNat * s = m) :
    OpF P ⟨d, .indexAddr T x ix, t, p, af, g⟩ R w (.raw (.pointer (some ⟨b, m, none⟩))) := by
  have h := of_indexAddr_ar (d := d) (t := t) (p := p) (af := af) (g := g) (w := w) ⟨b, 0, rfl⟩ hx hi hu hsz hr hm
  have e : padd (.pointer (some ⟨b, 0, none⟩)) m = .pointer (some ⟨b, m, none⟩) := by
    unfold padd
    simp
  rwa [e] at h
/-- a row at a place, taken by an operation that gives one back -/
theorem pend_of_took {o : Oper} {xs zs : List α} {Q : List α → Pw} {u0 : Value} {S' : Nat → Prop} (h : HoleA (oSl e (oRd E)) A w S a xs Q) (hp : PinOK w S' (a, [v])) (hav : ∀ k, S k → ∀ o, A k o) (hB : ∀ k, S k → K k) (hBw : ∀ k, w.heap.size ≤ k → K k) (hlt : ∀ k, S k → k < w.heap.size)
    (hO : (Res.vec 0 e E xs).ok A v w → (∀ k, ownsB v k → ∀ o, A k o) → OpR P o R w (Took A true v (.vec 0 e E zs) (fun _ => .any) w)) (hT : e ≠ tByte := by decide) :
    OpR P o R w (TookS A true u0 S (.gen K (pdP (oSl e (oRd E)) a Q zs)) (fun _ => .any) w) := by
  obtain ⟨b, off, S1, cs, rfl, h⟩ := h
  obtain ⟨b', o', e0, _, hc⟩ := hp
  injection e0 with e0
  injection e0 with e0
  injection e0 with e1 e2
  subst e1 e2
  have hl1 : cs.length = 1 := (oSl e (oRd E)).len h.own
  obtain rfl : cs = [v] := by
    match cs, hl1 with
    | [c], _ =>
      have h1 := h.at' 0 c rfl
      have h2 := hc 0 v rfl
      rw [h1] at h2
      injection h2 with h2
      rw [h2]
  obtain ⟨hv, rfl⟩ := vec_of_own (B := 0) (v := v) h.own rfl (fun _ _ => Nat.zero_le _)
  have hS1 : ∀ k, ownsB v k → S k := h.sub
  have hbo : ¬ ownsB v b := h.out
  refine (hO hv fun k hk => hav k (hS1 k hk)).mono ?_
  rintro v' w2 ⟨u2, rfl, hch, hsame, hst0, hok, _⟩
  have hch' : Ch S w w2 := ⟨hch.os, hch.tape, hch.output, hch.size, fun k hk hn => hch.block k hk fun hk' => hn (hS1 k hk'), hch.drawn⟩
  have hold : ∀ k, S k → ¬ ownsB v k → w2.heap[k]? = w.heap[k]? := fun k hk hn => hch.block k (hlt k hk) hn
  have hsub : ∀ k, k < w.heap.size → ((S k ∧ ¬ ownsB v k) ∨ ownsB u2 k) → S k := fun k hk hs => hs.elim (·.1) fun hs => hS1 k (hsame k hk hs)
  have hst := stp_swapS (A := A) hav hch' hsub
  refine ⟨u2, fun k => (S k ∧ ¬ ownsB v k) ∨ ownsB u2 k, rfl, hch', hsub, hst, trivial, ⟨fun k hk => ?_, ?_⟩, trivial⟩
  · rcases hk with hk | hk
    · exact hB k hk.1
    · rcases Nat.lt_or_ge k w.heap.size with hl2 | hg
      · exact hB k (hS1 k (hsame k hl2 hk))
      · exact hBw k hg
  · obtain ⟨cs2, he2, ho2⟩ := own_of_vec hok hT
    obtain ⟨arr, T0, hblk, hsz⟩ := h.blk
    have hdis : ∀ k, ownsB u2 k → ¬ (S k ∧ ¬ ownsB v k) := fun k hk hn => hn.2 (hsame k (hlt k hn.1) hk)
    have hb2 := hold b h.inb hbo
    refine ⟨b, off, ownsB u2, fun k => S k ∧ ¬ ownsB v k, cs2, rfl, he2, OE.stab _ ho2 (fun _ _ => rfl) (stp_down fun k o hk => ?_), fun k => Iff.rfl, hdis, ⟨h.inb, hbo⟩, ⟨arr, T0, hb2.trans hblk, hsz⟩, fun k hk => Nat.lt_of_lt_of_le (hlt k hk.1) hch.size, fun A' w' S1' y' ds k1 k2 k3 k4 k5 k6 => ?_⟩
    · rcases hk with ⟨h1, h2⟩ | ⟨h1, h2⟩ | h1
      · exact .inl ⟨h1, fun hk => h2 (hS1 k hk)⟩
      · exact .inl ⟨hav k h1 o, h2⟩
      · exact .inr h1
    · obtain ⟨arr0, arr1, T1, j1, j2, j3, j4⟩ := k3
      exact h.put A' w' S1' y' ds k1 k2 ⟨arr0, arr1, T1, hb2.symm.trans j1, j2, j3, j4⟩ (fun k a1 a2 a3 => (k4 k ⟨a1, a2⟩ a3).trans (hold k a1 a2)) (hst.trans k5) (fun k a1 a2 => Classical.byContradiction fun hn => k6 k a1 ⟨a2, hn⟩)
end
end Go.Proofs.Ytmkgocdgkdglnaa
/- Sorting a row of our own, over the library's laid contracts: what is alike. No statement of the seat is proved here. -/
namespace Go.Proofs.Ytmkgocdgkdglnaa
open Go.RowKit Go.Sort
set_option linter.unusedVariables false

section
variable {α β : Type} [Inhabited β]
theorem putRow_ch {enc : β → Value} {w : World} {blk n : Nat} {d : Array β} {os : Array Obj} {u : Value} (hu : ownsB u blk) : Ch (ownsB u) w (grow (putRow enc (Go.Sort.ahead w n) blk 0 d) os) := by
  refine ⟨rfl, rfl, rfl, ?_, fun k hk hn => ?_, ?_⟩
  · simp [grow, putRow, mapBlock, Go.Sort.ahead]
  · have hne : blk ≠ k := fun e => hn (e ▸ hu)
    simp only [grow, putRow, mapBlock, Go.Sort.ahead]
    rw [Array.getElem?_append_left (by simpa using hk), Array.getElem?_modify, if_neg hne]
  · intro _; simp [grow, putRow, mapBlock, Go.Sort.ahead]
theorem BlkM.putRw {enc : β → Value} {w : World} {g n : Nat} {T : TypeId} {cur : Array Value} {d : Array β} {os : Array Obj} (h : BlkM w g T cur) : BlkM (grow (putRow enc (Go.Sort.ahead w n) g 0 d) os) g T (putCells enc 0 d cur) := by
  obtain ⟨fz, h1, h2⟩ := h
  refine ⟨fz, ?_, by simpa [putCells] using h2⟩
  have hlt := (Array.getElem?_eq_some_iff.1 h1).1
  simp only [grow, putRow, mapBlock, Go.Sort.ahead]
  rw [Array.getElem?_append_left (by simpa using hlt), Array.getElem?_modify, if_pos rfl, h1]
  rfl
/-- a row of one cell an element, the library's way -/
theorem vec_holds {E : Enc α} {enc : β → Value} {f : β → α} {A : Av} {B T blk cap : Nat} {w : World} {xs : List α} {d : Array β} (hs : E.size = 1) (henc : ∀ (b : β) A w cs, E.rep A w (f b) cs → cs = [enc b]) (hd : d.toList.map f = xs) (h : Vec E A B T w (.slice (some ⟨blk, 0, none⟩) xs.length cap) xs) : Holds enc w blk 0 d := by
  obtain ⟨cs, hown, hf⟩ := h
  intro j hj
  have hlen : d.size = xs.length := by rw [← hd]; simp
  have hx : xs[j]? = some (f d[j]!) := by
    rw [← hd, List.getElem?_map]
    simp [hj]
  obtain ⟨ds, h1, h2⟩ := hf.2 j _ hx
  have h3 := henc _ _ _ _ h1
  subst h3
  have h4 := h2 0 _ rfl
  rw [hs, Nat.mul_one, Nat.add_zero] at h4
  refine ⟨?_, ?_⟩
  · have := hown.cells (g := blk) rfl j _ h4
    rwa [addr_add] at this
  · rcases hown.2 with ⟨e, _⟩ | ⟨g, cap', cur, e, hb, hg, hnc, _, hcs, _⟩
    · cases e
    · injection e with e1 e2 e3
      injection e1 with e1
      injection e1 with e1
      subst e1
      rw [Nat.zero_add]
      exact hg.frozen j (by rw [hcs, hs]; omega)
theorem vec_put {E : Enc α} {enc : β → Value} {f : β → α} {A : Av} {B T blk cap n : Nat} {w : World} {xs ys : List α} {d : Array β} {os : Array Obj} (hs : E.size = 1) (henc : ∀ (b : β) A w cs, E.rep A w (f b) cs → cs = [enc b])
    (hrep : ∀ A w A' w' x cs, E.rep A w x cs → E.rep A' w' x cs) (hd : d.toList.map f = ys) (hl : ys.length = xs.length) (hsub : ∀ y ∈ ys, y ∈ xs) (h : Vec E A B T w (.slice (some ⟨blk, 0, none⟩) xs.length cap) xs) :
    Vec E A B T (grow (putRow enc (Go.Sort.ahead w n) blk 0 d) os) (.slice (some ⟨blk, 0, none⟩) xs.length cap) ys := by
  obtain ⟨cs, hown, hf⟩ := h
  have hrow : ∀ y ∈ ys, ∃ b : β, f b = y ∧ ∀ A w, E.rep A w y [enc b] := by
    intro y hy
    obtain ⟨b, hb, rfl⟩ := List.mem_map.1 (hd ▸ hy)
    obtain ⟨i, hi⟩ := List.mem_iff_getElem?.1 (hsub _ hy)
    obtain ⟨ds, h1, h2⟩ := hf.2 i _ hi
    have h3 := henc _ _ _ _ h1
    subst h3
    exact ⟨b, rfl, fun A' w' => hrep _ _ _ _ _ _ h1⟩
  rcases hown.2 with ⟨e, _⟩ | ⟨g, cap', cur, e, hb, hg, hnc, hcm, hcs, htk⟩
  · cases e
  · injection e with e1 e2 e3
    injection e1 with e1
    injection e1 with e1
    subst e1 e3
    have hds : d.size = ys.length := by rw [← hd]; simp
    have hcur : ∀ j, j < ys.length → (putCells enc 0 d cur)[j]? = some (enc d[j]!) := fun j hj => by
      have hjc : j < cur.size := by rw [hcs, hs]; omega
      simp only [putCells, Array.getElem?_mapIdx]
      rw [Array.getElem?_eq_getElem hjc]
      simp [hds, hj]
    have hlay : (putCells enc 0 d cur).toList.take (ys.length * E.size) = d.toList.map enc := by
      rw [hs, Nat.mul_one]
      apply List.ext_getElem?
      intro j
      by_cases hj : j < ys.length
      · rw [List.getElem?_take, if_pos hj, Array.getElem?_toList, hcur j hj, List.getElem?_map]
        simp [hds, hj]
      · rw [List.getElem?_take, if_neg hj, List.getElem?_eq_none (by simp [hds]; omega)]
    refine ⟨d.toList.map enc, ⟨by simp [hds, hs], .inr ⟨blk, cap, putCells enc 0 d cur, by rw [hl], hb, hg.putRw, by rw [hl]; exact hnc, hcm, by simp [putCells, hcs], hlay⟩⟩, by simp [hds, hs], fun i y hy => ?_⟩
    · obtain ⟨b, hb', hr⟩ := hrow y (List.mem_of_getElem? hy)
      have hiy : i < ys.length := (List.getElem?_eq_some_iff.1 hy).1
      have hfd : f d[i]! = y := by
        rw [← hd, List.getElem?_map] at hy
        simp [hds, hiy] at hy
        simpa [hds, hiy] using hy
      have h1 := hr A (grow (putRow enc (Go.Sort.ahead w n) blk 0 d) os)
      have h2 := henc d[i]! A w _ (hfd ▸ hr A w)
      injection h2 with h2
      refine ⟨[enc b], h1, fun j u hj => ?_⟩
      cases j with
      | zero =>
        simp at hj
        subst hj
        rw [hs, Nat.mul_one, Nat.add_zero, List.getElem?_map, h2]
        simp [hds, hiy]
      | succ j => simp at hj
/-- the row of a value -/
theorem vec_cases {E : Enc α} {A : Av} {B T : Nat} {w : World} {u : Value} {xs : List α} (h : Vec E A B T w u xs) : (u = .slice none 0 0 ∧ xs = []) ∨ ∃ blk cap, u = .slice (some ⟨blk, 0, none⟩) xs.length cap ∧ blk < w.heap.size := by
  obtain ⟨cs, hown, _⟩ := h
  rcases hown.2 with ⟨e, h0⟩ | ⟨g, cap, cur, e, _, hg, _⟩
  · exact .inl ⟨e, List.eq_nil_of_length_eq_zero h0⟩
  · exact .inr ⟨g, cap, e, hg.lt⟩
end
end Go.Proofs.Ytmkgocdgkdglnaa
/-
  DERIVED: THE SHELF's CONTRACTS AT THIS DUMP, IN PLAIN WORDS (tools/lay-plain.mjs out of 'YtmkgocdgkdglnaaLay.lean', which tools/lay-shelf.mjs wrote): THE SAME DECLARATIONS UNDER THE SAME NAMES: 'import', 'namespace', 'open', 'def', 'theorem' AND NOTHING ELSE: no command of the shelf's: FOR A HAND-IN. Each laying: the table of numbers ('.._ren') and one theorem, a field a fact of the dump's own or the kernel's comparison; each contract: ONE APPLICATION.
-/
namespace Go.Proofs
open Go.Shelf
def Try.laysSortI_ren : Go.Shelf.Ren := ⟨fun | 189 => 66 | 125 => 94 | 257 => 93 | 128 => 118 | 129 => 119 | 294 => 109 | 295 => 110 | 296 => 111 | 297 => 112 | 298 => 113 | 299 => 114 | 216 => 115 | 300 => 116 | 301 => 117 | 328 => 131 | 329 => 132 | 330 => 133 | 331 => 134 | 332 => 135 | 215 => 96 | 343 => 142 | n => n, fun | 28 => 33 | 3 => 3 | 46 => 121 | 0 => 0 | 51 => 142 | 53 => 144 | 4 => 4 | 183 => 134 | 182 => 133 | 131 => 139 | 5 => 5 | 9 => 9 | 218 => 155 | 222 => 159 | 228 => 166 | 229 => 167 | n => n, fun | n => n⟩
theorem Try.laysSortI : Go.Proofs.Lays.n189 Try.prog Try.laysSortI_ren := {
  mixed := by kernel_rfl
  f125 := Try.func94.trans (congrArg some (by kernel_rfl))
  f128 := Try.func118.trans (congrArg some (by kernel_rfl))
  f129 := Try.func119.trans (congrArg some (by kernel_rfl))
  f189 := Try.func66.trans (congrArg some (by kernel_rfl))
  f215 := Try.func96.trans (congrArg some (by kernel_rfl))
  f216 := Try.func115.trans (congrArg some (by kernel_rfl))
  f257 := Try.func93.trans (congrArg some (by kernel_rfl))
  f294 := Try.func109.trans (congrArg some (by kernel_rfl))
  f295 := Try.func110.trans (congrArg some (by kernel_rfl))
  f296 := Try.func111.trans (congrArg some (by kernel_rfl))
  f297 := Try.func112.trans (congrArg some (by kernel_rfl))
  f298 := Try.func113.trans (congrArg some (by kernel_rfl))
  f299 := Try.func114.trans (congrArg some (by kernel_rfl))
  f300 := Try.func116.trans (congrArg some (by kernel_rfl))
  f301 := Try.func117.trans (congrArg some (by kernel_rfl))
  f328 := Try.func131.trans (congrArg some (by kernel_rfl))
  f329 := Try.func132.trans (congrArg some (by kernel_rfl))
  f330 := Try.func133.trans (congrArg some (by kernel_rfl))
  f331 := Try.func134.trans (congrArg some (by kernel_rfl))
  f332 := Try.func135.trans (congrArg some (by kernel_rfl))
  f343 := Try.func142.trans (congrArg some (by kernel_rfl))
  t0 := Try.underlying0
  a0 := Try.isAgg0
  z0 := Try.sizeOf0
  v0 := Try.zeroValue0
  t3 := Try.underlying3
  a3 := Try.isAgg3
  z3 := Try.sizeOf3
  v3 := Try.zeroValue3
  t4 := Try.underlying4
  a4 := Try.isAgg4
  z4 := Try.sizeOf4
  v4 := Try.zeroValue4
  t5 := Try.underlying5
  a5 := Try.isAgg5
  z5 := Try.sizeOf5
  v5 := Try.zeroValue5
  t9 := Try.underlying9
  a9 := Try.isAgg9
  z9 := Try.sizeOf9
  v9 := Try.zeroValue9
  t28 := Try.underlying33
  a28 := Try.isAgg33
  z28 := Try.sizeOf33
  v28 := Try.zeroValue33
  t46 := Try.underlying121
  a46 := Try.isAgg121
  z46 := Try.sizeOf121
  v46 := Try.zeroValue121
  t51 := Try.underlying142
  a51 := Try.isAgg142
  z51 := Try.sizeOf142
  v51 := Try.zeroValue142
  t53 := Try.underlying144
  a53 := Try.isAgg144
  z53 := Try.sizeOf144
  v53 := Try.zeroValue144
  t131 := Try.underlying139
  a131 := Try.isAgg139
  z131 := Try.sizeOf139
  v131 := Try.zeroValue139
  t182 := Try.underlying133
  a182 := Try.isAgg133
  z182 := Try.sizeOf133
  v182 := Try.zeroValue133
  t183 := Try.underlying134
  a183 := Try.isAgg134
  z183 := Try.sizeOf134
  v183 := Try.zeroValue134
  t218 := Try.underlying155
  a218 := Try.isAgg155
  z218 := Try.sizeOf155
  v218 := Try.zeroValue155
  t222 := Try.underlying159
  a222 := Try.isAgg159
  z222 := Try.sizeOf159
  v222 := Try.zeroValue159
  t228 := Try.underlying166
  a228 := Try.isAgg166
  z228 := Try.sizeOf166
  v228 := Try.zeroValue166
  t229 := Try.underlying167
  a229 := Try.isAgg167
  z229 := Try.sizeOf167
  v229 := Try.zeroValue167 }
end Go.Proofs
/- Sorting a row of ints of our own, over the library's laid contracts. No statement of the seat is proved here. -/
namespace Go.Proofs.Ytmkgocdgkdglnaa
open Go.RowKit Go.Sort
set_option linter.unusedVariables false

theorem enc_int (b : Int) (A : Av) (w : World) (cs : List Value) (h : (eInt .i64).rep A w b cs) : cs = [Value.int .i64 b] := h
def M_sortI (fu : Nat) (p0 : List Int) : Option (List Int) := ck (lenOK p0.length) (some (p0.mergeSort fun x y => decide (x ≤ y)))
theorem M_sortI_ok {fu : Nat} {A0 : Av} {p0 r : List Int} (hr : M_sortI fu p0 = some r) {w : World} {v0 : Value} {B0 : Nat} (hA : AvOK A0 w) (hN : ∀ b o, A0 b o → ¬ ownsB v0 b) (h0 : (Res.vec B0 3 (eInt .i64) p0).ok A0 v0 w) :
    Calls Try.prog 66 #[v0] w fun e w' => ∃ v, e = .returned v ∧ (v = .tuple #[] ∧ (Res.vec B0 3 (eInt .i64) r).ok A0 v0 w' ∧ Ch (ownsB v0) w w') := by
  obtain ⟨hlen, hr⟩ := ck_some hr
  obtain rfl := Option.some.inj hr
  rcases vec_cases h0 with ⟨rfl, rfl⟩ | ⟨blk, cap, rfl, hb⟩
  · refine (Any.slices_Sort_int_none Try.laysSortI none 0 w).mono ?_
    rintro e w' ⟨he, rfl⟩
    exact ⟨_, he, rfl, by rw [List.mergeSort_nil]; exact h0, Ch.refl _ _⟩
  · have hH : Holds (Value.int .i64) w blk 0 p0.toArray := vec_holds (E := eInt .i64) (f := fun x => x) rfl (fun b A w cs h => enc_int b A w cs h) (by simp) h0
    refine (Any.slices_Sort_int Try.laysSortI blk 0 cap p0 w hH hb (by have := lenOK_le hlen; omega)).mono ?_
    rintro e w' ⟨he, n, os, rfl⟩
    refine ⟨_, he, rfl, ?_, putRow_ch rfl⟩
    have := vec_put (E := eInt .i64) (enc := Value.int .i64) (f := fun x => x) (n := n) (os := os) (ys := p0.mergeSort fun x y => decide (x ≤ y)) (d := (p0.mergeSort fun x y => decide (x ≤ y)).toArray) rfl (fun b A w cs h => enc_int b A w cs h) (fun _ _ _ _ _ _ h => h) (by simp) (by simp) (fun y hy => (List.mem_mergeSort.1 hy)) h0
    exact this
end Go.Proofs.Ytmkgocdgkdglnaa
/- Base of chains with arrays, rows at places, a sort of integers. No statement of the seat is proved here. -/
/- Trees that become plain variables. No statement of the seat is proved here. -/
namespace Go.Proofs.Ytmkgocdgkdglnaa
open Go.RowKit
set_option linter.unusedVariables false

section
variable {α : Type} {F : OE α} {A A0 : Av} {w : World} {S K : Nat → Prop}
end

/-! a variable whose row has gone into another row: its content is read; later it is filled anew -/
section
variable {α : Type} {F : OE α} {A A0 : Av} {w : World} {S K : Nat → Prop}
variable {P : Program} {R : Reg} {t : TypeId} {p : String} {af : Array Edge} {g : Option (Nat × Bool)} {x : Operand} {u : Value}
theorem took_refill {β : Type} {E' : Enc β} {ad : Operand} {T' Tb : TypeId} {a0 : β} {y' : α} {Sv ST S0 : Nat → Prop} {cs : List Value} {pins : List Pin} (h : (trP (oPt Tb (oRd E')) a0 pins).P A w S0 u) (hv : F.own A w Sv y' cs) (hxv : evalR R x = F.E.val cs) (had : evalR R ad = u) (hd : ∀ k, S0 k → ¬ Sv k) (hST : ∀ k, ST k ↔ S0 k ∨ Sv k) (hav : ∀ k, ST k → ∀ o, A k o)
    (hB : ∀ k, ST k → K k) (hsz : ∀ w, (sizeOf T').run P w = .ok F.E.size w) (hE : E'.size = F.E.size) : OpR P ⟨none, .store T' ad x, t, p, af, g⟩ R w (TookS A false u ST (trR K (oPt Tb F) y' []) (fun _ => .any) w) := by
  obtain ⟨⟨es, e, b, ds, S1, rfl, hb, ⟨hno, hr⟩, h3, h4⟩, _⟩ := h
  have hu : u = .pointer (some ⟨b, 0, none⟩) := e
  have hSb : S0 b := (h4 b).2 (.inl rfl)
  have hcs := F.len hv
  have hcl := F.cells hv
  have hvb : ¬ Sv b := hd b hSb
  have hdl := (E'.len hr).trans hE
  obtain ⟨w', h1, h2, h3'⟩ := run_storeVar (P := P) (o := 0) (v := evalR R x) hsz (by rw [hxv, hcl]; exact F.oc hv) (by rw [hxv, ← Array.length_toList, hcl]; exact hcs) hb (by simp; omega)
  rw [hxv, hcl] at h3'
  refine opr_skip (w' := w') ?_ ?_
  · simp only [execOp, Instr.storeAt, Instr.sureAddr, had, hu]
    simp [h1]
  · have hch : Ch ST w w' := ⟨h2.ch.os, h2.ch.tape, h2.ch.output, h2.ch.size, fun k hk hn => h2.ch.block k hk fun e => hn ((hST k).2 (.inl (e ▸ hSb))), h2.ch.drawn⟩
    have hsub : ∀ k, k < w.heap.size → (k = b ∨ Sv k) → ST k := fun k _ hk => (hST k).2 (hk.elim (fun h => .inl (h ▸ hSb)) .inr)
    have hst := stp_swapS hav hch hsub
    have hne : ∀ k, Sv k → k ≠ b := fun k hk e => hvb (e ▸ hk)
    have hv' : F.own (swapS A ST fun k => k = b ∨ Sv k) w' Sv y' cs := F.stab hv (fun k hk => h2.block k (hne k hk)) hst
    refine ⟨u, fun k => k = b ∨ Sv k, rfl, hch, hsub, hst, trivial, ⟨fun k hk => hB k ((hST k).2 (hk.elim (fun h => .inl (h ▸ hSb)) .inr)), ⟨⟨[.pointer (some ⟨b, 0, none⟩)], hu, b, cs, Sv, rfl, ?_, hv', hvb, fun k => Iff.rfl⟩, fun q hq => by cases hq⟩⟩, trivial⟩
    have e2 : lay ds.toArray 0 cs = cs.toArray := by
      rw [lay_list _ _ _ (by omega), List.take_zero, List.nil_append, List.drop_of_length_le (by omega), List.append_nil]
    rw [← e2]
    exact h3'
theorem took_refill2 {β : Type} {E' : Enc β} {ad : Operand} {T' Tb : TypeId} {a0 : β} {y' : α} {pins : List Pin} {ρ : Nat → Value} {σ : Nat → Nat → Prop} {c1 c2 : Nat} (hne : Nat.beq c1 c2 = false) (h : (trP (oPt Tb (oRd E')) a0 pins).P A w (σ c1) u) (hv : ∃ cs, ρ c2 = F.E.val cs ∧ F.own A w (σ c2) y' cs) (hx : evalR R x = ρ c2) (had : evalR R ad = u)
    (hav : ∀ d, d ∈ [c1, c2] → ∀ k, σ d k → ∀ o, A k o) (hdd : ∀ d d', d ∈ [c1, c2] → d' ∈ [c1, c2] → d ≠ d' → ∀ k, σ d k → ¬ σ d' k) (hB1 : ∀ k, σ c1 k → K k) (hB2 : ∀ k, σ c2 k → K k) (hsz : ∀ w, (sizeOf T').run P w = .ok F.E.size w) (hE : E'.size = F.E.size := by rfl) :
    OpR P ⟨none, .store T' ad x, t, p, af, g⟩ R w (TookS A false u (fun k => ∃ d, d ∈ [c1, c2] ∧ σ d k) (trR K (oPt Tb F) y' []) (fun _ => .any) w) := by
  obtain ⟨cs, e, hv⟩ := hv
  have hm1 : c1 ∈ [c1, c2] := .head _
  have hm2 : c2 ∈ [c1, c2] := .tail _ (.head _)
  have hne' : c1 ≠ c2 := fun h => by subst h; simp at hne
  have hST : ∀ k, (∃ d, d ∈ [c1, c2] ∧ σ d k) ↔ σ c1 k ∨ σ c2 k := fun k => by
    constructor
    · rintro ⟨d, hd, hk⟩
      rcases List.mem_cons.1 hd with hd | hd
      · exact .inl (hd ▸ hk)
      · exact .inr (List.mem_singleton.1 hd ▸ hk)
    · exact fun h => h.elim (fun h => ⟨c1, hm1, h⟩) fun h => ⟨c2, hm2, h⟩
  exact took_refill h hv (hx.trans e) had (hdd c1 c2 hm1 hm2 hne') hST (fun k ⟨d, hd, h⟩ => hav d hd k h) (fun k hk => ((hST k).1 hk).elim (hB1 k) (hB2 k)) hsz hE
end

/-! a variable and its content, apart: the content goes elsewhere, the variable is filled anew -/
/-- cells as they are -/
def eRaw (n : Nat) (ag : Bool) (h : ag = false → n = 1) : Enc (List Value) where
  size := n
  agg := ag
  rep := fun _ _ x cs => cs = x ∧ x.length = n ∧ ∀ c ∈ x, c.oneCell' = true
  len := by rintro A w x cs ⟨rfl, h, _⟩; exact h
  one := h
  oc := by rintro A w x cs ⟨rfl, _, h⟩; exact h
  stp := fun _ h => h
abbrev rawOf {α : Type} (F : OE α) : Enc (List Value) := eRaw F.E.size F.E.agg F.E.one
section
variable {α : Type} {F : OE α} {A A0 : Av} {w : World} {S K : Nat → Prop}
theorem IniOK.splitR {T : TypeId} {u : Value} {x : α} {pins : List Pin} {rest : List Ob} (h : IniOK (⟨u, S, trR K (oPt T F) x pins⟩ :: rest) A w) :
    ∃ (cs : List Value) (v : Value) (S0 S1 : Nat → Prop), v = F.E.val cs ∧ IniOK (⟨u, S0, trR K (oPt T (oRd (rawOf F))) cs []⟩ :: ⟨v, S1, trR K F x []⟩ :: rest) A w := by
  obtain ⟨hK, ⟨es, e, b, ds, S1, rfl, hb, hF, h3, h4⟩, _⟩ := h.own 0 _ rfl
  have hav := (h.ok 0 _ rfl).2
  have h0 : ∀ k, k = b → S k := fun k hk => (h4 k).2 (.inl hk)
  have h1 : ∀ k, S1 k → S k := fun k hk => (h4 k).2 (.inr hk)
  have hrest : ∀ (j : Nat) q, rest[j]? = some q → ∀ k, S k → ¬ q.S k := fun j q hq k hk hk' => h.dis 0 (j + 1) _ q rfl hq (by omega) k hk hk'
  refine ⟨ds, _, fun k => k = b, S1, rfl, fun i p hp => ?_, fun i p hp => ?_, fun i j p q hp hq hne k hk hk' => ?_⟩
  · match i, hp with
    | 0, hp => obtain rfl := Option.some.inj hp; exact ⟨trivial, fun k hk o => hav k (h0 k hk) o⟩
    | 1, hp => obtain rfl := Option.some.inj hp; exact ⟨trivial, fun k hk o => hav k (h1 k hk) o⟩
    | i + 2, hp => exact h.ok (i + 1) p hp
  · match i, hp with
    | 0, hp =>
      obtain rfl := Option.some.inj hp
      exact ⟨fun k hk => hK k (h0 k hk), ⟨[.pointer (some ⟨b, 0, none⟩)], e, b, ds, fun _ => False, rfl, hb, ⟨fun _ h => h, rfl, F.len hF, F.oc hF⟩, fun h => h, fun k => ⟨.inl, fun h => h.elim id False.elim⟩⟩, fun q hq => by cases hq⟩
    | 1, hp =>
      obtain rfl := Option.some.inj hp
      exact ⟨fun k hk => hK k (h1 k hk), ⟨ds, rfl, hF⟩, fun q hq => by cases hq⟩
    | i + 2, hp => exact h.own (i + 1) p hp
  · match i, j, hp, hq with
    | 0, 0, _, _ => exact hne rfl
    | 1, 1, _, _ => exact hne rfl
    | 0, 1, hp, hq =>
      obtain rfl := Option.some.inj hp
      obtain rfl := Option.some.inj hq
      have hk : k = b := hk
      exact h3 (hk ▸ hk')
    | 1, 0, hp, hq =>
      obtain rfl := Option.some.inj hp
      obtain rfl := Option.some.inj hq
      have hk' : k = b := hk'
      exact h3 (hk' ▸ hk)
    | 0, j + 2, hp, hq =>
      obtain rfl := Option.some.inj hp
      exact hrest j q hq k (h0 k hk) hk'
    | 1, j + 2, hp, hq =>
      obtain rfl := Option.some.inj hp
      exact hrest j q hq k (h1 k hk) hk'
    | i + 2, 0, hp, hq =>
      obtain rfl := Option.some.inj hq
      exact hrest i p hp k (h0 k hk') hk
    | i + 2, 1, hp, hq =>
      obtain rfl := Option.some.inj hq
      exact hrest i p hp k (h1 k hk') hk
    | i + 2, j + 2, hp, hq => exact h.dis (i + 1) (j + 1) p q hp hq (by omega) k hk hk'
variable {P : Program} {R : Reg} {d : Option Nat} {t T : TypeId} {p : String} {af : Array Edge} {g : Option (Nat × Bool)} {x : Operand} {u v : Value}
theorem of_load_raw {T' : TypeId} {cs : List Value} {pins : List Pin} (h : (trP (oPt T' (oRd (rawOf F))) cs pins).P A w S u) (hx : evalR R x = u) (hv : v = F.E.val cs) (hag : ∀ w, (isAgg T).run P w = .ok F.E.agg w) (hsz : ∀ w, (sizeOf T).run P w = .ok F.E.size w) :
    OpF P ⟨d, .load T x, t, p, af, g⟩ R w (.raw v) := by
  obtain ⟨⟨es, e, b, ds, S1, rfl, hb, ⟨_, rfl, hl, _⟩, _⟩, _⟩ := h
  have hu : u = .pointer (some ⟨b, 0, none⟩) := e
  refine opr_val (v := F.E.val ds) (w' := w) ?_ ⟨hv.symm, Fr.refl _⟩
  have := run_loadVar (P := P) (w := w) (b := b) (o := 0) hag hsz hl F.E.one (fun j v hj => by rw [hb.cell, Nat.zero_add]; simpa using hj)
  simp [execOp, Instr.loadAt, Instr.sureAddr, hx, hu, this, Enc.val]
end

/-! a plain pair in a tree, field by field -/
section
variable {α β : Type} {E : Enc α} {F : Enc β} {A : Av} {w : World} {S : Nat → Prop}
theorem Hole.rdp {b off : Nat} {y : α × β} {S1 : Nat → Prop} {cs : List Value} {Q : α × β → Pw} (h : Hole (oRd (ePr E F)) A w S b off y S1 cs Q) : Hole (oPr (oRd E) (oRd F)) A w S b off y S1 cs Q := by
  obtain ⟨hS, c, d, rfl, h1, h2⟩ := h.own
  exact ⟨⟨c, d, fun _ => False, fun _ => False, rfl, ⟨fun _ h => h, h1⟩, ⟨fun _ h => h, h2⟩, fun k => ⟨fun h => (hS k h).elim, fun h => h.elim False.elim False.elim⟩, fun _ h => h.elim⟩, h.at', h.inb, h.out, h.sub, h.blk,
    fun A' w' S1' y' ds k1 k2 k3 k4 k5 k6 => h.put A' w' S1' y' ds (let ⟨c, d, Sa, Sb, e, ⟨ha, h1⟩, ⟨hb, h2⟩, h3, _⟩ := k1; ⟨fun k hk => ((h3 k).1 hk).elim (ha k) (hb k), c, d, e, h1, h2⟩) k2 k3 k4 k5 k6⟩
theorem HoleA.rdp {a : Value} {y : α × β} {Q : α × β → Pw} (h : HoleA (oRd (ePr E F)) A w S a y Q) : HoleA (oPr (oRd E) (oRd F)) A w S a y Q :=
  let ⟨b, off, S1, cs, e, h⟩ := h
  ⟨b, off, S1, cs, e, h.rdp⟩
end
end Go.Proofs.Ytmkgocdgkdglnaa
/- Maps of the call's own, as functions of their keys. No statement of the seat is proved here. -/
namespace Go.Proofs.Ytmkgocdgkdglnaa
open Go.RowKit Go.Maps Go.WideMaps
set_option linter.unusedVariables false
/-- an element reads as itself -/
def rdV (v : Value) : Option (DataW Value × List MemPlace) := some (.held v, [])
/-- block b is a map of at most n entries; f says what stands at a key (none: no entry) -/
def MapAt (P : Program) (k : TypeId) (w : World) (b n : Nat) (f : List UInt8 → Option Value) : Prop :=
  ∃ D : DataW Value, w.ownsMap P k rdV b n D ∧ ∀ s zd, D.atKey (.string s) zd = (match f s with | none => zd | some v => .held v)
variable {P : Program} {k t e : TypeId} {w : World} {b n : Nat} {f : List UInt8 → Option Value}
theorem MapAt.made (P : Program) (k : TypeId) (w : World) : MapAt P k (w.alloc (.map #[] 0)) w.heap.size 0 fun _ => none :=
  ⟨_, World.ownsMap_made w P k rdV, fun _ _ => rfl⟩
theorem MapAt.lt (h : MapAt P k w b n f) : b < w.heap.size := let ⟨_, h, _⟩ := h; h.lt
theorem MapAt.lookup (h : MapAt P k w b n f) (hk : P.underlying k = some .string) (ht : P.underlying t = some (.map k e)) {z : Value} (hz : (zeroValue e).run P w = .ok z w) {s : ByteArray} (hs : s.size ≤ maxLen) :
    (Instr.lookup t (.map (some b)) (.string s) false).run P w = .ok ((f s.data.toList).getD z) w := by
  obtain ⟨D, hD, hf⟩ := h
  obtain ⟨v, ps, hrun, hv⟩ := hD.lookup (Maps.string_keyed hk) ht hz (zd := .held z) (zp := []) rfl (keyOf_string_mk hk hs)
  rw [hf] at hv
  have : v = (f s.data.toList).getD z := by
    cases hfs : f s.data.toList with
    | none => rw [hfs] at hv; exact DataW.held.inj (Prod.mk.inj (Option.some.inj hv)).1
    | some u => rw [hfs] at hv; exact DataW.held.inj (Prod.mk.inj (Option.some.inj hv)).1
  rw [hrun, this]
theorem MapAt.same {w' : World} (h : MapAt P k w b n f) (hb : w'.heap[b]? = w.heap[b]?) : MapAt P k w' b n f := by
  obtain ⟨D, ⟨es, c, h1, h2⟩, hf⟩ := h
  exact ⟨D, ⟨es, c, hb.trans h1, h2⟩, hf⟩
/-- a map of rows of the call's own: at the key s stands the row ms s (or, where that is empty, perhaps nothing); the rows at the keys of 'out' have been taken out of it (their headers stand there still) -/
def mapSP {α : Type} (P : Program) (k : TypeId) (B : Nat) (T : TypeId) (E : Enc α) (ms : List UInt8 → List α) (out : List (List UInt8)) (n : Nat) : SP where
  P A w S u := ∃ b f, u = .map (some b) ∧ B ≤ b ∧ MapAt P k w b n f ∧ (∀ i, S i ↔ i = b ∨ ∃ s v, s ∉ out ∧ f s = some v ∧ ownsB v i) ∧
    (∀ s, s ∉ out → (f s = none → ms s = []) ∧ ∀ v, f s = some v → (Res.vec B T E (ms s)).ok A v w ∧ ¬ ownsB v b) ∧
    (∀ s s' v v' i, s ∉ out → s' ∉ out → s ≠ s' → f s = some v → f s' = some v' → ownsB v i → ¬ ownsB v' i)
  lt := by
    rintro A w S u i ⟨b, f, rfl, hB, hm, hS, hr, hd⟩ hi
    rcases (hS i).1 hi with rfl | ⟨s, v, hs, hv, ho⟩
    · exact hm.lt
    · exact Res.lt ((hr s hs).2 v hv).1 rfl ho
  stab := by
    rintro A A' w w' S u ⟨b, f, rfl, hB, hm, hS, hr, hd⟩ hb hs
    refine ⟨b, f, rfl, hB, hm.same (hb b ((hS b).2 (.inl rfl))), hS, fun s hn => ⟨(hr s hn).1, fun v hv => ⟨?_, ((hr s hn).2 v hv).2⟩⟩, hd⟩
    exact Res.stab ((hr s hn).2 v hv).1 (fun i hi => hb i ((hS i).2 (.inr ⟨s, v, hn, hv, hi⟩))) hs
/-- made -/
theorem mapSP.made {α : Type} {B : Nat} {T : TypeId} {E : Enc α} {A : Av} (hB : B ≤ w.heap.size) :
    (mapSP P k B T E (fun _ => []) [] 0).P A (w.alloc (.map #[] 0)) (fun i => i = w.heap.size) (.map (some w.heap.size)) :=
  ⟨_, _, rfl, hB, MapAt.made P k w, fun i => ⟨.inl, fun h => h.elim id fun ⟨s, v, _, h, _⟩ => (by cases h)⟩, fun s _ => ⟨fun _ => rfl, fun v h => (by cases h)⟩, fun s s' v v' i _ _ _ h => (by cases h)⟩
/-- looked up: the row comes out -/
theorem mapSP.lookup {α : Type} {B : Nat} {T : TypeId} {E : Enc α} {A : Av} {ms : List UInt8 → List α} {out : List (List UInt8)} {S : Nat → Prop} {u : Value} (h : (mapSP P k B T E ms out n).P A w S u)
    (hk : P.underlying k = some .string) (ht : P.underlying t = some (.map k e)) (hz : (zeroValue e).run P w = .ok (.slice none 0 0) w) {s : ByteArray} (hs : s.size ≤ maxLen) (ho : s.data.toList ∉ out)
    (hnil : (Res.vec B T E ([] : List α)).ok A (.slice none 0 0) w) :
    ∃ v S', (Instr.lookup t u (.string s) false).run P w = .ok v w ∧ (Res.vec B T E (ms s.data.toList)).ok A v w ∧ (mapSP P k B T E ms (s.data.toList :: out) n).P A w S' u ∧ (∀ i, S i ↔ S' i ∨ ownsB v i) ∧ ∀ i, ownsB v i → ¬ S' i := by
  obtain ⟨b, f, rfl, hB, hm, hS, hr, hd⟩ := h
  have hrun := hm.lookup hk ht hz hs
  refine ⟨(f s.data.toList).getD (.slice none 0 0), fun i => i = b ∨ ∃ s' v, s' ∉ s.data.toList :: out ∧ f s' = some v ∧ ownsB v i, hrun, ?_, ⟨b, f, rfl, hB, hm, fun i => Iff.rfl, fun s' hs' => hr s' fun h => hs' (.tail _ h), fun s1 s2 v1 v2 i h1 h2 => hd s1 s2 v1 v2 i (fun h => h1 (.tail _ h)) fun h => h2 (.tail _ h)⟩, fun i => ?_, fun i hi h => ?_⟩
  · cases hf : f s.data.toList with
    | none => rw [(hr _ ho).1 hf]; exact hnil
    | some v => exact ((hr _ ho).2 v hf).1
  · rw [hS i]
    constructor
    · rintro (rfl | ⟨s', v, h1, h2, h3⟩)
      · exact .inl (.inl rfl)
      · by_cases e : s' = s.data.toList
        · subst e; exact .inr (by rw [h2]; exact h3)
        · exact .inl (.inr ⟨s', v, fun h => (List.mem_cons.1 h).elim e h1, h2, h3⟩)
    · rintro ((rfl | ⟨s', v, h1, h2, h3⟩) | h)
      · exact .inl rfl
      · exact .inr ⟨s', v, fun h => h1 (.tail _ h), h2, h3⟩
      · cases hf : f s.data.toList with
        | none => rw [hf] at h; exact h.elim
        | some v => rw [hf] at h; exact .inr ⟨_, v, ho, hf, h⟩
  · cases hf : f s.data.toList with
    | none => rw [hf] at hi; exact hi.elim
    | some v =>
      rw [hf] at hi
      rcases h with rfl | ⟨s', v', h1, h2, h3⟩
      · exact ((hr _ ho).2 v hf).2 hi
      · exact hd _ s' v v' i ho (fun h => h1 (.tail _ h)) (fun e => h1 (e ▸ .head _)) hf h2 hi h3
theorem IniOK.snoc {ini : List Ob} {A : Av} {w : World} (h : IniOK ini A w) (p : Ob) (hok : p.r.ok A p.u w) (hav : ∀ k, p.S k → ∀ o, A k o) (hown : p.r.own A p.u p.S w) (hd : ∀ (j : Nat) q, ini[j]? = some q → ∀ k, p.S k → ¬ q.S k) : IniOK (ini ++ [p]) A w := by
  have hat : ∀ (j : Nat) q, (ini ++ [p])[j]? = some q → ini[j]? = some q ∨ j = ini.length ∧ q = p := fun j q hq => by
    rcases Nat.lt_or_ge j ini.length with hl | hl
    · rw [List.getElem?_append_left hl] at hq; exact .inl hq
    · rw [List.getElem?_append_right hl] at hq
      cases hj : j - ini.length with
      | zero => rw [hj] at hq; exact .inr ⟨by omega, (Option.some.inj hq).symm⟩
      | succ m => rw [hj] at hq; cases hq
  refine ⟨fun j q hq => ?_, fun j q hq => ?_, fun i j q q' hq hq' hne k hk hk' => ?_⟩
  · rcases hat j q hq with h1 | ⟨_, rfl⟩
    · exact h.ok j q h1
    · exact ⟨hok, hav⟩
  · rcases hat j q hq with h1 | ⟨_, rfl⟩
    · exact h.own j q h1
    · exact hown
  · rcases hat i q hq with h1 | ⟨e1, rfl⟩
    · rcases hat j q' hq' with h2 | ⟨_, rfl⟩
      · exact h.dis i j q q' h1 h2 hne k hk hk'
      · exact hd i q h1 k hk' hk
    · rcases hat j q' hq' with h2 | ⟨e2, rfl⟩
      · exact hd j q' h2 k hk hk'
      · exact hne (e1.trans e2.symm)
/-- a row comes out of a map -/
theorem IniOK.look {α : Type} {ini : List Ob} {A : Av} {K : Nat → Prop} {B : Nat} {T : TypeId} {E : Enc α} {ms : List UInt8 → List α} {out : List (List UInt8)} {S : Nat → Prop} {u : Value} (h : IniOK ini A w) (i : Nat)
    (hi : ini[i]? = some ⟨u, S, .gen K (mapSP P k B T E ms out n)⟩) (hk : P.underlying k = some .string) (ht : P.underlying t = some (.map k e)) (hz : (zeroValue e).run P w = .ok (.slice none 0 0) w) {s : ByteArray} (hs : s.size ≤ maxLen) (ho : s.data.toList ∉ out)
    (hnil : (Res.vec B T E ([] : List α)).ok A (.slice none 0 0) w) :
    ∃ v S', (Instr.lookup t u (.string s) false).run P w = .ok v w ∧ IniOK (ini.set i ⟨u, S', .gen K (mapSP P k B T E ms (s.data.toList :: out) n)⟩ ++ [ob v (.vec B T E (ms s.data.toList))]) A w ∧ (∀ k, ownsB v k → S k) ∧ ∀ k, S' k → S k := by
  obtain ⟨hK, hP⟩ := h.own i _ hi
  obtain ⟨v, S', hrun, hv, hP', hS, hd⟩ := mapSP.lookup hP hk ht hz hs ho hnil
  have h1 := h.put i hi ⟨u, S', .gen K (mapSP P k B T E ms (s.data.toList :: out) n)⟩ trivial ⟨fun j hj => hK j ((hS j).2 (.inl hj)), hP'⟩ fun j hj => (hS j).2 (.inl hj)
  refine ⟨v, S', hrun, h1.snoc _ hv (fun j hj => (h.ok i _ hi).2 j ((hS j).2 (.inr hj))) rfl (fun j q hq m hm hm' => ?_), fun j hj => (hS j).2 (.inr hj), fun j hj => (hS j).2 (.inl hj)⟩
  have hl := (List.getElem?_eq_some_iff.1 hi).1
  by_cases ej : j = i
  · subst ej
    rw [List.getElem?_set_self hl] at hq
    cases hq
    exact hd m hm hm'
  · rw [List.getElem?_set_ne (Ne.symm ej)] at hq
    exact h.dis i j _ q hi hq (Ne.symm ej) m ((hS m).2 (.inr hm)) hm'
section
variable {R : Reg} {m x y : Operand} {d : Option Nat} {ty : TypeId} {pp : String} {af : Array Edge} {A : Av}
end
section
variable {A : Av} {b : Nat} {o : Obj}
end
/-- a row of one tree -/
theorem took_buildT {R : Reg} {x : Operand} {d : Option Nat} {ty : TypeId} {pp : String} {af : Array Edge} {g : Option (Nat × Bool)} {A : Av} {α : Type} {K Sv : Nat → Prop} {F : OE α} {y : α} {u z : Value} {pins : List Pin} (h : (trP F y pins).P A w Sv u) (hx : evalR R x = u) (hav : ∀ k, Sv k → ∀ o, A k o) (hBv : ∀ k, Sv k → K k) (hB : ∀ k, w.heap.size ≤ k → K k)
    (ht : P.underlying t = some (.slice e)) (hsz : ∀ w, (sizeOf e).run P w = .ok F.E.size w) (hz : ∀ w, (zeroValue e).run P w = .ok z w) (hlim : Nat.ble (1 * F.E.size) 16777216 = true) :
    OpR P ⟨d, .buildSlice t 1 #[(0, x)], ty, pp, af, g⟩ R w (TookS A true u Sv (trR K (oSl e F) [y] []) (fun _ => .any) w) := by
  obtain ⟨⟨cs, rfl, h⟩, _⟩ := h
  have hrow : Row F.E av0 w R [x] [y] := ⟨⟨cs, hx, F.rep (A0 := av0) h (fun _ _ h => h.elim) fun _ _ _ h => h⟩, trivial⟩
  have hrun := run_build_op (d := d) (t := ty) (p := pp) (af := af) (g := g) hrow ht hsz hz (n := 1) rfl hlim
  have hcl := F.cells h
  have harr : (([x].map (evalR R)).flatMap fun v => v.cells.toList).toArray = cs.toArray := by
    show ((evalR R x).cells.toList ++ []).toArray = _
    rw [hx, hcl, List.append_nil]
  rw [harr] at hrun
  have hf := Fr.alloc w (.cells cs.toArray e)
  have hsub : ∀ k, k < w.heap.size → (k = w.heap.size ∨ Sv k) → Sv k := fun k hk h => h.elim (fun e => absurd e (by omega)) id
  have hst := stp_swapS (S'' := fun k => k = w.heap.size ∨ Sv k) hav (hf.ch Sv) hsub
  refine opr_val hrun ⟨_, fun k => k = w.heap.size ∨ Sv k, rfl, hf.ch Sv, hsub, hst, trivial, ⟨fun k hk => hk.elim (fun e => hB k (Nat.le_of_eq (Eq.symm e))) (hBv k), ⟨[.slice (some ⟨w.heap.size, 0, none⟩) 1 1], rfl, .inr ⟨w.heap.size, 1, cs.toArray, fun _ => Sv, rfl, Blk.new w e cs.toArray, Nat.le_refl _, by unfold maxLen; omega, ?_, ?_, ?_, ?_, ?_⟩⟩, fun q hq => by cases hq⟩, trivial⟩
  · rw [List.size_toArray, F.len h, Nat.one_mul]
  · intro i y' hy
    cases i with
    | zero =>
      cases hy
      refine ⟨cs, F.stab h (fun k hk => hf.block k (F.lt h hk)) hst, fun j u hj => ?_⟩
      rw [Nat.zero_mul, Nat.zero_add, List.getElem?_toArray]
      exact hj
    | succ i => cases hy
  · intro i j k hi hj hne
    have h1 : i < 1 := hi
    have h2 : j < 1 := hj
    exact absurd (show i = j by omega) hne
  · intro i _ hk
    exact absurd (F.lt h hk) (Nat.lt_irrefl _)
  · intro k
    exact ⟨fun h => h.imp id fun h => ⟨0, Nat.zero_lt_one, h⟩, fun h => h.imp id fun ⟨_, _, h⟩ => h⟩
/-- a tree behind a row of trees -/
theorem append_tree {A : Av} {α : Type} {F : OE α} {xs : List α} {y : α} {S1 S2 : Nat → Prop} {u1 u2 : Value} {ty : TypeId} (h1 : (oSl e F).own A w S1 xs [u1]) (h2 : (oSl e F).own A w S2 [y] [u2]) (hd : ∀ k, S1 k → ¬ S2 k)
    (ht : P.underlying t = some (.slice e)) (he : ElF P e F.E.size) (hb : e ≠ tByte) (hl : lenOK (xs.length + 1) = true) :
    ∃ v' w' S', (Builtin.append_ #[t, t] ty #[u1, u2]).run P w = .ok v' w' ∧ Ch S1 w w' ∧ (∀ k, k < w.heap.size → S' k → S1 k ∨ S2 k) ∧ ∀ A', Stp A A' w w' → (oSl e F).own A' w' S' (xs ++ [y]) [v'] := by
  obtain ⟨inf, z, b, hi, hz, hs, hby, hzs, hs0, hb4⟩ := he
  have hl := lenOK_le hl
  have hbytes : (xs.length + 1) * b ≤ 140737488355328 := by
    have := Nat.mul_le_mul hl hb4
    omega
  have hm : xs.length + 1 ≤ maxLen := by unfold maxLen; omega
  obtain ⟨h0, _, _⟩ | ⟨g2, c2, arr2, Si2, e2, hk2, _, _, hz2, hE2⟩ := h2
  · exact absurd ‹[y] = []› (by simp)
  obtain rfl := (List.cons.inj e2).1
  obtain ⟨ds, hds, hat2⟩ := hE2.el 0 y rfl
  have hdl : ds.length = F.E.size := F.len hds
  -- the row as cells
  have hrow : ∃ (cs : List Value) (Si : Nat → Nat → Prop), RowM w 0 e F.E.size u1 xs.length cs ∧ (∀ k, ownsB u1 k → S1 k) ∧ (∀ i x, xs[i]? = some x → ∃ ds, F.own A w (Si i) x ds ∧ ∀ (j : Nat) u, ds[j]? = some u → cs[i * F.E.size + j]? = some u) ∧
      (∀ i j k, i < xs.length → j < xs.length → i ≠ j → Si i k → ¬ Si j k) ∧ (∀ i k, i < xs.length → Si i k → ¬ ownsB u1 k) ∧ (∀ i k, i < xs.length → Si i k → S1 k) ∧ ∀ k, S1 k → ownsB u1 k ∨ ∃ i, i < xs.length ∧ Si i k := by
    rcases h1 with ⟨e1, rfl, hS⟩ | ⟨g, c, arr, Si, e1, hk, hlc, hcm, hsz, hE⟩
    · obtain rfl := (List.cons.inj e1).1
      exact ⟨[], fun _ _ => False, ⟨by simp, .inl ⟨rfl, rfl⟩⟩, fun k h => h.elim, fun i x h => by simp at h, fun i j k h => absurd h (Nat.not_lt_zero _), fun i k h => absurd h (Nat.not_lt_zero _), fun i k h => absurd h (Nat.not_lt_zero _), fun k h => absurd h (hS k)⟩
    · obtain rfl := (List.cons.inj e1).1
      have hle : xs.length * F.E.size ≤ arr.size := hsz ▸ Nat.mul_le_mul_right _ hlc
      refine ⟨arr.toList.take (xs.length * F.E.size), Si, ⟨by have e0 : arr.toList.length = arr.size := Array.length_toList; rw [List.length_take, e0, Nat.min_eq_left hle], .inr ⟨g, c, arr, rfl, Nat.zero_le _, BlkM.of hk, hlc, hcm, hsz, rfl⟩⟩, fun k hk => (hE.set k).2 (.inl (Eq.symm hk)), fun i x hx => ?_, hE.dis, fun i k hi hk h => hE.out i hi (show Si i g from (show g = k from h) ▸ hk), fun i k hi hk => (hE.set k).2 (.inr ⟨i, hi, hk⟩), fun k hk => ((hE.set k).1 hk).imp (fun h => (Eq.symm h)) id⟩
      obtain ⟨ds', h3, h4⟩ := hE.el i x hx
      refine ⟨ds', h3, fun j u hj => ?_⟩
      have hil : i < xs.length := (List.getElem?_eq_some_iff.1 hx).1
      have hjl : j < F.E.size := by have := (List.getElem?_eq_some_iff.1 hj).1; rw [F.len h3] at this; exact this
      have hlt : i * F.E.size + j < xs.length * F.E.size := by
        have := Nat.mul_le_mul_right F.E.size (show i + 1 ≤ xs.length from hil)
        rw [Nat.add_mul, Nat.one_mul] at this
        omega
      rw [List.getElem?_take_of_lt hlt, Array.getElem?_toList]
      exact h4 j u hj
  obtain ⟨cs, Si, hown, hu1, hel, hdis, hout, hin, hcov⟩ := hrow
  obtain ⟨v', w', hrun, hown', hch, hsame⟩ := run_append_M (P := P) (T := t) (ty := ty) w ht hi hz hs hby hzs hs0 hown ⟨g2, 0, none⟩ 1 c2 ds (by rw [hdl, Nat.one_mul]) (fun j v hj => by
    have := hat2 j v hj
    rw [Nat.zero_mul, Nat.zero_add] at this
    rw [addr_add]
    show w.cell? ⟨g2, 0 + j, none⟩ = _
    rw [Nat.zero_add]
    exact (hk2.cell _).trans this) (F.oc hds) hm hbytes (Nat.zero_le _)
  obtain ⟨hcl, hv⟩ := hown'
  have hcl1 := hown.1
  rcases hv with ⟨_, h⟩ | ⟨g', cap, cur, rfl, _, hk', hnc, hcm', hsz', htk⟩
  · omega
  let Si' : Nat → Nat → Prop := fun i => if i < xs.length then Si i else Si2 0
  have hS2 : ∀ k, Si2 0 k → S2 k := fun k hk => (hE2.set k).2 (.inr ⟨0, Nat.zero_lt_one, hk⟩)
  have hg' : ∀ k, k < w.heap.size → k = g' → ownsB u1 k := fun k hk e => hsame k hk (show g' = k from e.symm)
  have hp : ∀ i, i < xs.length → Si' i = Si i := fun i c => if_pos c
  have hq : ∀ i, ¬ i < xs.length → Si' i = Si2 0 := fun i c => if_neg c
  have hcur : ∀ (m : Nat) u, (cs ++ ds)[m]? = some u → cur[m]? = some u := fun m u h => by
    rw [← htk, List.getElem?_take] at h
    split at h
    · rwa [Array.getElem?_toList] at h
    · cases h
  refine ⟨_, w', fun k => k = g' ∨ (∃ i, i < xs.length + 1 ∧ Si' i k), hrun, ⟨hch.os, hch.tape, hch.output, hch.size, fun k hk hn => hch.block k hk fun h => hn (hu1 k h), hch.drawn⟩, fun k hk h => ?_, fun A' hst => .inr ⟨g', cap, cur, Si', by rw [List.length_append]; rfl, hk'.plain hb, by rw [List.length_append]; exact hnc, hcm', hsz', ⟨fun i x hx => ?_, fun i j k hi hj hne h h' => ?_, fun i hi h => ?_, fun k => by rw [List.length_append]; exact Iff.rfl⟩⟩⟩
  · rcases h with h | ⟨i, _, h⟩
    · exact .inl (hu1 k (hg' k hk h))
    · by_cases c : i < xs.length
      · rw [hp i c] at h; exact .inl (hin i k c h)
      · rw [hq i c] at h; exact .inr (hS2 k h)
  · by_cases c : i < xs.length
    · rw [List.getElem?_append_left c] at hx
      obtain ⟨d1, h3, h4⟩ := hel i x hx
      refine ⟨d1, by rw [hp i c]; exact F.stab h3 (fun k hk => hch.block k (F.lt h3 hk) (hout i k c hk)) hst, fun j u hj => hcur _ _ ?_⟩
      have h5 := h4 j u hj
      rw [List.getElem?_append_left (List.getElem?_eq_some_iff.1 h5).1]
      exact h5
    · have hi' := (List.getElem?_eq_some_iff.1 hx).1
      rw [List.length_append] at hi'
      have hi'' : i < xs.length + 1 := hi'
      obtain rfl : i = xs.length := by omega
      rw [List.getElem?_append_right (Nat.le_refl _), Nat.sub_self] at hx
      cases hx
      refine ⟨ds, by rw [hq _ c]; exact F.stab hds (fun k hk => hch.block k (F.lt hds hk) fun h => hd k (hu1 k h) (hS2 k hk)) hst, fun j u hj => hcur _ _ ?_⟩
      rw [List.getElem?_append_right (by rw [hcl1]; exact Nat.le_add_right _ _), hcl1, Nat.add_sub_cancel_left]
      exact hj
  · rw [List.length_append] at hi hj
    have hi' : i < xs.length + 1 := hi
    have hj' : j < xs.length + 1 := hj
    by_cases ci : i < xs.length
    · rw [hp i ci] at h
      by_cases cj : j < xs.length
      · rw [hp j cj] at h'; exact hdis i j k ci cj hne h h'
      · rw [hq j cj] at h'; exact hd k (hin i k ci h) (hS2 k h')
    · rw [hq i ci] at h
      by_cases cj : j < xs.length
      · rw [hp j cj] at h'; exact hd k (hin j k cj h') (hS2 k h)
      · omega
  · by_cases ci : i < xs.length
    · rw [hp i ci] at h
      obtain ⟨d1, h3, _⟩ := hel i _ (List.getElem?_eq_getElem ci)
      exact hout i g' ci h (hg' g' (F.lt h3 h) rfl)
    · rw [hq i ci] at h
      exact hd g' (hu1 g' (hg' g' (F.lt hds h) rfl)) (hS2 g' h)
end Go.Proofs.Ytmkgocdgkdglnaa
/- A tree that goes behind a row of trees at a place of a variable. No statement of the seat is proved here. -/
namespace Go.Proofs.Ytmkgocdgkdglnaa
open Go.RowKit
set_option linter.unusedVariables false

section
variable {P : Program} {R : Reg} {w : World} {p : String} {af : Array Edge} {g : Option (Nat × Bool)} {A : Av} {α : Type} {F : OE α} {x x' : Operand} {T e : TypeId} {K : Nat → Prop} {a v : Value}
theorem took_appendPT {ty : TypeId} {xs : List α} {y : α} {Q : List α → Pw} {u0 : Value} {S' : Nat → Prop} {dd : Nat} {ρ : Nat → Value} {σ : Nat → Nat → Prop} {c1 c2 : Nat} (hne : Nat.beq c1 c2 = false) (h : HoleA (oSl e F) A w (σ c1) a xs Q) (hp : PinOK w S' (a, [v])) (hx : evalR R x = v)
    (h2 : (trP (oSl e F) [y] []).P A w (σ c2) (ρ c2)) (hx' : evalR R x' = ρ c2) (hav : ∀ d, d ∈ [c1, c2] → ∀ k, σ d k → ∀ o, A k o) (hdd : ∀ d d', d ∈ [c1, c2] → d' ∈ [c1, c2] → d ≠ d' → ∀ k, σ d k → ¬ σ d' k)
    (hB1 : ∀ k, σ c1 k → K k) (hB2 : ∀ k, σ c2 k → K k) (hB : ∀ k, w.heap.size ≤ k → K k) (hlt : ∀ k, σ c1 k → k < w.heap.size) (ht : P.underlying T = some (.slice e)) (he : ElF P e F.E.size) (hl : lenOK (xs.length + 1) = true) (hb : e ≠ tByte := by decide) :
    OpR P ⟨some dd, .call ⟨.builtin .append, #[x, x'], #[T, T]⟩, ty, p, af, g⟩ R w (TookS A true u0 (fun k => ∃ d, d ∈ [c1, c2] ∧ σ d k) (.gen K (pdP (oSl e F) a Q (xs ++ [y]))) (fun _ => .any) w) := by
  obtain ⟨b, off, S1, cs, rfl, h⟩ := h
  obtain ⟨b', o', e0, _, hc⟩ := hp
  injection e0 with e0
  injection e0 with e0
  injection e0 with e1 e2
  subst e1 e2
  have hl1 : cs.length = 1 := (oSl e F).len h.own
  obtain rfl : cs = [v] := by
    match cs, hl1 with
    | [c], _ =>
      have h1 := h.at' 0 c rfl
      have h2 := hc 0 v rfl
      rw [h1] at h2
      injection h2 with h2
      rw [h2]
  obtain ⟨⟨cs2, e2, h2⟩, _⟩ := h2
  have hs2 : ∃ u, cs2 = [u] := by
    rcases h2 with ⟨h, _⟩ | ⟨_, _, _, _, h, _⟩ <;> exact ⟨_, h⟩
  obtain ⟨u2, rfl⟩ := hs2
  have e2 : ρ c2 = u2 := e2
  have hm1 : c1 ∈ [c1, c2] := .head _
  have hm2 : c2 ∈ [c1, c2] := .tail _ (.head _)
  have hne' : c1 ≠ c2 := fun h => by subst h; simp at hne
  have hS1 : ∀ k, S1 k → σ c1 k := h.sub
  obtain ⟨v', w', S2', hrun, hch, hsub, hown⟩ := append_tree (ty := ty) h.own h2 (fun k hk => hdd c1 c2 hm1 hm2 hne' k (hS1 k hk)) ht he hb hl
  have hch' : Ch (fun k => ∃ d, d ∈ [c1, c2] ∧ σ d k) w w' := ⟨hch.os, hch.tape, hch.output, hch.size, fun k hk hn => hch.block k hk fun h => hn ⟨c1, hm1, hS1 k h⟩, hch.drawn⟩
  have hold : ∀ k, σ c1 k → ¬ S1 k → w'.heap[k]? = w.heap[k]? := fun k hk hn => hch.block k (hlt k hk) hn
  have hsub' : ∀ k, k < w.heap.size → ((σ c1 k ∧ ¬ S1 k) ∨ S2' k) → ∃ d, d ∈ [c1, c2] ∧ σ d k := fun k hk h => h.elim (fun h => ⟨c1, hm1, h.1⟩) fun h => (hsub k hk h).elim (fun h => ⟨c1, hm1, hS1 k h⟩) fun h => ⟨c2, hm2, h⟩
  have hst := stp_swapS (S'' := fun k => (σ c1 k ∧ ¬ S1 k) ∨ S2' k) (fun k ⟨d, hd, h⟩ => hav d hd k h) hch' hsub'
  have hbo : ¬ S1 b := h.out
  refine opr_val (v := v') (w' := w') ?_ ⟨v', fun k => (σ c1 k ∧ ¬ S1 k) ∨ S2' k, rfl, hch', hsub', hst, trivial, ⟨fun k hk => ?_, ?_⟩, trivial⟩
  · simp [execOp, resolve, invoke, builtin, hx, hx', e2, hrun]
  · rcases hk with hk | hk
    · exact hB1 k hk.1
    · rcases Nat.lt_or_ge k w.heap.size with h3 | h3
      · exact (hsub k h3 hk).elim (fun h => hB1 k (hS1 k h)) (hB2 k)
      · exact hB k h3
  · obtain ⟨arr, T0, hblk, hsz⟩ := h.blk
    have hb2 := hold b h.inb hbo
    have hdis : ∀ k, S2' k → ¬ (σ c1 k ∧ ¬ S1 k) := fun k hk hn => (hsub k (hlt k hn.1) hk).elim hn.2 fun h => hdd c1 c2 hm1 hm2 hne' k hn.1 h
    refine ⟨b, off, S2', fun k => σ c1 k ∧ ¬ S1 k, [v'], rfl, rfl, hown _ hst, fun k => Iff.rfl, hdis, ⟨h.inb, hbo⟩, ⟨arr, T0, hb2.trans hblk, hsz⟩, fun k hk => Nat.lt_of_lt_of_le (hlt k hk.1) hch.size, fun A' w'' S1' y' ds k1 k2 k3 k4 k5 k6 => ?_⟩
    obtain ⟨arr0, arr1, T1, j1, j2, j3, j4⟩ := k3
    exact h.put A' w'' S1' y' ds k1 k2 ⟨arr0, arr1, T1, hb2.symm.trans j1, j2, j3, j4⟩ (fun k a1 a2 a3 => (k4 k ⟨a1, a2⟩ a3).trans (hold k a1 a2)) (hst.trans k5) (fun k a1 a2 => Classical.byContradiction fun hn => k6 k a1 ⟨a2, hn⟩)
end
end Go.Proofs.Ytmkgocdgkdglnaa
/- The features' names as a list; lengths of numbers' texts. No statement of the seat is proved here. -/
namespace Go.Proofs.Ytmkgocdgkdglnaa
open Go.RowKit
def featL : List (List UInt8) := [[110, 97, 109, 101], [116, 111, 107, 101, 110, 115], [115, 111, 117, 110, 100], [99, 105, 116, 121], [121, 101, 97, 114], [112, 104, 111, 110, 101]]
theorem decDigits_le : ∀ (k u : Nat), u < 10 ^ (k + 1) → (Lib.decDigits u).length ≤ k + 1
  | 0, u, h => by
    rw [Lib.decDigits, dif_pos (by omega)]
    exact Nat.le_refl _
  | k + 1, u, h => by
    rw [Lib.decDigits]
    split
    · simp
    · rw [List.length_append]
      have := decDigits_le k (u / 10) (by rw [Nat.pow_succ] at h; omega)
      simp
      omega
theorem itoa_len {n : Int} (h0 : -9223372036854775808 ≤ n) (h1 : n ≤ 9223372036854775807) : (Lib.itoa n).length ≤ 21 := by
  unfold Lib.itoa
  split
  · rw [List.length_cons]
    have := decDigits_le 19 n.natAbs (by omega)
    omega
  · have := decDigits_le 19 n.toNat (by omega)
    omega
end Go.Proofs.Ytmkgocdgkdglnaa
/- Base of chains with arrays, trees in rows, rows moved out of variables. No statement of the seat is proved here. -/
/- Shorter forms for the printed texts. No statement of the seat is proved here. -/
namespace Go.Proofs.Ytmkgocdgkdglnaa
open Go.RowKit
set_option linter.unusedVariables false

abbrev eI {o : Oper} (n : Int) : Ent := ⟨o, true, .raw (.int .i64 n)⟩
abbrev eU {o : Oper} (n : Int) : Ent := ⟨o, true, .raw (.int .u8 n)⟩
abbrev eB {o : Oper} (b : Bool) : Ent := ⟨o, true, .raw (.bool b)⟩
abbrev eR {o : Oper} (v : Value) : Ent := ⟨o, true, .raw v⟩
abbrev eF {o : Oper} (f : Fact) : Ent := ⟨o, true, f⟩
abbrev eA {o : Oper} : Ent := ⟨o, true, .any⟩
abbrev gI {o : Oper} (g : Bool) (n : Int) : Ent := ⟨o, g, .raw (.int .i64 n)⟩
abbrev gU {o : Oper} (g : Bool) (n : Int) : Ent := ⟨o, g, .raw (.int .u8 n)⟩
abbrev gB {o : Oper} (g : Bool) (b : Bool) : Ent := ⟨o, g, .raw (.bool b)⟩
abbrev gR {o : Oper} (g : Bool) (v : Value) : Ent := ⟨o, g, .raw v⟩
abbrev gF {o : Oper} (g : Bool) (f : Fact) : Ent := ⟨o, g, f⟩
abbrev rI {o : Oper} (n : Int) : EntR := ⟨o, true, [], none, true, fun _ => .raw (.int .i64 n)⟩
abbrev rB {o : Oper} (b : Bool) : EntR := ⟨o, true, [], none, true, fun _ => .raw (.bool b)⟩
abbrev rR {o : Oper} (v : Value) : EntR := ⟨o, true, [], none, true, fun _ => .raw v⟩
abbrev rF {o : Oper} (f : Av → Fact) : EntR := ⟨o, true, [], none, true, f⟩
abbrev rA {o : Oper} : EntR := ⟨o, true, [], none, true, fun _ => .any⟩
abbrev sI {o : Oper} (g : Bool) (n : Int) : EntR := ⟨o, g, [], none, true, fun _ => .raw (.int .i64 n)⟩
abbrev sB {o : Oper} (g : Bool) (b : Bool) : EntR := ⟨o, g, [], none, true, fun _ => .raw (.bool b)⟩
abbrev sR {o : Oper} (g : Bool) (v : Value) : EntR := ⟨o, g, [], none, true, fun _ => .raw v⟩
theorem ur {o : Oper} {g : Bool} {con : List Nat} {res : Option Res} {lk : Bool} {u : Value} {l : List EntR} (t : UAll l) : UAll (⟨o, g, con, res, lk, fun _ => .raw u⟩ :: l) := UAll.cons ust_raw t
theorem ua {o : Oper} {g : Bool} {con : List Nat} {res : Option Res} {lk : Bool} {l : List EntR} (t : UAll l) : UAll (⟨o, g, con, res, lk, fun _ => .any⟩ :: l) := UAll.cons ust_any t
theorem up {o : Oper} {g : Bool} {con : List Nat} {res : Option Res} {lk : Bool} {α : Type} {E : Enc α} {y : α} {l : List EntR} (t : UAll l) : UAll (⟨o, g, con, res, lk, fun A => .rep E A y⟩ :: l) := UAll.cons ust_rep t
section
variable {P : Program} {n : Nat} {Q : Exit → Reg → World → Prop} {id : Nat} {l : List Ent} {R R' : Reg} {w : World} {i : Nat} {rest : List Ent}
theorem op {x : Ent} (h : ∀ R' w', Fr w w' → (∀ t, okRead l i t = true → R' t = R t) → Deps l R' w' x.o.after.toList → OpR P x.o R' w' fun v w'' => x.f.ok v w'' ∧ Fr w' w'')
    (t : Obls P l R w (i + 1) rest) (hg : x.o.guard = none := by exact rfl) (hx : x.g = true := by exact rfl) : Obls P l R w i (x :: rest) := Obls.p h t hg hx
theorem oz : Obls P l R w i [] := Obls.nil
theorem HT.t (l : List Ent) (ho : Obls P l R w 0 l) (ha : ∀ R' w', Fr w w' → (∀ t, notDst l t = true → R' t = R t) → Facts R' w' l → Q .normal R' w') (hb : backFrom 0 (l.map (·.o)) = true := by kernel_rfl) (hd : distinct l = true := by kernel_rfl) (hs : dstOK n ((l.map fun x : Ent => x.o) ++ ([] : List Oper)) = true := by kernel_rfl) : HT P n (.region id ((l.map fun x : Ent => x.o) ++ ([] : List Oper)).toArray false) R w Q :=
  HT.text hb hd hs ho ha
theorem HT.u {w0 : World} {A : Av} (hA : AvOK A w) (hF : Fr w0 w) (l : List Ent) (ho : Obls P l R w 0 l) (ha : ∀ R' w', Fr w w' → (∀ t, notDst l t = true → R' t = R t) → Facts R' w' l → AvOK A w' → Fr w0 w' → Q .normal R' w') (hb : backFrom 0 (l.map (·.o)) = true := by kernel_rfl) (hd : distinct l = true := by kernel_rfl) (hs : dstOK n ((l.map fun x : Ent => x.o) ++ ([] : List Oper)) = true := by kernel_rfl) : HT P n (.region id ((l.map fun x : Ent => x.o) ++ ([] : List Oper)).toArray false) R w Q :=
  HT.text hb hd hs ho fun R' w' hw hs hf => ha R' w' hw hs hf (hA.fr hw.size) (hF.trans hw)
theorem om {d : Option Nat} {t : Nat} {ty : TypeId} {p : String} {af : Array Edge} {v : Value} (h : R t = v) (r : Obls P l R w (i + 1) rest) (hk : okRead l i t = true := by exact rfl) : Obls P l R w i (⟨⟨d, .move (.tmp t), ty, p, af, none⟩, true, .raw v⟩ :: rest) :=
  ⟨Obl.plain rfl rfl fun R' w' hw hs hd => of_move ((hs t hk).trans h), r⟩
theorem ov {d : Option Nat} {t : Nat} {ty : TypeId} {p : String} {af : Array Edge} {v : Value} (r : Obls P l R w (i + 1) rest) (hd : depF l af.toList 0 = some (t, .raw v) := by exact rfl) : Obls P l R w i (⟨⟨d, .move (.tmp t), ty, p, af, none⟩, true, .raw v⟩ :: rest) :=
  ⟨Obl.plain rfl rfl fun R' w' hw hs h => of_move (h.g 0 hd), r⟩
theorem oa {d : Option Nat} {t : Nat} {ty : TypeId} {p : String} {af : Array Edge} {v : Value} (r : Obls P l R w (i + 1) rest) (hd : depF l af.toList 0 = some (t, .raw v) := by exact rfl) : Obls P l R w i (⟨⟨d, .assign (.tmp t), ty, p, af, none⟩, true, .raw v⟩ :: rest) :=
  ⟨Obl.plain rfl rfl fun R' w' hw hs h => of_assign (h.g 0 hd), r⟩
def grdF (l : List Ent) (j : Nat) : Option (Bool × Bool) := match l[j]? with
  | none => none
  | some y => match y.o.dst with
    | none => none
    | some _ => match y.f with
      | .raw (.bool c) => some (y.g, c)
      | _ => none
theorem og {x : Ent} (j : Nat) (want : Bool) (h : x.g = true → ∀ R' w', Fr w w' → (∀ t, okRead l i t = true → R' t = R t) → Deps l R' w' x.o.after.toList → OpR P x.o R' w' fun v w'' => x.f.ok v w'' ∧ Fr w' w'') (r : Obls P l R w (i + 1) rest)
    (hg : x.o.guard = some (j, want) := by exact rfl) (hy : (grdF l j).map (fun p => p.1 && (p.2 == want)) = some x.g := by exact rfl) (ha : x.o.after.any (fun e => bnd e && Nat.beq e.on j) = true := by kernel_rfl) : Obls P l R w i (x :: rest) := by
  refine ⟨?_, r⟩
  unfold grdF at hy
  cases h1 : l[j]? with
  | none => rw [h1] at hy; cases hy
  | some y =>
    rw [h1] at hy
    dsimp only at hy
    cases h2 : y.o.dst with
    | none => rw [h2] at hy; cases hy
    | some d =>
      rw [h2] at hy
      dsimp only at hy
      split at hy
      · rename_i c hc
        exact Obl.grd j want y c d hg h1 h2 hc (Option.some.inj hy).symm ha h
      · cases hy
def depG (l : List Ent) (es : List Edge) (j : Nat) : Option (Nat × Fact × Bool) :=
  match es[j]? with
  | none => none
  | some e => bif bnd e then (match l[e.on]? with
    | none => none
    | some x => match x.o.dst with
      | none => none
      | some d => some (d, x.f, x.g)) else none
theorem Deps.h {es : List Edge} (h : Deps l R w es) (j : Nat) {d : Nat} {f : Fact} {g : Bool} (hg : g = true) (e : depG l es j = some (d, f, g)) : f.ok (R d) w := by
  unfold depG at e
  cases h1 : es[j]? with
  | none => rw [h1] at e; cases e
  | some a =>
    rw [h1] at e
    dsimp only at e
    cases h2 : bnd a
    · rw [h2] at e; cases e
    rw [h2, cond_true] at e
    cases h3 : l[a.on]? with
    | none => rw [h3] at e; cases e
    | some x =>
      rw [h3] at e
      dsimp only at e
      cases h4 : x.o.dst with
      | none => rw [h4] at e; cases e
      | some d' =>
        rw [h4] at e
        dsimp only at e
        obtain ⟨rfl, e2⟩ := Prod.mk.inj (Option.some.inj e)
        obtain ⟨rfl, rfl⟩ := Prod.mk.inj e2
        exact h j a x _ h1 h2 h3 h4 hg
def facR (l : List Ent) (i : Nat) : Option (Nat × Value) := match l[i]? with
  | none => none
  | some x => match x.o.dst with
    | none => none
    | some d => bif x.g then (match x.f with
      | .raw u => some (d, u)
      | _ => none) else none
theorem Facts.r (h : Facts R w l) (i : Nat) {d : Nat} {u : Value} (e : facR l i = some (d, u)) : R d = u := by
  unfold facR at e
  cases h1 : l[i]? with
  | none => rw [h1] at e; cases e
  | some x =>
    rw [h1] at e
    dsimp only at e
    cases h2 : x.o.dst with
    | none => rw [h2] at e; cases e
    | some d' =>
      rw [h2] at e
      dsimp only at e
      cases h3 : x.g
      · rw [h3] at e; cases e
      rw [h3, cond_true] at e
      split at e
      · rename_i u' hu
        obtain ⟨rfl, rfl⟩ := Prod.mk.inj (Option.some.inj e)
        have := h i x _ h1 h2 h3
        rw [hu] at this
        exact this
      · cases e
end
section
variable {P : Program} {ini : List Ob} {l : List EntR} {A : Av} {R R' : Reg} {w : World} {i : Nat} {rest : List EntR}
theorem rp {x : EntR} (h : ∀ A' R' w', Onto ini l A R w i A' R' w' → DepsR l A' R' w' x.o.after.toList → OpR P x.o R' w' fun v w'' => (x.f A').ok v w'' ∧ Fr w' w'')
    (t : OblsR P ini l A R w (i + 1) rest) (hg : x.o.guard = none := by exact rfl) (hx : x.g = true := by exact rfl) (hc : x.con = [] := by exact rfl) (hr : x.res = none := by exact rfl) : OblsR P ini l A R w i (x :: rest) := OblsR.p h t hg hx hc hr
theorem rz : OblsR P ini l A R w i [] := OblsR.nil
theorem rc {x : EntR} (h : OblR P ini l A R w i x) (t : OblsR P ini l A R w (i + 1) rest) : OblsR P ini l A R w i (x :: rest) := OblsR.cons h t
theorem rm {d : Option Nat} {t : Nat} {ty : TypeId} {p : String} {af : Array Edge} {v : Value} (h : R t = v) (r : OblsR P ini l A R w (i + 1) rest) (hk : okReadR l i t = true := by exact rfl) : OblsR P ini l A R w i (⟨⟨d, .move (.tmp t), ty, p, af, none⟩, true, [], none, true, fun _ => .raw v⟩ :: rest) :=
  ⟨OblR.plain rfl rfl rfl rfl fun A' R' w' ho hd => of_move ((ho.old t hk).trans h), r⟩
theorem rv {d : Option Nat} {t : Nat} {ty : TypeId} {p : String} {af : Array Edge} {v : Value} (r : OblsR P ini l A R w (i + 1) rest) (hd : depFR l af.toList 0 = some (t, fun _ => .raw v) := by exact rfl) : OblsR P ini l A R w i (⟨⟨d, .move (.tmp t), ty, p, af, none⟩, true, [], none, true, fun _ => .raw v⟩ :: rest) :=
  ⟨OblR.plain rfl rfl rfl rfl fun A' R' w' ho h => of_move (h.g 0 hd), r⟩
theorem ra {d : Option Nat} {t : Nat} {ty : TypeId} {p : String} {af : Array Edge} {v : Value} (r : OblsR P ini l A R w (i + 1) rest) (hd : depFR l af.toList 0 = some (t, fun _ => .raw v) := by exact rfl) : OblsR P ini l A R w i (⟨⟨d, .assign (.tmp t), ty, p, af, none⟩, true, [], none, true, fun _ => .raw v⟩ :: rest) :=
  ⟨OblR.plain rfl rfl rfl rfl fun A' R' w' ho h => of_assign (h.g 0 hd), r⟩
end
section
variable {q : Nat → Bool} {R R' : Reg} {a b c d e f g h : Nat} {s t u v x y z k : Value}
theorem k1 (hs : ∀ t, q t = true → R' t = R t) (h1 : R a = s) (p1 : q a = true := by exact rfl) : R' a = s := (hs a p1).trans h1
theorem k2 (hs : ∀ t, q t = true → R' t = R t) (h1 : R a = s) (h2 : R b = t) (p1 : q a = true := by exact rfl) (p2 : q b = true := by exact rfl) : R' a = s ∧ R' b = t := ⟨(hs a p1).trans h1, (hs b p2).trans h2⟩
theorem k3 (hs : ∀ t, q t = true → R' t = R t) (h1 : R a = s) (h2 : R b = t) (h3 : R c = u) (p1 : q a = true := by exact rfl) (p2 : q b = true := by exact rfl) (p3 : q c = true := by exact rfl) : R' a = s ∧ R' b = t ∧ R' c = u := ⟨(hs a p1).trans h1, (hs b p2).trans h2, (hs c p3).trans h3⟩
theorem k4 (hs : ∀ t, q t = true → R' t = R t) (h1 : R a = s) (h2 : R b = t) (h3 : R c = u) (h4 : R d = v) (p1 : q a = true := by exact rfl) (p2 : q b = true := by exact rfl) (p3 : q c = true := by exact rfl) (p4 : q d = true := by exact rfl) : R' a = s ∧ R' b = t ∧ R' c = u ∧ R' d = v := ⟨(hs a p1).trans h1, (hs b p2).trans h2, (hs c p3).trans h3, (hs d p4).trans h4⟩
theorem k5 (hs : ∀ t, q t = true → R' t = R t) (h1 : R a = s) (h2 : R b = t) (h3 : R c = u) (h4 : R d = v) (h5 : R e = x) (p1 : q a = true := by exact rfl) (p2 : q b = true := by exact rfl) (p3 : q c = true := by exact rfl) (p4 : q d = true := by exact rfl) (p5 : q e = true := by exact rfl) : R' a = s ∧ R' b = t ∧ R' c = u ∧ R' d = v ∧ R' e = x := ⟨(hs a p1).trans h1, (hs b p2).trans h2, (hs c p3).trans h3, (hs d p4).trans h4, (hs e p5).trans h5⟩
theorem k6 (hs : ∀ t, q t = true → R' t = R t) (h1 : R a = s) (h2 : R b = t) (h3 : R c = u) (h4 : R d = v) (h5 : R e = x) (h6 : R f = y) (p1 : q a = true := by exact rfl) (p2 : q b = true := by exact rfl) (p3 : q c = true := by exact rfl) (p4 : q d = true := by exact rfl) (p5 : q e = true := by exact rfl) (p6 : q f = true := by exact rfl) : R' a = s ∧ R' b = t ∧ R' c = u ∧ R' d = v ∧ R' e = x ∧ R' f = y := ⟨(hs a p1).trans h1, (hs b p2).trans h2, (hs c p3).trans h3, (hs d p4).trans h4, (hs e p5).trans h5, (hs f p6).trans h6⟩
end
section
variable {P : Program} {ini : List Ob} {l : List EntR} {A A' : Av} {R R' : Reg} {w w' : World} {done : Nat → Bool} {ρ : Nat → Value} {σ : Nat → Nat → Prop}
theorem InvR.rg (hI : InvR ini l A R w done ρ σ A' R' w') : ∀ t, notDstR l t = true → R' t = R t := fun _ h => hI.reg h
def facRR (l : List EntR) (i : Nat) : Option (Nat × (Av → Fact)) := match l[i]? with
  | none => none
  | some x => match x.o.dst with
    | none => none
    | some d => bif x.g then some (d, x.f) else none
theorem InvR.r (hI : InvR ini l A R w done ρ σ A' R' w') (hd : ∀ i, i < l.length → done i = true) (i : Nat) {d : Nat} {u : Value} (e : facRR l i = some (d, fun _ => .raw u)) : R' d = u := by
  unfold facRR at e
  cases h1 : l[i]? with
  | none => rw [h1] at e; cases e
  | some x =>
    rw [h1] at e
    dsimp only at e
    cases h2 : x.o.dst with
    | none => rw [h2] at e; cases e
    | some d' =>
      rw [h2] at e
      dsimp only at e
      cases h3 : x.g
      · rw [h3] at e; cases e
      rw [h3, cond_true] at e
      obtain ⟨rfl, hu⟩ := Prod.mk.inj (Option.some.inj e)
      have := hI.fact hd h1 h2 h3
      rw [hu] at this
      exact this
end
section
variable {P : Program} {n : Nat} {Q : Exit → Reg → World → Prop} {id : Nat} {R : Reg} {w : World} {y : Code} {A : Av}
theorem HT.su {w0 : World} (hA : AvOK A w) (hF : Fr w0 w) (l : List Ent) (ho : Obls P l R w 0 l) (ha : ∀ R' w', Fr w w' → (∀ t, notDst l t = true → R' t = R t) → Facts R' w' l → AvOK A w' → Fr w0 w' → HT P n y R' w' Q) (hb : backFrom 0 (l.map (·.o)) = true := by kernel_rfl) (hd : distinct l = true := by kernel_rfl) (hs : dstOK n ((l.map fun x : Ent => x.o) ++ ([] : List Oper)) = true := by kernel_rfl) : HT P n (.seq (.region id ((l.map fun x : Ent => x.o) ++ ([] : List Oper)).toArray false) y) R w Q :=
  HT.seq (HT.u hA hF l ho ha hb hd hs)
theorem HT.x (ini : List Ob) (l : List EntR) (hu : UAll l) (hi : IniOK ini A w) (hA : AvOK A w) (ho : OblsR P ini l A R w 0 l) (ha : AfterR ini l A R w (fun R w => Q .normal R w)) (hb : backFrom 0 (l.map (·.o)) = true := by kernel_rfl) (hs : dstOK n (l.map (·.o)) = true := by kernel_rfl) (h1 : distinctR l = true := by kernel_rfl) (h2 : l.all (conB ini.length l) = true := by kernel_rfl) (h3 : onceB l = true := by kernel_rfl) : HT P n (.region id (l.map (·.o)).toArray false) R w Q :=
  HT.textR ini l hb hs (Wf.mk' h1 hu h2 h3) hi hA ho ha
theorem HT.sx (ini : List Ob) (l : List EntR) (hu : UAll l) (hi : IniOK ini A w) (hA : AvOK A w) (ho : OblsR P ini l A R w 0 l) (ha : AfterR ini l A R w (fun R w => HT P n y R w Q)) (hb : backFrom 0 (l.map (·.o)) = true := by kernel_rfl) (hs : dstOK n (l.map (·.o)) = true := by kernel_rfl) (h1 : distinctR l = true := by kernel_rfl) (h2 : l.all (conB ini.length l) = true := by kernel_rfl) (h3 : onceB l = true := by kernel_rfl) : HT P n (.seq (.region id (l.map (·.o)).toArray false) y) R w Q :=
  HT.seq (HT.x ini l hu hi hA ho ha hb hs h1 h2 h3)
end
section
variable {ini : List Ob} {l : List EntR} {A : Av} {R : Reg} {w : World} {done : Nat → Bool} {ρ : Nat → Value} {σ : Nat → Nat → Prop} {A' : Av} {R' : Reg} {w' : World}
theorem InvR.s (hI : InvR ini l A R w done ρ σ A' R' w') {A0 : Av} {w0 : World} (h0 : ∀ b o, A0 b o → A b o) (hB : ∀ b o, A0 b o → b < w0.heap.size) (hF : Fr w0 w) (hO : IniOK ini A w) (h : allFrom w0.heap.size ini) : (∀ b o, A0 b o → A' b o) ∧ Fr w0 w' ∧ AvOK A' w' :=
  ⟨hI.low' h0 hB (hO.ge h), hF.tr hI.ch (hO.ge h), hI.avok⟩
theorem InvR.ov (hI : InvR ini l A R w done ρ σ A' R' w') (hd : ∀ i, i < l.length → done i = true) {u : Value} (id i : Nat) (e : ρ id = u) {x : EntR} {d : Nat} (hx : l[i]? = some x := by exact rfl) (hid : id = ini.length + i := by exact rfl) (hr : x.res.isSome = true := by exact rfl) (hk : x.lk = true := by exact rfl) (hxd : x.o.dst = some d := by exact rfl) : R' d = u :=
  (hI.opvR hd id i hx hid hr hk hxd).symm.trans e
theorem InvR.on (hI : InvR ini l A R w done ρ σ A' R' w') (hd : ∀ i, i < l.length → done i = true) {u : Value} (id i : Nat) {x : EntR} {c : Nat} (hx : l[i]? = some x) (hid : id = ini.length + i) (hr : x.res.isSome = true) (hk : x.lk = false) (hc : x.con.head? = some c) (e : ρ c = u) : ρ id = u :=
  (hI.opnR hd id i hx hid hr hk hc).trans e
end
theorem Z {α : Sort _} {a : α} : a = a := rfl
theorem N : True := trivial
theorem nb {n m : Nat} (h : Nat.ble n m = true) : n ≤ m := Nat.le_of_ble_eq_true h
theorem si {α : Type _} {a b : α} (h : some a = some b) : a = b := Option.some.inj h
theorem ei {α : Sort _} {p : α → Prop} (w : α) (h : p w) : Exists p := Exists.intro w h
theorem ck2 {α : Type} {a b : Bool} {k : Option α} {r : α} (h : ck a (ck b k) = some r) : a = true ∧ b = true ∧ k = some r := ⟨(ck_some h).1, ck_some (ck_some h).2⟩
theorem ck3 {α : Type} {a b c : Bool} {k : Option α} {r : α} (h : ck a (ck b (ck c k)) = some r) : a = true ∧ b = true ∧ c = true ∧ k = some r := ⟨(ck_some h).1, ck2 (ck_some h).2⟩
theorem ck4 {α : Type} {a b c d : Bool} {k : Option α} {r : α} (h : ck a (ck b (ck c (ck d k))) = some r) : a = true ∧ b = true ∧ c = true ∧ d = true ∧ k = some r := ⟨(ck_some h).1, ck3 (ck_some h).2⟩
section
variable {P : Program} {l : List Ent} {R : Reg} {w : World} {i : Nat} {rest : List Ent}
theorem gm {d : Option Nat} {t : Nat} {ty : TypeId} {p : String} {af : Array Edge} {g : Bool} {v : Value} (j : Nat) (want : Bool) (h : R t = v) (r : Obls P l R w (i + 1) rest) (hk : okRead l i t = true := by exact rfl)
    (hy : (grdF l j).map (fun p => p.1 && (p.2 == want)) = some g := by exact rfl) (ha : af.any (fun e => bnd e && Nat.beq e.on j) = true := by kernel_rfl) : Obls P l R w i (⟨⟨d, .move (.tmp t), ty, p, af, some (j, want)⟩, g, .raw v⟩ :: rest) :=
  og j want (fun _ R' w' hw hs hd => of_move ((hs t hk).trans h)) r rfl hy ha
end
theorem pc {A0 : Av} {w : World} (h : AvOK A0 w) : ∃ w0, w0 = w ∧ ∀ b o, A0 b o → b < w0.heap.size := ⟨w, rfl, h⟩
theorem pw {A0 : Av} {w : World} (h : AvOK A0 w) : ∃ w0, w0 = w ∧ Fr w0 w ∧ ∀ b o, A0 b o → b < w0.heap.size := ⟨w, rfl, Fr.refl _, h⟩
theorem pa {A0 : Av} {w : World} (h : AvOK A0 w) : ∃ A, A = A0 ∧ (∀ b o, A0 b o → A b o) ∧ AvOK A w ∧ IniOK [] A w := ⟨A0, rfl, fun _ _ h => h, h, IniOK.nil⟩
theorem pf (w : World) : ∃ w0, w0 = w ∧ Fr w0 w := ⟨w, rfl, Fr.refl _⟩
theorem fw {w0 w : World} (h : w0 = w) : Fr w = Fr w0 := h ▸ rfl
theorem fh {w0 w : World} (h : w0 = w) : w.heap.size = w0.heap.size := h ▸ rfl
theorem qt {α : Type} {E : Enc α} {A : Av} {x : α} {v : Value} {w : World} (h : (Fact.qtr E A x).ok v w) : QRep E A w v x := h
end Go.Proofs.Ytmkgocdgkdglnaa
/- Base of chains with arrays, trees in rows, rows moved out of variables, shorter forms. No statement of the seat is proved here. -/
