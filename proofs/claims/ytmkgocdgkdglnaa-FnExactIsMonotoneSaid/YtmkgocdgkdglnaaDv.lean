/- More operations for printed proofs: strings, numbers of other kinds, conversions, parts of a row of our own, calls that write a row. No statement of the seat is proved here. -/
import Derived.Test.YtmkgocdgkdglnaaDz
import Derived.Laws.BytesArg
import Derived.Laws.Strings
namespace Go.Proofs.Ytmkgocdgkdglnaa
open Go.RowKit
set_option linter.unusedVariables false

section
variable {P : Program} {R : Reg} {w : World} {d : Option Nat} {t : TypeId} {p : String} {af : Array Edge} {g : Option (Nat × Bool)} {A : Av} {α β : Type} {x y : Operand} {T T' : TypeId}
/-! ### numbers of whatever kind -/
section ints
variable {k k' : IntKind} {a b c e : Int}
end ints
/-! ### strings -/
section strs
variable {a b : List UInt8}
end strs
/-! ### min, max -/
section
variable {a b c : Int}
end
/-! ### bytes to a string -/
/-! ### a slice that may be nil -/
def isNilV : Value → Bool
  | .slice none _ _ => true
  | _ => false
section
variable {E : Enc α} {xs : List α} {u : Value} {e : TypeId}
theorem nil_of_rep (h : Rep (eSl E) A w u xs) (hn : isNilV u = true) : xs = [] := by
  obtain ⟨cs, rfl, ad, n, c, rfl, hl, hnc, hcm, h4⟩ := h
  rcases Nat.eq_zero_or_pos n with h0 | h0
  · exact List.eq_nil_of_length_eq_zero (by omega)
  · obtain ⟨b, off, rfl, _⟩ := h4 h0
    cases hn
theorem of_nil_eql (hx : evalR R x = u) (h : Rep (eSl E) A w u xs) (hy : evalR R y = .slice none 0 0) (hu : P.underlying T = some (.slice e)) : OpF P ⟨d, .binOp .eql T x y T', t, p, af, g⟩ R w (.raw (.bool (isNilV u))) := by
  obtain ⟨cs, rfl, ad, n, c, rfl, hl, hnc, hcm, h4⟩ := h
  have hx' : evalR R x = .slice ad n c := hx
  cases ad with
  | none => exact opr_val (v := .bool true) (w' := w) (by simp [execOp, hx', hy, eqGuard]; simp [binOp, Op.equal, Op.maxDepth, Lib.run_equalIn_slice_nil w 9999 T e none n c 0 0 hu]) ⟨rfl, Fr.refl _⟩
  | some a => exact opr_val (v := .bool false) (w' := w) (by simp [execOp, hx', hy, eqGuard]; simp [binOp, Op.equal, Op.maxDepth, Lib.run_equalIn_slice_nil w 9999 T e (some a) n c 0 0 hu]) ⟨rfl, Fr.refl _⟩
end
/-! ### parts of a row of our own -/
/-- n elements of s cells of a row from element lo on -/
def vsub (u : Value) (lo n s : Nat) : Value := match u with
  | .slice a _ c => .slice (if c = lo then a else a.map (·.add (lo * s))) n (c - lo)
  | v => v
section
variable {E : Enc α} {xs : List α} {u : Value} {e : TypeId} {B : Nat} {w0 : World} {A0 : Av} {k : IntKind} {lo i : Int} {n s : Nat}
theorem of_view {l : Operand} (hV : Vec E A0 B e w0 u xs) (hx : evalR R x = u) (hlo : evalR R l = .int k lo) (hu : P.underlying T = some (.slice e)) (hsz : ∀ w, (sizeOf e).run P w = .ok s w) (hr : subR lo xs.length xs.length = true) :
    OpF P ⟨d, .slice T x (some l) none none, t, p, af, g⟩ R w (.raw (vsub u lo.toNat (xs.length - lo.toNat) s)) := by
  obtain ⟨ad, cap, rfl, _⟩ := vec_val hV
  obtain ⟨h1, h2, h3⟩ := subR_iff.1 hr
  refine opr_val (w' := w) ?_ ⟨rfl, Fr.refl _⟩
  obtain ⟨m, rfl⟩ := Int.eq_ofNat_of_zero_le h1
  have b1 : m ≤ xs.length := by omega
  simp [execOp, Instr.sliceAt, Instr.slice, Instr.sliceBounds, Instr.sliceBound, asIntOf, hx, hlo, underlying, hu, hsz, b1, go_sem, vsub]
theorem of_view_hi {h : Operand} {hi : Int} {k' : IntKind} (hV : Vec E A0 B e w0 u xs) (hx : evalR R x = u) (hhi : evalR R h = .int k' hi) (hu : P.underlying T = some (.slice e)) (hsz : ∀ w, (sizeOf e).run P w = .ok s w) (hr : subR 0 hi xs.length = true) :
    OpF P ⟨d, .slice T x none (some h) none, t, p, af, g⟩ R w (.raw (vsub u (0 : Int).toNat (hi.toNat - (0 : Int).toNat) s)) := by
  obtain ⟨cs, hown, hf⟩ := hV
  obtain ⟨h1, h2, h3⟩ := subR_iff.1 hr
  obtain ⟨q, rfl⟩ := Int.eq_ofNat_of_zero_le h2
  rcases hown.2 with ⟨rfl, hz⟩ | ⟨b, cap, cur, rfl, _, _, hnc, _⟩
  · have hq : q = 0 := by omega
    subst hq
    refine opr_val (w' := w) ?_ ⟨rfl, Fr.refl _⟩
    simp [execOp, Instr.sliceAt, Instr.slice, Instr.sliceBounds, Instr.sliceBound, asIntOf, hx, hhi, underlying, hu, hsz, go_sem, vsub]
  · have b2 : q ≤ cap := by omega
    refine opr_val (w' := w) ?_ ⟨rfl, Fr.refl _⟩
    simp [execOp, Instr.sliceAt, Instr.slice, Instr.sliceBounds, Instr.sliceBound, asIntOf, hx, hhi, underlying, hu, hsz, b2, go_sem, vsub]
theorem vsub_len (hV : Vec E A0 B e w0 u xs) : ∃ a c, vsub u lo.toNat n s = .slice a n c := by
  obtain ⟨ad, cap, rfl, _⟩ := vec_val hV
  exact ⟨_, _, rfl⟩
theorem of_len_view (hV : Vec E A0 B e w0 u xs) (hx : evalR R x = vsub u lo.toNat n s) (hu : P.underlying T = some (.slice e)) : OpF P ⟨d, .call ⟨.builtin .len, #[x], #[T]⟩, t, p, af, g⟩ R w (.raw (.int .i64 (n : Int))) := by
  obtain ⟨a, c, h⟩ := vsub_len (lo := lo) (n := n) (s := s) hV
  rw [h] at hx
  exact opr_val (w' := w) (by simp [execOp, resolve, invoke, builtin, Builtin.len_, hx, underlying, hu, goInt]) ⟨rfl, Fr.refl _⟩
theorem of_indexAddr_view {ix : Operand} {m : Nat} (hV : Vec E A0 B e w0 u xs) (hx : evalR R x = vsub u lo.toNat n s) (hi : evalR R ix = .int k i) (hu : P.underlying T = some (.slice e)) (hsz : ∀ w, (sizeOf e).run P w = .ok s w) (hr : inR i n = true) (h0 : decide (0 ≤ lo) = true) (hr' : inR (lo + i) xs.length = true) (hm : (lo + i).toNat * s = m) :
    OpF P ⟨d, .indexAddr T x ix, t, p, af, g⟩ R w (.raw (vptr u m)) := by
  subst hm
  obtain ⟨cs, hown, _⟩ := hV
  obtain ⟨i0, i1⟩ := inR_iff.1 hr
  obtain ⟨j0, j1⟩ := inR_iff.1 hr'
  have h0 := of_decide_eq_true h0
  rcases hown.2 with ⟨rfl, hz⟩ | ⟨b, cap, cur, rfl, _, _, hnc, _⟩
  · omega
  · have hne : cap ≠ lo.toNat := by omega
    have hx' : evalR R x = .slice (some ⟨b, lo.toNat * s, none⟩) n (cap - lo.toNat) := by
      rw [hx]
      simp [vsub, hne, addr_add]
    refine opr_val (v := .pointer (some ⟨b, lo.toNat * s + i.toNat * s, none⟩)) (w' := w) ?_ ⟨?_, Fr.refl _⟩
    · simp [execOp, Instr.indexAt, hx', hi, asIntOf, underlying, hu, i0, i1, hsz, addr_add]
    · show Value.pointer _ = Value.pointer _
      rw [show (lo + i).toNat = lo.toNat + i.toNat by omega, Nat.add_mul, Nat.zero_add]
/-- the row's first elements, handed on for the row -/
theorem took_prefix {h : Operand} {hi : Int} {ys : List α} (hx : evalR R x = u) (hok : (Res.vec B e E xs).ok A u w) (hav : ∀ k, ownsB u k → ∀ o, A k o) (hh : evalR R h = .int k hi) (hu : P.underlying T = some (.slice e)) (hsz : ∀ w, (sizeOf e).run P w = .ok s w) (hr : subR 0 hi xs.length = true) (hy : subL xs 0 hi = ys) :
    OpR P ⟨d, .slice T x none (some h) none, t, p, af, g⟩ R w (Took A true u (.vec B e E ys) (fun _ => .any) w) := by
  subst hy
  obtain ⟨cs, hown, hf⟩ := hok
  obtain ⟨h1, h2, h3⟩ := subR_iff.1 hr
  obtain ⟨q, rfl⟩ := Int.eq_ofNat_of_zero_le h2
  have hlen : (subL xs 0 (q : Int)).length = q := by rw [subL_length hr]; simp
  have hsub : subL xs 0 (q : Int) = xs.take q := by simp [subL]
  have hflat : Flat E A w (cs.take (q * E.size)) (xs.take q) := by
    have hq : q ≤ xs.length := by omega
    have hm := Nat.mul_le_mul_right E.size hq
    refine ⟨by rw [List.length_take, List.length_take, hf.1, Nat.min_eq_left hm, Nat.min_eq_left hq], fun i y hy => ?_⟩
    rw [List.getElem?_take] at hy
    split at hy
    · obtain ⟨ds, k1, k2⟩ := hf.2 i y hy
      refine ⟨ds, k1, fun j d hj => ?_⟩
      have hjl := (List.getElem?_eq_some_iff.1 hj).1
      rw [E.len k1] at hjl
      have hmm := Nat.mul_le_mul_right E.size (show i + 1 ≤ q by omega)
      rw [Nat.add_mul, Nat.one_mul] at hmm
      rw [List.getElem?_take, if_pos (by omega)]
      exact k2 j d hj
    · cases hy
  rw [hsub] at hlen ⊢
  rcases hown.2 with ⟨rfl, hz⟩ | ⟨b, cap, cur, rfl, hBb, hb, hnc, hcm, hcs, htk⟩
  · have hq0 : q = 0 := by omega
    subst hq0
    have hc := Ch.refl (ownsB (.slice none 0 0)) w
    refine opr_val (v := .slice none 0 0) (w' := w) ?_ ⟨_, rfl, hc, fun k _ h => h, stp_swap_self hav hc, ?_, trivial⟩
    · simp [execOp, Instr.sliceAt, Instr.slice, Instr.sliceBounds, Instr.sliceBound, asIntOf, hx, hh, underlying, hu, hsz, go_sem]
    · rw [List.take_zero]
      exact vec_nil
  · have b2 : q ≤ cap := by omega
    have hrun : (execOp (evalR R) ⟨d, .slice T x none (some h) none, t, p, af, g⟩).run P w = .ok (.value (.slice (some ⟨b, 0, none⟩) q cap)) w := by
      have e0 : (⟨b, 0, none⟩ : Addr).add (0 * s) = ⟨b, 0, none⟩ := by rw [addr_add]; simp
      have e1 : (if cap = 0 then some (⟨b, 0, none⟩ : Addr) else some ((⟨b, 0, none⟩ : Addr).add (0 * s))) = some ⟨b, 0, none⟩ := by rw [e0]; split <;> rfl
      simp [execOp, Instr.sliceAt, Instr.slice, Instr.sliceBounds, Instr.sliceBound, asIntOf, hx, hh, underlying, hu, hsz, b2, go_sem]
    have hc := Ch.refl (ownsB (.slice (some ⟨b, 0, none⟩) xs.length cap)) w
    have hst := stp_swap_self hav hc
    refine opr_val hrun ⟨.slice (some ⟨b, 0, none⟩) q cap, rfl, hc, fun k _ h => h, hst, ⟨cs.take (q * E.size), ⟨by rw [hflat.1], .inr ⟨b, cap, cur, by rw [hlen], hBb, hb, by omega, hcm, hcs, ?_⟩⟩, hflat.stp hst⟩, trivial⟩
    rw [hlen, ← htk, List.take_take, Nat.min_eq_left (Nat.mul_le_mul_right _ (by omega))]
end
theorem swapA_self {A : Av} {u : Value} (hav : ∀ k, ownsB u k → ∀ o, A k o) : swapA A u u = A := by
  funext b o
  apply propext
  constructor
  · rintro (⟨h, _⟩ | h)
    · exact h
    · exact hav b h o
  · intro h
    by_cases hb : ownsB u b
    · exact .inr hb
    · exact .inl ⟨h, hb⟩
/-! ### a row handed to a call that writes it -/
abbrev subA (A : Av) (u : Value) : Av := fun b o => A b o ∧ ¬ ownsB u b
theorem AvOK.sub {A : Av} (h : AvOK A w) (u : Value) : AvOK (subA A u) w := fun b o hb => h b o hb.1
theorem addA_sub {A : Av} {u : Value} (hav : ∀ k, ownsB u k → ∀ o, A k o) : addA (subA A u) u = A := by
  funext b o
  apply propext
  constructor
  · rintro (⟨h, _⟩ | h)
    · exact h
    · exact hav b h o
  · intro h
    by_cases hb : ownsB u b
    · exact .inr hb
    · exact .inl ⟨h, hb⟩
theorem vec_base {E : Enc α} {B B' : Nat} {e : TypeId} {u : Value} {xs : List α} {A : Av} (hB : B' ≤ B) (h : (Res.vec B e E xs).ok A u w) : (Res.vec B' e E xs).ok A u w :=
  let ⟨cs, h1, h2⟩ := h; ⟨cs, ⟨h1.1, h1.2.imp id fun ⟨g, cap, cur, e1, hb, r⟩ => ⟨g, cap, cur, e1, Nat.le_trans hB hb, r⟩⟩, h2⟩
theorem Vec.flat {E : Enc α} {B : Nat} {e : TypeId} {u : Value} {xs : List α} {A A' : Av} (h : (Res.vec B e E xs).ok A u w) (hfl : ∀ A A' w x cs, E.rep A w x cs → E.rep A' w x cs) : (Res.vec B e E xs).ok A' u w :=
  let ⟨cs, h1, h2, h3⟩ := h; ⟨cs, h1, h2, fun i x hx => let ⟨ds, h4, h5⟩ := h3 i x hx; ⟨ds, hfl _ _ _ _ _ h4, h5⟩⟩
theorem FnK1.flat {ρ : Type} {E : Enc α} {φ : ρ → Fact} {K : Nat → Prop} {v : Value} {F : α → Option ρ} {A A' : Av} (h : FnK1 P E φ A K w v F) (hA : AvOK A w) (hfl : ∀ A A' w x cs, E.rep A w x cs → E.rep A' w x cs) : FnK1 P E φ A' K w v F :=
  fun x r hr w' a hch _ ha => h x r hr w' a hch (hA.fr hch.size) (let ⟨cs, h1, h2⟩ := ha; ⟨cs, h1, hfl _ _ _ _ _ h2⟩)
theorem FnK1.mono {ρ : Type} {E : Enc α} {φ : ρ → Fact} {K K' : Nat → Prop} {v : Value} {F : α → Option ρ} (h : FnK1 P E φ A K w v F) (hK : ∀ k, K' k → K k) : FnK1 P E φ A K' w v F :=
  fun x r hr w' a hch hA ha => h x r hr w' a ⟨hch.os, hch.tape, hch.output, hch.size, fun k hk hn => hch.block k hk fun h' => hn (hK k h'), hch.drawn⟩ hA ha
theorem IniOK.one {E : Enc α} {B : Nat} {e : TypeId} {u : Value} {xs : List α} {A : Av} (h : (Res.vec B e E xs).ok A u w) (hfl : ∀ A A' w x cs, E.rep A w x cs → E.rep A' w x cs) : IniOK [ob u (.vec B e E xs)] (addA A u) w := by
  refine ⟨fun i p hp => ?_, fun i p hp => ?_, fun i j p q hp hq hne k hk hk' => ?_⟩
  · cases i with
    | zero => simp at hp; subst hp; exact ⟨Vec.flat h hfl, fun k hk o => .inr hk⟩
    | succ i => simp at hp
  · cases i with
    | zero => simp at hp; subst hp; rfl
    | succ i => simp at hp
  · cases i with
    | zero =>
      cases j with
      | zero => exact hne rfl
      | succ j => simp at hq
    | succ i => simp at hp
theorem AvOK.one {E : Enc α} {B : Nat} {e : TypeId} {u : Value} {xs : List α} {A : Av} (hA : AvOK A w) (h : (Res.vec B e E xs).ok A u w) : AvOK (addA A u) w :=
  fun b o hb => hb.elim (hA b o) fun hb => Res.lt h rfl hb
/-- the call's last word on a row that it was handed, and hands back -/
theorem took_post {E : Enc α} {B : Nat} {e : TypeId} {u v : Value} {ys : List α} {A A' : Av} {w' : World} (hav : ∀ k, ownsB u k → ∀ o, A k o) (hch : Ch (ownsB u) w w') (hv : (Res.vec B e E ys).ok A' v w') (hge : ∀ k, ownsB v k → w.heap.size ≤ k ∨ ownsB u k) (hfl : ∀ A A' w x cs, E.rep A w x cs → E.rep A' w x cs) :
    Took A true u (.vec B e E ys) (fun _ => .any) w v w' :=
  ⟨v, rfl, hch, fun k hk h => (hge k h).resolve_left (by omega), ⟨hch.size, fun b o x hx hn => (World.cell?_of_block (w := w) (hch.block b (cell_lt' hx) fun h => hn (hav b h o))).trans hx, fun b o hb h => h.elim (·.1) fun h => hav b ((hge b h).resolve_left (by omega)) o⟩, Vec.flat hv hfl, trivial⟩
theorem IniOK.own_ge {ini : List Ob} {A : Av} {B : Nat} {K : Nat → Prop} (h : IniOK ini A w) (hB : allFor B K ini) {i : Nat} {u : Value} {r : Res} (hi : ini[i]? = some (ob u r)) : ∀ k, ownsB u k → B ≤ k ∨ K k :=
  fun k hk => h.geK hB k ⟨i, _, hi, hk⟩
theorem CRep.less {E : Enc α} {B : Nat} {a : α} {A A' : Av} {v : Value} (h : CRep E A w B v a) (hAA : ∀ b o, A' b o → A b o) : CRep E A' w B v a :=
  let ⟨b, o, h1, h2, h3, cs, h4, h5⟩ := h; ⟨b, o, h1, h2, h3, cs, E.stp (stp_down hAA) h4, h5⟩
/-- a call that takes a row and hands back another for it -/
theorem took_callm {E : Enc α} {e : TypeId} {ys : List α} {B : Nat} {u : Value} {fn : FuncId} {al : List Operand} {aT : Array TypeId} {dd : Nat} (hc : ∀ args w, (callFunc fn args).run P w = .ok (.enter fn args) w) (hav : ∀ k, ownsB u k → ∀ o, A k o)
    (h : Calls P fn (al.map (evalR R)).toArray w fun ed w' => ∃ v, ed = .returned v ∧ Took (addA (subA A u) u) true u (.vec B e E ys) (fun _ => .any) w v w') :
    OpR P ⟨some dd, .call ⟨.value (.func fn), al.toArray, aT⟩, t, p, af, g⟩ R w (Took A true u (.vec B e E ys) (fun _ => .any) w) := by
  unfold OpR
  have : (execOp (evalR R) ⟨some dd, .call ⟨.value (.func fn), al.toArray, aT⟩, t, p, af, g⟩).run P w = .ok (.enter fn (al.map (evalR R)).toArray) w := by
    simp [execOp, resolve, evalR, Deferred.ofValue, invoke, hc]
  rw [this]
  rw [addA_sub hav] at h
  exact h
/-- the row's end filled with zeros -/
theorem took_clear {E : Enc α} {xs ys : List α} {u : Value} {e : TypeId} {B : Nat} {lo : Int} {n s : Nat} {zc : Value} {z : α} (hx : evalR R x = vsub u lo.toNat n s) (hok : (Res.vec B e E xs).ok A u w) (hav : ∀ k, ownsB u k → ∀ o, A k o) (hu : P.underlying T = some (.slice e)) (hs : s = E.size)
    (hz : ∀ w, (zeroValue e).run P w = .ok zc w) (hzr : ∀ A w, E.rep A w z zc.cells.toList) (hr : subR lo xs.length xs.length = true) (hn : (n == xs.length - lo.toNat) = true) (hy : xs.take lo.toNat ++ List.replicate (xs.length - lo.toNat) z = ys) :
    OpR P ⟨none, .call ⟨.builtin .clear, #[x], #[T]⟩, t, p, af, g⟩ R w (Took A false u (.vec B e E ys) (fun _ => .any) w) := by
  subst hy hs
  obtain rfl := of_decide_eq_true hn
  obtain ⟨h1, h2, h3⟩ := subR_iff.1 hr
  obtain ⟨q, rfl⟩ := Int.eq_ofNat_of_zero_le h1
  have hq : q ≤ xs.length := by omega
  simp only [Int.toNat_natCast] at hx ⊢
  have hlen : (xs.take q ++ List.replicate (xs.length - q) z).length = xs.length := by simp; omega
  have hcu := Ch.refl (ownsB u) w
  by_cases hq0 : xs.length - q = 0
  · obtain ⟨a, c, he⟩ := vsub_len (lo := (q : Int)) (n := xs.length - q) (s := E.size) hok
    rw [Int.toNat_natCast] at he
    rw [he, hq0] at hx
    refine opr_val (v := .tuple #[]) (w' := w) ?_ ⟨u, rfl, hcu, fun k _ h => h, stp_swap_self hav hcu, ?_, trivial⟩
    · cases a <;> simp [execOp, resolve, invoke, builtin, Builtin.clear_, hx, run_underlying hu]
    · rw [swapA_self hav, hq0, List.replicate_zero, List.append_nil, List.take_of_length_le (by omega)]
      exact hok
  · obtain ⟨cs, hown, hf⟩ := hok
    rcases hown.2 with ⟨rfl, hz0⟩ | ⟨b, cap, cur, rfl, hBb, hb, hnc, hcm, hcs, htk⟩
    · omega
    · have hne : cap ≠ q := by omega
      have hx' : evalR R x = .slice (some ⟨b, q * E.size, none⟩) (xs.length - q) (cap - q) := by
        rw [hx]
        simp [vsub, hne, addr_add]
      have hzl : zc.cells.size = E.size := by simpa using E.len (hzr A w)
      have hzone : ∀ v ∈ (Builtin.zeroCells zc.cells (xs.length - q)).toList, v.oneCell' = true := by
        intro v hv
        simp only [Builtin.zeroCells, Array.toList_map, List.mem_map, Array.toList_range, List.mem_range] at hv
        obtain ⟨i, hi, rfl⟩ := hv
        have hpos : 0 < zc.cells.size := by
          rcases Nat.eq_zero_or_pos zc.cells.size with h | h
          · rw [h, Nat.mul_zero] at hi; omega
          · exact h
        have hm := Nat.mod_lt i hpos
        rw [getElem!_pos zc.cells _ hm]
        exact E.oc (hzr A w) _ (by simp)
      have hzsz : (Builtin.zeroCells zc.cells (xs.length - q)).toList.length = (xs.length - q) * E.size := by
        simp [Builtin.zeroCells, hzl]
      have hm1 := Nat.mul_le_mul_right E.size hq
      have hm2 := Nat.mul_le_mul_right E.size hnc
      obtain ⟨w', hr1, hr2, hr3⟩ := run_storeCellsM (P := P) (b := b) (T := e) (Builtin.zeroCells zc.cells (xs.length - q)).toList cur (q * E.size) 0 w hzone hb (by rw [hzsz, Nat.sub_mul, hcs]; omega)
      have hch : Ch (ownsB (.slice (some ⟨b, 0, none⟩) xs.length cap)) w w' := hr2.ch
      have hst := stp_swap_self hav hch
      refine opr_val (v := .tuple #[]) (w' := w') ?_ ⟨_, rfl, hch, fun k _ h => h, hst, ?_, trivial⟩
      · obtain ⟨m, hm⟩ : ∃ m, xs.length - q = m + 1 := ⟨xs.length - q - 1, by omega⟩
        rw [hm] at hx' hr1
        simp [execOp, resolve, invoke, builtin, Builtin.clear_, hx', run_underlying hu, hz, hr1]
      · rw [swapA_self hav] at hst ⊢
        have hfl0 : Flat E A w' (cs.take (q * E.size)) (xs.take q) := by
          refine ⟨by rw [List.length_take, List.length_take, hf.1, Nat.min_eq_left hm1, Nat.min_eq_left hq], fun i y hy => ?_⟩
          rw [List.getElem?_take] at hy
          split at hy
          · obtain ⟨ds, k1, k2⟩ := (hf.stp hst).2 i y hy
            refine ⟨ds, k1, fun j d hj => ?_⟩
            have hjl := (List.getElem?_eq_some_iff.1 hj).1
            rw [E.len k1] at hjl
            have hmm := Nat.mul_le_mul_right E.size (show i + 1 ≤ q by omega)
            rw [Nat.add_mul, Nat.one_mul] at hmm
            rw [List.getElem?_take, if_pos (by omega)]
            exact k2 j d hj
          · cases hy
        have hfl1 : Flat E A w' (Builtin.zeroCells zc.cells (xs.length - q)).toList (List.replicate (xs.length - q) z) := by
          have := madeCells_flat (hzr A w') (xs.length - q) (E := E)
          have e1 : (madeCells zc.cells ((xs.length - q) * E.size)) = Builtin.zeroCells zc.cells (xs.length - q) := by
            simp [madeCells, Builtin.zeroCells, hzl]
          rwa [e1] at this
        refine ⟨_, ⟨?_, .inr ⟨b, cap, _, by rw [hlen], hBb, hr3, by rw [hlen]; exact hnc, hcm, by rw [lay_size]; exact hcs, rfl⟩⟩, ?_⟩
        · have hll : (lay cur (q * E.size + 0) (Builtin.zeroCells zc.cells (xs.length - q)).toList).toList.length = cap * E.size := by rw [Array.length_toList, lay_size, hcs]
          rw [List.length_take, hlen, hll]
          exact Nat.min_eq_left hm2
        · have e2 : ((lay cur (q * E.size + 0) (Builtin.zeroCells zc.cells (xs.length - q)).toList).toList.take ((xs.take q ++ List.replicate (xs.length - q) z).length * E.size)) = cs.take (q * E.size) ++ (Builtin.zeroCells zc.cells (xs.length - q)).toList := by
            rw [hlen]
            have hcsl := hf.1
            apply List.ext_getElem?
            intro j
            by_cases hj : j < xs.length * E.size
            · rw [List.getElem?_take, if_pos hj, Array.getElem?_toList, lay_at _ _ _ _ (by rw [hzsz, Nat.sub_mul, hcs]; omega), hzsz, Nat.add_zero]
              by_cases hj1 : j < q * E.size
              · rw [if_neg (by omega), List.getElem?_append_left (by simp; omega), List.getElem?_take, if_pos hj1, ← htk, List.getElem?_take, if_pos hj, Array.getElem?_toList]
              · rw [if_pos (by rw [Nat.sub_mul]; omega), List.getElem?_append_right (by simp; omega)]
                congr 1
                simp
                omega
            · rw [List.getElem?_take, if_neg hj, List.getElem?_eq_none (by rw [List.length_append, hzsz, List.length_take, Nat.sub_mul]; omega)]
          rw [e2]
          exact flat_app hfl0 hfl1
/-! ### rows that become plain lists -/
theorem Vec.thaw {E : Enc α} {B : Nat} {e : TypeId} {u : Value} {xs : List α} {A A' : Av} (h : Vec E A B e w u xs) (hAA : ∀ b o, A' b o → A b o) (hn : ∀ b o, A' b o → ¬ ownsB u b) : Rep (eSl E) A' w u xs := by
  obtain ⟨cs, hown, hf⟩ := h
  have hst : Stp A A' w w := stp_down hAA
  rcases hown.2 with ⟨rfl, h0⟩ | ⟨g, cap, cur, rfl, hbg, hg, hnc, hcm, hcs, htake⟩
  · have : xs = [] := List.eq_nil_of_length_eq_zero h0
    subst this
    exact rep_nil
  · refine ⟨_, rfl, some ⟨g, 0, none⟩, xs.length, cap, rfl, rfl, hnc, hcm, fun _ => ⟨g, 0, rfl, hg.lt, fun i x hx => ?_⟩⟩
    obtain ⟨ds, h1, h2⟩ := hf.2 i x hx
    refine ⟨⟨ds, E.stp hst h1, fun j u hj => ?_⟩, fun j _ hA0 => hn _ _ hA0 rfl⟩
    have := hown.cells (g := g) rfl (i * E.size + j) u (h2 j u hj)
    rwa [addr_add, ← Nat.add_assoc] at this
theorem OpR.thaw {o : Oper} {E : Enc α} {B : Nat} {e : TypeId} {u : Value} {xs : List α} {lk : Bool} (h : OpR P o R w (Took A true u (.vec B e E xs) (fun _ => .any) w)) (hA : AvOK A w) (hav : ∀ k, ownsB u k → ∀ o, A k o) : OpR P o R w (TookS A lk u (ownsB u) .nul (fun A => .rep (eSl E) A xs) w) :=
  h.mono fun v w' h => by
    obtain ⟨u'', hu, hch, hs, hst, hok, _⟩ := h
    subst hu
    have hAA : ∀ b o, swapS A (ownsB u) (fun _ => False) b o → swapA A u u'' b o := fun b o h => h.elim .inl fun h => h.elim
    refine ⟨bif lk then u'' else u, fun _ => False, by cases lk <;> rfl, hch, fun k _ h => h.elim, ⟨hst.size, fun b o v hv hn => hst.cell b o v hv hn, fun b o hb h => h.elim (·.1) fun h => h.elim⟩, trivial, rfl, ?_⟩
    refine Vec.thaw hok hAA fun b o h hb => ?_
    rcases h with ⟨h1, h2⟩ | h
    · exact h2 (hs b (hA b o h1) hb)
    · exact h
theorem view_rep {E : Enc α} {u : Value} {xs : List α} {A0 : Av} {lo hi : Int} {n s : Nat} (h : Rep (eSl E) A0 w u xs) (hr : subR lo hi xs.length = true) (hn : n = hi.toNat - lo.toNat) (hs : s = E.size) : Rep (eSl E) A0 w (vsub u lo.toNat n s) (subL xs lo hi) := by
  subst hn hs
  obtain ⟨cs, hv, ad, n, c, rfl, hl, hnc, hcm, h4⟩ := h
  obtain rfl : u = .slice ad n c := hv
  exact sub_rep hl hnc hcm h4 hr
/-- a row that the caller handed over, for reading -/
theorem vec_repK {E : Enc α} {B B' : Nat} {e : TypeId} {u : Value} {xs : List α} {A A0 : Av} {K : Nat → Prop} (h : Vec E A B e w u xs) (hAA : ∀ b o, A0 b o → A b o) (h0 : ∀ b o, A0 b o → b < B') (hN : ∀ b o, A0 b o → ¬ K b) (hK : ∀ k, ownsB u k → B' ≤ k ∨ K k) : Rep (eSl E) A0 w u xs :=
  Vec.thaw h hAA fun b o h hb => (hK b hb).elim (fun h' => by have := h0 b o h; omega) (hN b o h)
theorem frz_assign {E : Enc α} {B : Nat} {e : TypeId} {u : Value} {xs : List α} {lk : Bool} (hx : evalR R x = u) (hok : (Res.vec B e E xs).ok A u w) (hA : AvOK A w) (hav : ∀ k, ownsB u k → ∀ o, A k o) : OpR P ⟨d, .assign x, t, p, af, g⟩ R w (TookS A lk u (ownsB u) .nul (fun A => .rep (eSl E) A xs) w) :=
  (took_assign hx hok hav).thaw hA hav
end
end Go.Proofs.Ytmkgocdgkdglnaa
