/- Arrays: readings, places in them, arrays of rows of our own; a row at a place that is handed to a call and comes back. No statement of the seat is proved here. -/
import Derived.Test.YtmkgocdgkdglnaaDp
import Derived.Test.YtmkgocdgkdglnaaDg
namespace Go.Proofs.Ytmkgocdgkdglnaa
open Go.RowKit
set_option linter.unusedVariables false

/-! ### readings -/
/-- n elements, one behind the other -/
def eAr0 {α : Type} : Enc (List α) where
  size := 0
  agg := true
  rep := fun _ _ xs cs => xs = [] ∧ cs = []
  len := by rintro A w x cs ⟨_, rfl⟩; rfl
  one := fun h => by cases h
  oc := by rintro A w x cs ⟨_, rfl⟩ c hc; cases hc
  stp := fun _ h => h
def eArS {α : Type} (E : Enc α) (G : Enc (List α)) : Enc (List α) where
  size := E.size + G.size
  agg := true
  rep := fun A w xs cs => ∃ x ys, xs = x :: ys ∧ (ePr E G).rep A w (x, ys) cs
  len := by rintro A w xs cs ⟨x, ys, _, h⟩; exact (ePr E G).len h
  one := fun h => by cases h
  oc := by rintro A w xs cs ⟨x, ys, _, h⟩; exact (ePr E G).oc h
  stp := by rintro A A' w w' xs cs hs ⟨x, ys, e, h⟩; exact ⟨x, ys, e, (ePr E G).stp hs h⟩
def eAr {α : Type} (E : Enc α) : Nat → Enc (List α)
  | 0 => eAr0
  | n + 1 => eArS E (eAr E n)
section
variable {α β : Type} {E : Enc α} {F : OE α} {A A0 : Av} {w : World} {S : Nat → Prop}
theorem eAr_len : ∀ {n : Nat} {xs : List α} {cs : List Value}, (eAr E n).rep A w xs cs → xs.length = n
  | 0, _, _, h => by rw [h.1]; rfl
  | n + 1, _, _, ⟨x, ys, e, c, d, _, _, h⟩ => by
    have := eAr_len (n := n) h
    rw [e, List.length_cons]
    have h2 : ys.length = n := this
    omega
theorem Fld.arN [Inhabited α] : ∀ (n i : Nat), i < n → Fld (eAr E n) (i * E.size) E fun xs => gtD xs (i : Int)
  | 0, i, h => absurd h (Nat.not_lt_zero _)
  | n + 1, 0, _ => ⟨by show 0 * E.size + E.size ≤ E.size + _; omega, by
    rintro A w xs cs ⟨x, ys, rfl, h⟩
    have := (Fld.fst (E := E) (F := eAr E n)).get h
    rw [Nat.zero_mul]
    exact this⟩
  | n + 1, i + 1, hi => by
    have ih := Fld.arN n i (by omega)
    have h2 := Fld.snd (E := E) ih
    have e : E.size + i * E.size = (i + 1) * E.size := by rw [Nat.add_mul, Nat.one_mul, Nat.add_comm]
    rw [e] at h2
    refine ⟨h2.le, ?_⟩
    rintro A w xs cs ⟨x, ys, rfl, h⟩
    have := h2.get h
    have e3 : gtD (x :: ys) ((i + 1 : Nat) : Int) = gtD ys (i : Int) := by
      unfold gtD
      rw [Int.toNat_natCast, Int.toNat_natCast]
      rfl
    rw [e3]
    exact this
theorem Fld.ar [Inhabited α] {n : Nat} {i : Int} (h : inR i n = true) : Fld (eAr E n) (i.toNat * E.size) E fun xs => gtD xs i := by
  obtain ⟨h0, h1⟩ := inR_iff.1 h
  have := Fld.arN (E := E) n i.toNat (by omega)
  have e : ((i.toNat : Nat) : Int) = i := by omega
  rwa [e] at this
theorem rep_ar0 : (eAr E 0).rep A w [] [] := ⟨rfl, rfl⟩
theorem rep_arc {n : Nat} {x : α} {ys : List α} {c d : List Value} (h : E.rep A w x c) (k : (eAr E n).rep A w ys d) : (eAr E (n + 1)).rep A w (x :: ys) (c ++ d) := ⟨x, ys, rfl, c, d, rfl, h, k⟩
/-! ### arrays of trees -/
def ownAr (F : OE α) : Nat → Av → World → (Nat → Prop) → List α → List Value → Prop
  | 0, _, _, S, xs, cs => xs = [] ∧ cs = [] ∧ ∀ k, ¬ S k
  | n + 1, A, w, S, xs, cs => ∃ x ys c d S1 S2, xs = x :: ys ∧ cs = c ++ d ∧ F.own A w S1 x c ∧ ownAr F n A w S2 ys d ∧ (∀ k, S k ↔ S1 k ∨ S2 k) ∧ ∀ k, S1 k → ¬ S2 k
theorem ownAr_lt {k : Nat} : ∀ {n : Nat} {S : Nat → Prop} {xs : List α} {cs : List Value}, ownAr F n A w S xs cs → S k → k < w.heap.size
  | 0, _, _, _, h, hk => (h.2.2 k hk).elim
  | n + 1, _, _, _, ⟨x, ys, c, d, S1, S2, _, _, h1, h2, h3, _⟩, hk => ((h3 k).1 hk).elim (fun h => F.lt h1 h) fun h => ownAr_lt h2 h
theorem ownAr_stab {A' : Av} {w' : World} (hs : Stp A A' w w') : ∀ {n : Nat} {S : Nat → Prop} {xs : List α} {cs : List Value}, ownAr F n A w S xs cs → (∀ k, S k → w'.heap[k]? = w.heap[k]?) → ownAr F n A' w' S xs cs
  | 0, _, _, _, h, _ => h
  | n + 1, _, _, _, ⟨x, ys, c, d, S1, S2, e1, e2, h1, h2, h3, h4⟩, hb => ⟨x, ys, c, d, S1, S2, e1, e2, F.stab h1 (fun k hk => hb k ((h3 k).2 (.inl hk))) hs, ownAr_stab hs h2 (fun k hk => hb k ((h3 k).2 (.inr hk))), h3, h4⟩
theorem ownAr_rep (hA : ∀ b o, A0 b o → A b o) : ∀ {n : Nat} {S : Nat → Prop} {xs : List α} {cs : List Value}, ownAr F n A w S xs cs → (∀ k o, S k → ¬ A0 k o) → (eAr F.E n).rep A0 w xs cs
  | 0, _, _, _, h, _ => ⟨h.1, h.2.1⟩
  | n + 1, _, _, _, ⟨x, ys, c, d, S1, S2, e1, e2, h1, h2, h3, h4⟩, hn => ⟨x, ys, e1, c, d, e2, F.rep h1 hA fun k o hk => hn k o ((h3 k).2 (.inl hk)), ownAr_rep hA h2 fun k o hk => hn k o ((h3 k).2 (.inr hk))⟩
def oAr (n : Nat) (F : OE α) : OE (List α) where
  E := eAr F.E n
  own := ownAr F n
  lt := fun h hk => ownAr_lt h hk
  stab := fun h hb hs => ownAr_stab hs h hb
  rep := fun h hA hn => ownAr_rep hA h hn
theorem own_ar0 : (oAr 0 F).own A w (fun _ => False) [] [] := ⟨rfl, rfl, fun _ h => h⟩
theorem own_arc {n : Nat} {x : α} {ys : List α} {c d : List Value} (h : F.own A w (fun _ => False) x c) (k : (oAr n F).own A w (fun _ => False) ys d) : (oAr (n + 1) F).own A w (fun _ => False) (x :: ys) (c ++ d) :=
  ⟨x, ys, c, d, _, _, rfl, rfl, h, k, fun _ => ⟨.inl, fun h => h.elim id id⟩, fun _ h => h.elim⟩
theorem Hole.arP {n b off : Nat} {x : α} {ys : List α} {S1 : Nat → Prop} {cs : List Value} {Q : List α → Pw} (h : Hole (oAr (n + 1) F) A w S b off (x :: ys) S1 cs Q) : Hole (oPr F (oAr n F)) A w S b off (x, ys) S1 cs (fun z => Q (z.1 :: z.2)) := by
  refine ⟨?_, h.at', h.inb, h.out, h.sub, h.blk, fun A' w' S1' y' ds k1 k2 k3 k4 k5 k6 => h.put A' w' S1' (y'.1 :: y'.2) ds ?_ k2 k3 k4 k5 k6⟩
  · obtain ⟨x', ys', c, d, Sa, Sb, e, h1⟩ := h.own
    obtain ⟨rfl, rfl⟩ := List.cons.inj e
    exact ⟨c, d, Sa, Sb, h1⟩
  · obtain ⟨c, d, Sa, Sb, h1⟩ := k1
    exact ⟨y'.1, y'.2, c, d, Sa, Sb, rfl, h1⟩
theorem Hole.ar : ∀ {n b off : Nat} {xs : List α} {S1 : Nat → Prop} {cs : List Value} {Q : List α → Pw} (i : Nat) {x : α}, Hole (oAr n F) A w S b off xs S1 cs Q → xs[i]? = some x → ∃ S2 ds, Hole F A w S b (off + i * F.E.size) x S2 ds (fun z => Q (xs.set i z))
  | 0, b, off, xs, S1, cs, Q, i, x, h, hx => by
    have := h.own.1
    rw [this] at hx
    simp at hx
  | n + 1, b, off, xs, S1, cs, Q, i, x, h, hx => by
    obtain ⟨x0, ys, c, d, Sa, Sb, rfl, _⟩ := h.own
    have hp := h.arP
    cases i with
    | zero =>
      simp only [List.getElem?_cons_zero, Option.some.injEq] at hx
      subst hx
      rw [Nat.zero_mul, Nat.add_zero]
      exact hp.fst
    | succ i =>
      obtain ⟨S2, ds, h2⟩ := hp.snd
      have := Hole.ar i h2 (by simpa using hx)
      rw [show off + F.E.size + i * F.E.size = off + (i + 1) * F.E.size by rw [Nat.add_mul, Nat.one_mul]; omega] at this
      exact this
theorem HoleA.ar [Inhabited α] {n m : Nat} {a : Value} {xs : List α} {Q : List α → Pw} (h : HoleA (oAr n F) A w S a xs Q) {i : Int} (hi : inR i n = true) (hm : i.toNat * F.E.size = m) : HoleA F A w S (padd a m) (gtD xs i) (fun z => Q (xs.set i.toNat z)) := by
  subst hm
  obtain ⟨b, off, S1, cs, rfl, h⟩ := h
  have hl : xs.length = n := eAr_len (E := F.E) (ownAr_rep (A0 := av0) (F := F) (fun _ _ h => h.elim) h.own fun _ _ _ h => h)
  obtain ⟨S2, ds, h2⟩ := h.ar i.toNat (getD_at (hl.symm ▸ hi))
  exact ⟨b, off + i.toNat * F.E.size, S2, ds, rfl, h2⟩
end
/-! ### operations -/
section
variable {P : Program} {R : Reg} {w : World} {d : Option Nat} {t : TypeId} {p : String} {af : Array Edge} {g : Option (Nat × Bool)} {A A0 : Av} {α β : Type} {S S0 : Nat → Prop}
variable {E : Enc α} {F : OE α} {x ix : Operand} {T e : TypeId} {K : Nat → Prop} {u a v : Value}
theorem of_indexAddr_ar {n s m : Nat} {k : IntKind} {i : Int} (h : ∃ b off, a = .pointer (some ⟨b, off, none⟩)) (hx : evalR R x = a) (hi : evalR R ix = .int k i) (hu : P.underlying T = some (.array n e)) (hsz : ∀ w, (sizeOf e).run P w = .ok s w) (hr : inR i n = true) (hm : i.toNat * s = m) :
    OpF P ⟨d, .indexAddr T x ix, t, p, af, g⟩ R w (.raw (padd a m)) := by
  subst hm
  obtain ⟨b, off, rfl⟩ := h
  obtain ⟨i0, i1⟩ := inR_iff.1 hr
  refine opr_val (v := .pointer (some ⟨b, off + i.toNat * s, none⟩)) (w' := w) ?_ ⟨rfl, Fr.refl _⟩
  have hadd : ∀ j, (⟨b, off, none⟩ : Addr).add j = ⟨b, off + j, none⟩ := addr_add b off
  simp [execOp, Instr.indexAt, Instr.sureAddr, hx, hi, asIntOf, underlying, hu, i0, i1, hsz, hadd]
theorem of_indexAddr_arb {n s m b : Nat} {k : IntKind} {i : Int} (hx : evalR R x = .pointer (some ⟨b, 0, none⟩)) (hi : evalR R ix = .int k i) (hu : P.underlying T = some (.array n e)) (hsz : ∀ w, (sizeOf e).run P w = .ok s w) (hr : inR i n = true) (hm : i.toNat * s = m) :
    OpF P ⟨d, .indexAddr T x ix, t, p, af, g⟩ R w (.raw (.pointer (some ⟨b, m, none⟩))) := by
  have h := of_indexAddr_ar (d := d) (t := t) (p := p) (af := af) (g := g) (w := w) ⟨b, 0, rfl⟩ hx hi hu hsz hr hm
  have e : padd (.pointer (some ⟨b, 0, none⟩)) m = .pointer (some ⟨b, m, none⟩) := by
    unfold padd
    simp
  rwa [e] at h
/-- a row at a place, taken by an operation that gives one back -/
theorem pend_of_took {o : Oper} {xs zs : List α} {Q : List α → Pw} {u0 : Value} {S' : Nat → Prop} (h : HoleA (oSl e (oRd E)) A w S a xs Q) (hp : PinOK w S' (a, [v])) (hav : ∀ k, S k → ∀ o, A k o) (hB : ∀ k, S k → K k) (hBw : ∀ k, w.heap.size ≤ k → K k) (hlt : ∀ k, S k → k < w.heap.size)
    (hO : (Res.vec 0 e E xs).ok A v w → (∀ k, ownsB v k → ∀ o, A k o) → OpR P o R w (Took A true v (.vec 0 e E zs) (fun _ => .any) w)) (hT : e ≠ tByte := by decide) :
    OpR P o R w (TookS A true u0 S (.gen K (pdP (oSl e (oRd E)) a Q zs)) (fun _ => .any) w) := by
  obtain ⟨b, off, S1, cs, rfl, h⟩ := h
  obtain ⟨b', o', e0, _, hc⟩ := hp
  injection e0 with e0
  injection e0 with e0
  injection e0 with e1 e2
  subst e1 e2
  have hl1 : cs.length = 1 := (oSl e (oRd E)).len h.own
  obtain rfl : cs = [v] := by
    match cs, hl1 with
    | [c], _ =>
      have h1 := h.at' 0 c rfl
      have h2 := hc 0 v rfl
      rw [h1] at h2
      injection h2 with h2
      rw [h2]
  obtain ⟨hv, rfl⟩ := vec_of_own (B := 0) (v := v) h.own rfl (fun _ _ => Nat.zero_le _)
  have hS1 : ∀ k, ownsB v k → S k := h.sub
  have hbo : ¬ ownsB v b := h.out
  refine (hO hv fun k hk => hav k (hS1 k hk)).mono ?_
  rintro v' w2 ⟨u2, rfl, hch, hsame, hst0, hok, _⟩
  have hch' : Ch S w w2 := ⟨hch.os, hch.tape, hch.output, hch.size, fun k hk hn => hch.block k hk fun hk' => hn (hS1 k hk'), hch.drawn⟩
  have hold : ∀ k, S k → ¬ ownsB v k → w2.heap[k]? = w.heap[k]? := fun k hk hn => hch.block k (hlt k hk) hn
  have hsub : ∀ k, k < w.heap.size → ((S k ∧ ¬ ownsB v k) ∨ ownsB u2 k) → S k := fun k hk hs => hs.elim (·.1) fun hs => hS1 k (hsame k hk hs)
  have hst := stp_swapS (A := A) hav hch' hsub
  refine ⟨u2, fun k => (S k ∧ ¬ ownsB v k) ∨ ownsB u2 k, rfl, hch', hsub, hst, trivial, ⟨fun k hk => ?_, ?_⟩, trivial⟩
  · rcases hk with hk | hk
    · exact hB k hk.1
    · rcases Nat.lt_or_ge k w.heap.size with hl2 | hg
      · exact hB k (hS1 k (hsame k hl2 hk))
      · exact hBw k hg
  · obtain ⟨cs2, he2, ho2⟩ := own_of_vec hok hT
    obtain ⟨arr, T0, hblk, hsz⟩ := h.blk
    have hdis : ∀ k, ownsB u2 k → ¬ (S k ∧ ¬ ownsB v k) := fun k hk hn => hn.2 (hsame k (hlt k hn.1) hk)
    have hb2 := hold b h.inb hbo
    refine ⟨b, off, ownsB u2, fun k => S k ∧ ¬ ownsB v k, cs2, rfl, he2, OE.stab _ ho2 (fun _ _ => rfl) (stp_down fun k o hk => ?_), fun k => Iff.rfl, hdis, ⟨h.inb, hbo⟩, ⟨arr, T0, hb2.trans hblk, hsz⟩, fun k hk => Nat.lt_of_lt_of_le (hlt k hk.1) hch.size, fun A' w' S1' y' ds k1 k2 k3 k4 k5 k6 => ?_⟩
    · rcases hk with ⟨h1, h2⟩ | ⟨h1, h2⟩ | h1
      · exact .inl ⟨h1, fun hk => h2 (hS1 k hk)⟩
      · exact .inl ⟨hav k h1 o, h2⟩
      · exact .inr h1
    · obtain ⟨arr0, arr1, T1, j1, j2, j3, j4⟩ := k3
      exact h.put A' w' S1' y' ds k1 k2 ⟨arr0, arr1, T1, hb2.symm.trans j1, j2, j3, j4⟩ (fun k a1 a2 a3 => (k4 k ⟨a1, a2⟩ a3).trans (hold k a1 a2)) (hst.trans k5) (fun k a1 a2 => Classical.byContradiction fun hn => k6 k a1 ⟨a2, hn⟩)
end
end Go.Proofs.Ytmkgocdgkdglnaa
