/- A row at a place in a tree that grows: between the append and the store the tree lacks the place, and a store there makes it whole. No statement of the seat is proved here. -/
import Derived.Test.YtmgiijdejigdhaaDq
namespace Go.Proofs.Ytmgiijdejigdhaa
open Go.RowKit
set_option linter.unusedVariables false

/-- u is a value of our own that reads y; put at the address a it makes a tree whole -/
def pdP {β : Type} (F : OE β) (a : Value) (Q : β → Pw) (y : β) : SP where
  P := fun A w S u => ∃ (b off : Nat) (S1 S2 : Nat → Prop) (cs : List Value), a = .pointer (some ⟨b, off, none⟩) ∧ u = F.E.val cs ∧ F.own A w S1 y cs ∧ (∀ k, S k ↔ S2 k ∨ S1 k) ∧ (∀ k, S1 k → ¬ S2 k) ∧ S2 b ∧ (∃ arr T, Blk w b T arr ∧ off + F.E.size ≤ arr.size) ∧ (∀ k, S2 k → k < w.heap.size) ∧
    ∀ (A' : Av) (w' : World) (S1' : Nat → Prop) (y' : β) (ds : List Value), F.own A' w' S1' y' ds → (∀ (j : Nat) u, ds[j]? = some u → w'.cell? ⟨b, off + j, none⟩ = some u) → Up b off F.E.size w w' → (∀ k, S2 k → k ≠ b → w'.heap[k]? = w.heap[k]?) → Stp A A' w w' → (∀ k, S1' k → ¬ S2 k) → Q y' A' w' (fun k => S2 k ∨ S1' k)
  lt := by
    rintro A w S u k ⟨b, off, S1, S2, cs, rfl, rfl, h1, h2, h3, h4, h5, h6, h7⟩ hk
    rcases (h2 k).1 hk with h | h
    · exact h6 k h
    · exact F.lt h1 h
  stab := by
    rintro A A1 w w1 S u ⟨b, off, S1, S2, cs, rfl, rfl, h1, h2, h3, h4, ⟨arr, T, h5, h5'⟩, h6, h7⟩ hb hs
    have hbb := hb b ((h2 b).2 (.inl h4))
    refine ⟨b, off, S1, S2, cs, rfl, rfl, F.stab h1 (fun k hk => hb k ((h2 k).2 (.inr hk))) hs, h2, h3, h4, ⟨arr, T, hbb.trans h5, h5'⟩, fun k hk => Nat.lt_of_lt_of_le (h6 k hk) hs.size, fun A' w' S1' y' ds k1 k2 k3 k4 k5 k6 => ?_⟩
    obtain ⟨arr0, arr1, T0, j1, j2, j3, j4⟩ := k3
    exact h7 A' w' S1' y' ds k1 k2 ⟨arr0, arr1, T0, hbb.symm.trans j1, j2, j3, j4⟩ (fun k hk hne => (k4 k hk hne).trans (hb k ((h2 k).2 (.inl hk)))) (hs.trans k5) k6
/-- p holds of the value v, whatever the register says -/
def fixP (v : Value) (p : SP) : SP where
  P := fun A w S _ => p.P A w S v
  lt := fun h hk => p.lt h hk
  stab := fun h hb hs => p.stab h hb hs
section
variable {A A0 : Av} {w : World} {ini : List Ob}
theorem IniOK.refix (h : IniOK ini A w) (i : Nat) {u v : Value} {S K : Nat → Prop} {p : SP} (hi : ini[i]? = some ⟨u, S, .gen K (fixP v p)⟩) : IniOK (ini.set i ⟨v, S, .gen K p⟩) A w :=
  h.put i hi ⟨v, S, .gen K p⟩ trivial ⟨(h.own i _ hi).1, (h.own i _ hi).2⟩ fun _ h => h
end
section
variable {P : Program} {R : Reg} {w : World} {d : Option Nat} {t : TypeId} {p : String} {af : Array Edge} {g : Option (Nat × Bool)} {A A0 : Av} {α β : Type} {S S0 : Nat → Prop}
variable {E : Enc α} {F : OE α} {x ix : Operand} {T e : TypeId} {K : Nat → Prop} {u a v : Value}
/-- an append at a row at a place -/
theorem took_appendP {y : Operand} {ty : TypeId} {xs ys : List α} {Q : List α → Pw} {u0 : Value} {S' : Nat → Prop} {dd : Nat} (h : HoleA (oSl e (oRd E)) A w S a xs Q) (hp : PinOK w S' (a, [v])) (hx : evalR R x = v) (hav : ∀ k, S k → ∀ o, A k o) (hB : ∀ k, S k → K k) (hBw : ∀ k, w.heap.size ≤ k → K k) (hlt : ∀ k, S k → k < w.heap.size)
    (hy : Rep (eSl E) A w (evalR R y) ys) (ht : P.underlying T = some (.slice e)) (he : ElF P e E.size) (hl : lenOK (xs.length + ys.length) = true) (hT : e ≠ tByte := by decide) :
    OpR P ⟨some dd, .call ⟨.builtin .append, #[x, y], #[T, T]⟩, ty, p, af, g⟩ R w (TookS A true u0 S (.gen K (pdP (oSl e (oRd E)) a Q (xs ++ ys))) (fun _ => .any) w) := by
  obtain ⟨b, off, S1, cs, rfl, h⟩ := h
  obtain ⟨b', o', e0, _, hc⟩ := hp
  injection e0 with e0
  injection e0 with e0
  injection e0 with e1 e2
  subst e1 e2
  have hl1 : cs.length = 1 := (oSl e (oRd E)).len h.own
  obtain rfl : cs = [v] := by
    match cs, hl1 with
    | [c], _ =>
      have h1 := h.at' 0 c rfl
      have h2 := hc 0 v rfl
      rw [h1] at h2
      injection h2 with h2
      rw [h2]
  obtain ⟨hv, rfl⟩ := vec_of_own (B := 0) (v := v) h.own rfl (fun _ _ => Nat.zero_le _)
  have hS1 : ∀ k, ownsB v k → S k := h.sub
  have hbo : ¬ ownsB v b := h.out
  refine (took_append (P := P) (p := p) (af := af) (g := g) (ty := ty) (dd := dd) (B := 0) hx hv (fun k hk => hav k (hS1 k hk)) (Nat.zero_le _) hy ht he hl).mono ?_
  rintro v' w2 ⟨u2, rfl, hch, hsame, hst0, hok, _⟩
  have hch' : Ch S w w2 := ⟨hch.os, hch.tape, hch.output, hch.size, fun k hk hn => hch.block k hk fun hk' => hn (hS1 k hk'), hch.drawn⟩
  have hold : ∀ k, S k → ¬ ownsB v k → w2.heap[k]? = w.heap[k]? := fun k hk hn => hch.block k (hlt k hk) hn
  have hsub : ∀ k, k < w.heap.size → ((S k ∧ ¬ ownsB v k) ∨ ownsB u2 k) → S k := fun k hk hs => hs.elim (·.1) fun hs => hS1 k (hsame k hk hs)
  have hst := stp_swapS (A := A) hav hch' hsub
  refine ⟨u2, fun k => (S k ∧ ¬ ownsB v k) ∨ ownsB u2 k, rfl, hch', hsub, hst, trivial, ⟨fun k hk => ?_, ?_⟩, trivial⟩
  · rcases hk with hk | hk
    · exact hB k hk.1
    · rcases Nat.lt_or_ge k w.heap.size with hl2 | hg
      · exact hB k (hS1 k (hsame k hl2 hk))
      · exact hBw k hg
  · obtain ⟨cs2, he2, ho2⟩ := own_of_vec hok hT
    obtain ⟨arr, T0, hblk, hsz⟩ := h.blk
    have hdis : ∀ k, ownsB u2 k → ¬ (S k ∧ ¬ ownsB v k) := fun k hk hn => hn.2 (hsame k (hlt k hn.1) hk)
    have hb2 := hold b h.inb hbo
    refine ⟨b, off, ownsB u2, fun k => S k ∧ ¬ ownsB v k, cs2, rfl, he2, OE.stab _ ho2 (fun _ _ => rfl) (stp_down fun k o hk => ?_), fun k => Iff.rfl, hdis, ⟨h.inb, hbo⟩, ⟨arr, T0, hb2.trans hblk, hsz⟩, fun k hk => Nat.lt_of_lt_of_le (hlt k hk.1) hch.size, fun A' w' S1' y' ds k1 k2 k3 k4 k5 k6 => ?_⟩
    · rcases hk with ⟨h1, h2⟩ | ⟨h1, h2⟩ | h1
      · exact .inl ⟨h1, fun hk => h2 (hS1 k hk)⟩
      · exact .inl ⟨hav k h1 o, h2⟩
      · exact .inr h1
    · obtain ⟨arr0, arr1, T1, j1, j2, j3, j4⟩ := k3
      exact h.put A' w' S1' y' ds k1 k2 ⟨arr0, arr1, T1, hb2.symm.trans j1, j2, j3, j4⟩ (fun k a1 a2 a3 => (k4 k ⟨a1, a2⟩ a3).trans (hold k a1 a2)) (hst.trans k5) (fun k a1 a2 => Classical.byContradiction fun hn => k6 k a1 ⟨a2, hn⟩)
/-- the store that makes the tree whole -/
theorem took_putP {ad : Operand} {T' : TypeId} {y : α} {Q : α → Pw} {q : SP} (h : (pdP F a Q y).P A w S u) (hx : evalR R x = u) (had : evalR R ad = a) (hav : ∀ k, S k → ∀ o, A k o) (hB : ∀ k, S k → K k) (hsz : ∀ w, (sizeOf T').run P w = .ok F.E.size w) (hQ : ∀ A w S, Q y A w S → q.P A w S u) :
    OpR P ⟨none, .store T' ad x, t, p, af, g⟩ R w (TookS A false u S (.gen K q) (fun _ => .any) w) := by
  obtain ⟨b, off, S1, S2, cs, rfl, rfl, hv, hS, hd, hb2, ⟨arr, T0, hb, hle⟩, hl2, hput⟩ := h
  have hcs := F.len hv
  have hcl := F.cells hv
  have hvb : ¬ S1 b := fun h => hd b h hb2
  obtain ⟨w', h1, h2, h3⟩ := run_storeVar (P := P) (o := off) (v := evalR R x) hsz (by rw [hx, hcl]; exact F.oc hv) (by rw [hx, ← Array.length_toList, hcl]; exact hcs) hb hle
  rw [hx, hcl] at h3
  refine opr_skip (w' := w') ?_ ?_
  · simp only [execOp, Instr.storeAt, Instr.sureAddr, had]
    simp [h1]
  · have hch0 := h2.ch
    have hch : Ch S w w' := ⟨hch0.os, hch0.tape, hch0.output, hch0.size, fun k hk hn => hch0.block k hk fun e => hn ((hS k).2 (.inl (e ▸ hb2))), hch0.drawn⟩
    have hst := stp_swapS (S'' := S) hav hch fun _ _ h => h
    have hne : ∀ k, S1 k → k ≠ b := fun k hk e => hvb (e ▸ hk)
    have hv' : F.own (swapS A S S) w' S1 y cs := F.stab hv (fun k hk => h2.block k (hne k hk)) hst
    have hq := hput _ w' S1 y cs hv' (fun j u hj => ?_) ⟨arr, _, T0, hb, h3, lay_size _ _ _, fun j hj => ?_⟩ (fun k _ hk => h2.block k hk) hst hd
    · have e : (fun k => S2 k ∨ S1 k) = S := by funext k; rw [eq_iff_iff]; exact (hS k).symm
      rw [e] at hq
      exact ⟨_, S, rfl, hch, fun _ _ h => h, hst, trivial, ⟨hB, hQ _ _ _ hq⟩, trivial⟩
    · have hjl := (List.getElem?_eq_some_iff.1 hj).1
      rw [h3.cell, lay_at _ _ _ _ (by omega), if_pos (by omega), Nat.add_sub_cancel_left]
      exact hj
    · rw [lay_at _ _ _ _ (by omega), if_neg (by omega)]
/-- a tree's variable read for the last time: what it holds is a plain value from here on -/
theorem frz_loadT {y : α} {pins : List Pin} {T' : TypeId} {lk : Bool} (h : (trP (oPt T' F) y pins).P A w S u) (hx : evalR R x = u) (hav : ∀ k, S k → ∀ o, A k o) (hag : ∀ w, (isAgg T).run P w = .ok F.E.agg w) (hsz : ∀ w, (sizeOf T).run P w = .ok F.E.size w) :
    OpR P ⟨d, .load T x, t, p, af, g⟩ R w (TookS A lk u S .nul (fun A => .rep F.E A y) w) := by
  obtain ⟨⟨cs, e, b, ds, S1, rfl, h1, h2, h3, h4⟩, _⟩ := h
  have hu : u = .pointer (some ⟨b, 0, none⟩) := e
  have hst := stp_swapS (S'' := fun _ => False) hav (Ch.refl S w) fun _ _ h => h.elim
  refine opr_val (v := F.E.val ds) (w' := w) ?_ ⟨match lk with | true => _ | false => _, fun _ => False, by cases lk <;> rfl, Ch.refl _ _, fun _ _ h => h.elim, hst, trivial, rfl, ds, rfl, F.rep h2 (fun k o hk => hk.elim (·.1) False.elim) fun k o hk ha => ha.elim (fun ha => ha.2 ((h4 k).2 (.inr hk))) False.elim⟩
  have := run_loadVar (P := P) (w := w) (b := b) (o := 0) hag hsz (F.len h2) F.E.one (fun j v hj => by rw [h1.cell, Nat.zero_add]; simpa using hj)
  simp [execOp, Instr.loadAt, Instr.sureAddr, hx, hu, this, Enc.val]
/-- an operation that lays a tree out of what it takes, and changes nothing -/
theorem took_valT {o : Oper} {q : SP} {u0 : Value} (h : (execOp (evalR R) o).run P w = .ok (.value v) w) (hq : q.P A w S v) (hav : ∀ k, S k → ∀ o, A k o) (hB : ∀ k, S k → K k) : OpR P o R w (TookS A true u0 S (.gen K q) (fun _ => .any) w) := by
  have hst := stp_swapS (S'' := S) hav (Ch.refl S w) fun _ _ h => h
  refine opr_val h ⟨v, S, rfl, Ch.refl _ _, fun _ _ h => h, hst, trivial, ⟨hB, q.stab hq (fun _ _ => rfl) hst⟩, trivial⟩
end
end Go.Proofs.Ytmgiijdejigdhaa
