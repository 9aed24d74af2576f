/- A tree set between, or taken out of, a row of trees at a place of a variable: calls of slices.Insert and slices.Delete. No statement of the seat is proved here. -/
import Derived.Test.YtmgiijdejigdhaaDpt
import Derived.Test.YtmgiijdejigdhaaIt
namespace Go.Proofs.Ytmgiijdejigdhaa
open Go.RowKit
set_option linter.unusedVariables false

section
variable {R : Reg} {w : World} {p : String} {af : Array Edge} {g : Option (Nat × Bool)} {A : Av} {α : Type} {F : OE α} {x x' xi xj : Operand} {K : Nat → Prop} {a v : Value}
/-- what is left of a row of trees at a place goes back there -/
theorem place_put {e : TypeId} {xs ys : List α} {Q : List α → Pw} {S S1 S2 U : Nat → Prop} {b off : Nat} {u v' : Value} {w' : World} (h : Hole (oSl e F) A w S b off xs S1 [u] Q) (hch : Ch S1 w w') (hSU : ∀ k, S k → U k) (hlt : ∀ k, S k → k < w.heap.size) (hdis2 : ∀ k, k < w.heap.size → S2 k → S1 k ∨ (U k ∧ ¬ S k))
    (hst : Stp A (swapS A U fun k => (S k ∧ ¬ S1 k) ∨ S2 k) w w') (hown : (oSl e F).own (swapS A U fun k => (S k ∧ ¬ S1 k) ∨ S2 k) w' S2 ys [v']) :
    (pdP (oSl e F) (.pointer (some ⟨b, off, none⟩)) Q ys).P (swapS A U fun k => (S k ∧ ¬ S1 k) ∨ S2 k) w' (fun k => (S k ∧ ¬ S1 k) ∨ S2 k) v' := by
  have hold : ∀ k, S k → ¬ S1 k → w'.heap[k]? = w.heap[k]? := fun k hk hn => hch.block k (hlt k hk) hn
  obtain ⟨arr, T0, hblk, hsz⟩ := h.blk
  have hb2 := hold b h.inb h.out
  refine ⟨b, off, S2, fun k => S k ∧ ¬ S1 k, [v'], rfl, rfl, hown, fun k => Iff.rfl, fun k hk hn => (hdis2 k (hlt k hn.1) hk).elim hn.2 fun h => h.2 hn.1, ⟨h.inb, h.out⟩, ⟨arr, T0, hb2.trans hblk, hsz⟩, fun k hk => Nat.lt_of_lt_of_le (hlt k hk.1) hch.size, fun A' w'' S1' y' ds k1 k2 k3 k4 k5 k6 => ?_⟩
  obtain ⟨arr0, arr1, T1, j1, j2, j3, j4⟩ := k3
  exact h.put A' w'' S1' y' ds k1 k2 ⟨arr0, arr1, T1, hb2.symm.trans j1, j2, j3, j4⟩ (fun k a1 a2 a3 => (k4 k ⟨a1, a2⟩ a3).trans (hold k a1 a2)) (hst.trans k5) (fun k a1 a2 => Classical.byContradiction fun hn => k6 k a1 ⟨a2, hn⟩)
theorem hole_one {e : TypeId} {xs : List α} {Q : List α → Pw} {S S1 S' : Nat → Prop} {b off : Nat} {cs : List Value} (h : Hole (oSl e F) A w S b off xs S1 cs Q) (hp : PinOK w S' (.pointer (some ⟨b, off, none⟩), [v])) : cs = [v] := by
  obtain ⟨b', o', e0, _, hc⟩ := hp
  injection e0 with e0
  injection e0 with e0
  injection e0 with e1 e2
  subst e1 e2
  have hl1 : cs.length = 1 := (oSl e F).len h.own
  match cs, hl1 with
  | [c], _ =>
    have h1 := h.at' 0 c rfl
    have h2 := hc 0 v rfl
    rw [h1] at h2
    injection h2 with h2
    rw [h2]
theorem took_insPT {ty t0 t1 t2 : TypeId} {xs : List α} {y : α} {Q : List α → Pw} {u0 : Value} {S' : Nat → Prop} {dd : Nat} {ρ : Nat → Value} {σ : Nat → Nat → Prop} {c1 c2 : Nat} {i : Int} (hne : Nat.beq c1 c2 = false) (h : HoleA (oSl 55 F) A w (σ c1) a xs Q) (hp : PinOK w S' (a, [v])) (hx : evalR R x = v)
    (h2 : (trP (oSl 55 F) [y] []).P A w (σ c2) (ρ c2)) (hxi : evalR R xi = .int .i64 i) (hx' : evalR R x' = ρ c2) (hav : ∀ d, d ∈ [c1, c2] → ∀ k, σ d k → ∀ o, A k o) (hdd : ∀ d d', d ∈ [c1, c2] → d' ∈ [c1, c2] → d ≠ d' → ∀ k, σ d k → ¬ σ d' k)
    (hB1 : ∀ k, σ c1 k → K k) (hB2 : ∀ k, σ c2 k → K k) (hB : ∀ k, w.heap.size ≤ k → K k) (hlt : ∀ k, σ c1 k → k < w.heap.size) (hF : F.E.size = 2) (hi : subR i (xs.length : Int) xs.length = true) (hl : lenOK (xs.length + 1) = true) :
    OpR Try.prog ⟨some dd, .call ⟨.value (.func 39), #[x, xi, x'], #[t0, t1, t2]⟩, ty, p, af, g⟩ R w (TookS A true u0 (fun k => ∃ d, d ∈ [c1, c2] ∧ σ d k) (.gen K (pdP (oSl 55 F) a Q (xs.take i.toNat ++ y :: xs.drop i.toNat))) (fun _ => .any) w) := by
  obtain ⟨b, off, S1, cs, rfl, h⟩ := h
  obtain rfl := hole_one h hp
  obtain ⟨⟨cs2, e2, h2⟩, _⟩ := h2
  have hs2 : ∃ u, cs2 = [u] := by
    rcases h2 with ⟨h, _⟩ | ⟨_, _, _, _, h, _⟩ <;> exact ⟨_, h⟩
  obtain ⟨u2, rfl⟩ := hs2
  have e2 : ρ c2 = u2 := e2
  have hm1 : c1 ∈ [c1, c2] := .head _
  have hm2 : c2 ∈ [c1, c2] := .tail _ (.head _)
  have hne' : c1 ≠ c2 := fun h => by subst h; simp at hne
  have hS1 : ∀ k, S1 k → σ c1 k := h.sub
  have hi3 := subR_iff.1 hi
  obtain ⟨n, rfl⟩ := Int.eq_ofNat_of_zero_le (show 0 ≤ i by omega)
  refine call_run (al := [x, xi, x']) Try.call39 ?_
  show Calls Try.prog 39 #[evalR R x, evalR R xi, evalR R x'] w _
  rw [hx, hxi, hx', e2]
  refine (ins_tree h.own h2 (fun k hk => hdd c1 c2 hm1 hm2 hne' k (hS1 k hk)) hF (i := n) (by omega) hl).mono ?_
  rintro ed w' ⟨v', S2', rfl, hch, hsub, hown⟩
  have hch' : Ch (fun k => ∃ d, d ∈ [c1, c2] ∧ σ d k) w w' := ⟨hch.os, hch.tape, hch.output, hch.size, fun k hk hn => hch.block k hk fun h => hn ⟨c1, hm1, hS1 k h⟩, hch.drawn⟩
  have hsub' : ∀ k, k < w.heap.size → ((σ c1 k ∧ ¬ S1 k) ∨ S2' k) → ∃ d, d ∈ [c1, c2] ∧ σ d k := fun k hk h => h.elim (fun h => ⟨c1, hm1, h.1⟩) fun h => (hsub k hk h).elim (fun h => ⟨c1, hm1, hS1 k h⟩) fun h => ⟨c2, hm2, h⟩
  have hst := stp_swapS (S'' := fun k => (σ c1 k ∧ ¬ S1 k) ∨ S2' k) (fun k ⟨d, hd, h⟩ => hav d hd k h) hch' hsub'
  refine ⟨v', rfl, v', fun k => (σ c1 k ∧ ¬ S1 k) ∨ S2' k, rfl, hch', hsub', hst, trivial, ⟨fun k hk => ?_, ?_⟩, trivial⟩
  · rcases hk with hk | hk
    · exact hB1 k hk.1
    · rcases Nat.lt_or_ge k w.heap.size with h3 | h3
      · exact (hsub k h3 hk).elim (fun h => hB1 k (hS1 k h)) (hB2 k)
      · exact hB k h3
  · exact place_put h hch (fun k hk => ⟨c1, hm1, hk⟩) hlt (fun k hk h => (hsub k hk h).imp id fun h => ⟨⟨c2, hm2, h⟩, fun h' => hdd c1 c2 hm1 hm2 hne' k h' h⟩) hst (hown _ hst)
end
end Go.Proofs.Ytmgiijdejigdhaa
