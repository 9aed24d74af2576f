/- From the relations of a law's arguments (Rep) to the readings of printed proofs (Enc), with what the relation says of the numbers. No statement of the seat is proved here. -/
import Derived.Test.YtmgiijdejigdhaaRep
import Derived.Test.YtmgiijdejigdhaaDx
namespace Go.Proofs.Ytmgiijdejigdhaa
open Go.RowKit
set_option linter.unusedVariables false

/-- cells that R reads as x, E reads as f x, and Q holds of f x -/
structure Br {α β : Type} (R : Rel α) (E : Enc β) (f : α → β) (Q : β → Prop) : Prop where
  get : ∀ {w : World} {x : α} {cs : List Value}, R w w.heap.size x cs → E.rep av0 w (f x) cs ∧ Q (f x)
def qI (n : Int) : Prop := -9223372036854775808 ≤ n ∧ n ≤ 9223372036854775807
def qS {α : Type} (Q : α → Prop) (l : List α) : Prop := l.length ≤ maxLen ∧ ∀ x ∈ l, Q x
def qP {α β : Type} (Q : α → Prop) (S : β → Prop) (x : α × β) : Prop := Q x.1 ∧ S x.2
def qB (s : List UInt8) : Prop := s.length ≤ maxLen
def f2 {α β γ δ : Type} (f : α → γ) (g : β → δ) (x : α × β) : γ × δ := (f x.1, g x.2)
theorem br_int : Br intR (eInt .i64) id qI := Br.mk fun {w x cs} h => ⟨h.1, by
  have := h.2
  unfold I64 at this
  have a : IntKind.i64.min = -9223372036854775808 := by decide
  have b : IntKind.i64.max = 9223372036854775807 := by decide
  simp [Lit.wf] at this
  unfold qI id
  omega⟩
theorem br_str : Br strR eStr (fun s => s.data.toList) qB := Br.mk fun {w x cs} h => ⟨⟨x, h.1, rfl, h.2⟩, by
  unfold qB
  rw [Array.length_toList]
  exact h.2⟩
theorem flatten_get {α : Type} {k : Nat} : ∀ {es : List (List α)}, (∀ e ∈ es, e.length = k) → ∀ (i j : Nat) e u, es[i]? = some e → e[j]? = some u → es.flatten[i * k + j]? = some u
  | [], _, i, j, e, u, h, _ => by simp at h
  | e0 :: es, hk, 0, j, e, u, h, hu => by
    obtain rfl : e0 = e := by simpa using h
    rw [List.flatten_cons, Nat.zero_mul, Nat.zero_add, List.getElem?_append_left (List.getElem?_eq_some_iff.1 hu).1]
    exact hu
  | e0 :: es, hk, i + 1, j, e, u, h, hu => by
    have h0 : e0.length = k := hk e0 (List.mem_cons_self ..)
    have h' : es[i]? = some e := by simpa using h
    have := flatten_get (fun e he => hk e (List.mem_cons_of_mem _ he)) i j e u h' hu
    have hs : (i + 1) * k + j = k + (i * k + j) := by rw [Nat.add_mul, Nat.one_mul]; omega
    rw [List.flatten_cons, List.getElem?_append_right (by omega), hs, h0, Nat.add_sub_cancel_left]
    exact this
theorem br_sl {α β : Type} {k : Nat} {R : Rel α} {E : Enc β} {f : α → β} {Q : β → Prop} (h : Br R E f Q) (hk : E.size = k) : Br (slR k R) (eSl E) (fun l => l.map f) (qS Q) := by
  refine ⟨?_⟩
  rintro w x cs ⟨A, n, c, es, rfl, h1, h2, h3, h4, h5, h6⟩
  have hes : ∀ e ∈ es, e.length = k := fun e he => by
    obtain ⟨i, hi, rfl⟩ := List.getElem_of_mem he
    exact (h6 i _ _ (List.getElem?_eq_getElem (h4 ▸ hi)) (List.getElem?_eq_getElem hi)).1
  refine ⟨⟨A, n, c, rfl, by rw [List.length_map, h1], h2, h3, fun hn => ?_⟩, ?_, ?_⟩
  · obtain ⟨b, off, e, hb, hc⟩ := h5.2 hn
    refine ⟨b, off, e, hb, fun i y hy => ?_⟩
    rw [List.getElem?_map] at hy
    obtain ⟨x', hx', rfl⟩ := Option.map_eq_some_iff.1 hy
    have hi : i < es.length := by rw [h4]; exact (List.getElem?_eq_some_iff.1 hx').1
    obtain ⟨hl, hr⟩ := h6 i _ _ hx' (List.getElem?_eq_getElem hi)
    refine ⟨⟨es[i], (h.get hr).1, fun j u hu => ?_⟩, fun j _ => id⟩
    have := hc _ u (flatten_get hes i j _ u (List.getElem?_eq_getElem hi) hu)
    rw [hk]
    rwa [Nat.add_assoc]
  · show (x.map f).length ≤ maxLen
    rw [List.length_map]
    omega
  · intro y hy
    obtain ⟨x', hx', rfl⟩ := List.mem_map.1 hy
    obtain ⟨i, hi, rfl⟩ := List.getElem_of_mem hx'
    have hi' : i < es.length := by omega
    exact (h.get (h6 i _ _ (List.getElem?_eq_getElem hi) (List.getElem?_eq_getElem hi')).2).2
theorem br_st2 {α β α' β' : Type} {R : Rel α} {S : Rel β} {E : Enc α'} {F : Enc β'} {f : α → α'} {g : β → β'} {Q : α' → Prop} {T : β' → Prop} (h : Br R E f Q) (k : Br S F g T) : Br (st2R R S) (ePr E F) (f2 f g) (qP Q T) := by
  refine ⟨?_⟩
  rintro w x cs ⟨v, u, rfl, h1, h2⟩
  exact ⟨⟨[v], [u], rfl, (h.get h1).1, (k.get h2).1⟩, (h.get h1).2, (k.get h2).2⟩
theorem br_st3 {α β γ α' β' γ' : Type} {R : Rel α} {S : Rel β} {U : Rel γ} {E : Enc α'} {F : Enc β'} {G : Enc γ'} {f : α → α'} {g : β → β'} {e : γ → γ'} {Q : α' → Prop} {T : β' → Prop} {V : γ' → Prop} (h : Br R E f Q) (k : Br S F g T) (l : Br U G e V) :
    Br (st3R R S U) (ePr E (ePr F G)) (f2 f (f2 g e)) (qP Q (qP T V)) := by
  refine ⟨?_⟩
  rintro w x cs ⟨v, u, y, rfl, h1, h2, h3⟩
  exact ⟨⟨[v], [u, y], rfl, (h.get h1).1, ⟨[u], [y], rfl, (k.get h2).1, (l.get h3).1⟩⟩, (h.get h1).2, (k.get h2).2, (l.get h3).2⟩
/-- a law's argument: a struct -/
theorem Br.st {α β : Type} {R : Rel α} {E : Enc β} {f : α → β} {Q : β → Prop} (h : Br R E f Q) (ha : E.agg = true) {w : World} {x : α} {cs : List Value} (hr : R w w.heap.size x cs) : Rep E av0 w (.agg cs.toArray) (f x) :=
  ⟨cs, by unfold Enc.val; rw [if_pos ha], (h.get hr).1⟩
/-- a law's argument: one cell -/
theorem Br.cell {α β : Type} {R : Rel α} {E : Enc β} {f : α → β} {Q : β → Prop} (h : Br R E f Q) (ha : E.agg = false) {w : World} {x : α} {v : Value} (hr : R w w.heap.size x [v]) : Rep E av0 w v (f x) :=
  ⟨[v], by unfold Enc.val; rw [ha]; rfl, (h.get hr).1⟩
theorem av0_ok (w : World) : AvOK av0 w := fun _ _ h => h.elim
theorem law_of {P : Program} {fn : FuncId} {args : Array Value} {w : World} (h : Calls P fn args w fun e w' => ∃ v, e = .returned v ∧ (v = .bool true ∧ Fr w w')) : Calls P fn args w fun e w' => e = .returned (.bool true) ∧ Below w.heap.size w w' :=
  h.mono fun e w' ⟨v, he, hv, hf⟩ => ⟨by rw [he, hv], hf.toBelow⟩
end Go.Proofs.Ytmgiijdejigdhaa
