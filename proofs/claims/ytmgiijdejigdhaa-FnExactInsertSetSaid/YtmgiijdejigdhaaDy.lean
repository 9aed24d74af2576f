/- Function values for printed proofs: what a function value computes, calls through it, captured variables. No statement of the seat is proved here. -/
import Derived.Test.YtmgiijdejigdhaaDx
namespace Go.Proofs.Ytmgiijdejigdhaa
open Go.RowKit
set_option linter.unusedVariables false

/-- the function value v, called with args -/
def CallsV (P : Program) (v : Value) (args : List Value) (w : World) (φ : Value → World → Prop) : Prop :=
  ∃ (f : FuncId) (cap : List Value), v = .func (.func f) #[] cap.toArray ∧ (∀ args w, (callFunc f args).run P w = .ok (.enter f args) w) ∧ Calls P f (args ++ cap).toArray w fun e w' => ∃ u, e = .returned u ∧ φ u w'
theorem CallsV.mono {P : Program} {v : Value} {args : List Value} {w : World} {φ ψ : Value → World → Prop} (h : CallsV P v args w φ) (k : ∀ u w', φ u w' → ψ u w') : CallsV P v args w ψ := by
  obtain ⟨f, cap, h1, h2, h3⟩ := h
  exact ⟨f, cap, h1, h2, h3.mono fun e w' ⟨u, he, hu⟩ => ⟨u, he, k u w' hu⟩⟩
section
variable {P : Program} {R : Reg} {A A0 : Av} {w w0 : World} {d : Option Nat} {t : TypeId} {p : String} {af : Array Edge} {g : Option (Nat × Bool)}
theorem of_callv {x : Operand} {v : Value} {al : List Operand} {aT : Array TypeId} {f : Fact} (hv : evalR R x = v) (h : CallsV P v (al.map (evalR R)) w fun u w' => f.ok u w' ∧ Fr w w') :
    OpF P ⟨d, .call ⟨.value x, al.toArray, aT⟩, t, p, af, g⟩ R w f := by
  obtain ⟨fn, cap, e, hc, h⟩ := h
  unfold OpF OpR
  have : (execOp (evalR R) ⟨d, .call ⟨.value x, al.toArray, aT⟩, t, p, af, g⟩).run P w = .ok (.enter fn (al.map (evalR R) ++ cap).toArray) w := by
    simp [execOp, resolve, hv, e, Deferred.ofValue, invoke, hc]
  rw [this]
  exact h
variable {α β ρ : Type} {E : Enc α} {G : Enc β} {φ : ρ → Fact} {v : Value}
abbrev noB : Nat → Prop := fun _ => False
theorem Ch.fr0 {a b : World} (h : Ch noB a b) : Fr a b := ⟨⟨h.os, h.tape, h.output, h.size, fun k hk => h.block k hk fun h => h⟩, h.drawn⟩
/-- from world w0 on, blocks of K aside, v computes F -/
def FnK1 (P : Program) (E : Enc α) (φ : ρ → Fact) (A : Av) (K : Nat → Prop) (w0 : World) (v : Value) (F : α → Option ρ) : Prop :=
  ∀ (x : α) (r : ρ), F x = some r → ∀ (w : World) (a : Value), Ch K w0 w → AvOK A w → Rep E A w a x → CallsV P v [a] w fun u w' => (φ r).ok u w' ∧ Fr w w'
def FnK2 (P : Program) (E : Enc α) (G : Enc β) (φ : ρ → Fact) (A : Av) (K : Nat → Prop) (w0 : World) (v : Value) (F : α → β → Option ρ) : Prop :=
  ∀ (x : α) (y : β) (r : ρ), F x y = some r → ∀ (w : World) (a b : Value), Ch K w0 w → AvOK A w → Rep E A w a x → Rep G A w b y → CallsV P v [a, b] w fun u w' => (φ r).ok u w' ∧ Fr w w'
abbrev FnB1 (P : Program) (E : Enc α) (φ : ρ → Fact) (A : Av) (w0 : World) (v : Value) (F : α → Option ρ) : Prop := FnK1 P E φ A noB w0 v F
abbrev FnB2 (P : Program) (E : Enc α) (G : Enc β) (φ : ρ → Fact) (A : Av) (w0 : World) (v : Value) (F : α → β → Option ρ) : Prop := FnK2 P E G φ A noB w0 v F
theorem Rep.less {v : Value} {x : α} (h : Rep E A w v x) (hAA : ∀ b o, A0 b o → A b o) : Rep E A0 w v x := h.stp ⟨Nat.le_refl _, fun _ _ _ h _ => h, fun b o _ h => hAA b o h⟩
theorem FnK1.on {K K' : Nat → Prop} {F : α → Option ρ} (h : FnK1 P E φ A0 K w0 v F) (hF : Ch K w0 w) (hK : ∀ k, k < w0.heap.size → K' k → K k) (hAA : ∀ b o, A0 b o → A b o) : FnK1 P E φ A K' w v F :=
  fun _ _ hr _ _ hf hA ha => h _ _ hr _ _ (hF.trans hf hK) (fun b o hb => hA b o (hAA b o hb)) (ha.less hAA)
theorem FnK2.on {K K' : Nat → Prop} {F : α → β → Option ρ} (h : FnK2 P E G φ A0 K w0 v F) (hF : Ch K w0 w) (hK : ∀ k, k < w0.heap.size → K' k → K k) (hAA : ∀ b o, A0 b o → A b o) : FnK2 P E G φ A K' w v F :=
  fun _ _ _ hr _ _ _ hf hA ha hb => h _ _ _ hr _ _ _ (hF.trans hf hK) (fun b o hb => hA b o (hAA b o hb)) (ha.less hAA) (hb.less hAA)
theorem FnB1.on {F : α → Option ρ} (h : FnB1 P E φ A0 w0 v F) (hF : Fr w0 w) (hAA : ∀ b o, A0 b o → A b o) : FnB1 P E φ A w v F := FnK1.on h (hF.ch _) (fun _ _ h => h) hAA
theorem FnB2.on {F : α → β → Option ρ} (h : FnB2 P E G φ A0 w0 v F) (hF : Fr w0 w) (hAA : ∀ b o, A0 b o → A b o) : FnB2 P E G φ A w v F := FnK2.on h (hF.ch _) (fun _ _ h => h) hAA
theorem FnK1.eq {K : Nat → Prop} {F : α → Option ρ} {v' : Value} (h : FnK1 P E φ A K w v F) (e : v' = v) : FnK1 P E φ A K w v' F := e ▸ h
theorem FnK2.eq {K : Nat → Prop} {F : α → β → Option ρ} {v' : Value} (h : FnK2 P E G φ A K w v F) (e : v' = v) : FnK2 P E G φ A K w v' F := e ▸ h
theorem FnB1.eq {F : α → Option ρ} {v' : Value} (h : FnB1 P E φ A w v F) (e : v' = v) : FnB1 P E φ A w v' F := e ▸ h
theorem FnB2.eq {F : α → β → Option ρ} {v' : Value} (h : FnB2 P E G φ A w v F) (e : v' = v) : FnB2 P E G φ A w v' F := e ▸ h
theorem fnb2_of {f : FuncId} {F : α → β → Option ρ} (cap : List Value) (hv : v = .func (.func f) #[] cap.toArray) (hc : ∀ args w, (callFunc f args).run P w = .ok (.enter f args) w)
    (h : ∀ x y r, F x y = some r → ∀ w a b, Fr w0 w → AvOK A w → Rep E A w a x → Rep G A w b y → Calls P f (a :: b :: cap).toArray w fun e w' => ∃ u, e = .returned u ∧ ((φ r).ok u w' ∧ Fr w w')) : FnB2 P E G φ A w0 v F :=
  fun x y r hr w a b hF hA ha hb => ⟨f, cap, hv, hc, h x y r hr w a b hF.fr0 hA ha hb⟩
theorem rep_int_eq {k : IntKind} {n : Int} (h : Rep (eInt k) A w v n) : v = .int k n := by
  obtain ⟨cs, h1, h2⟩ := h
  rw [h1, h2]
  rfl
/-- a captured variable of an outer call: v is its address, it reads x -/
def CRep (E : Enc α) (A : Av) (w : World) (B : Nat) (v : Value) (x : α) : Prop := ∃ b o, v = .pointer (some ⟨b, o, none⟩) ∧ b < B ∧ b < w.heap.size ∧ PAt E A w b o x
theorem CRep.mk' {x : α} (h : PRep E A w v x) : CRep E A w w.heap.size v x := let ⟨b, o, h1, h2, h3⟩ := h; ⟨b, o, h1, h2, h2, h3⟩
theorem CRep.ptr {B : Nat} {x : α} {v' : Value} (h : CRep E A w B v x) (e : v' = v) : PRep E A w v' x := let ⟨b, o, h1, _, h2, h3⟩ := h; ⟨b, o, e.trans h1, h2, h3⟩
theorem CRep.fr {B : Nat} {x : α} {w' : World} (h : CRep E A w B v x) (hs : Fr w w') : CRep E A w' B v x := let ⟨b, o, h1, h0, h2, h3⟩ := h; ⟨b, o, h1, h0, Nat.lt_of_lt_of_le h2 hs.size, h3.fr h2 hs⟩
theorem CRep.stp {B : Nat} {x : α} {w' : World} {A' : Av} (h : CRep E A w B v x) (hs : Stp A A' w w') (hb : Below B w w') : CRep E A' w' B v x := by
  obtain ⟨b, o, h1, h0, h2, cs, h3, h4⟩ := h
  exact ⟨b, o, h1, h0, Nat.lt_of_lt_of_le h2 hs.size, cs, E.stp hs h3, fun j u hu => (hb.cell (p := ⟨b, o + j, none⟩) h0).trans (h4 j u hu)⟩
end
end Go.Proofs.Ytmgiijdejigdhaa
