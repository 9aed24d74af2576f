/- Short forms for the printed texts. No statement of the seat is proved here. -/
import Derived.Test.YtfcocbokgfmjfaaTy
namespace Go.Proofs.Ytfcocbokgfmjfaa
open Go.RowKit
set_option linter.unusedVariables false

theorem Obls.p {P : Program} {l : List Ent} {R : Reg} {w : World} {i : Nat} {x : Ent} {r : List Ent}
    (h : ∀ R' w', Fr w w' → (∀ t, okRead l i t = true → R' t = R t) → Deps l R' w' x.o.after.toList → OpR P x.o R' w' fun v w'' => x.f.ok v w'' ∧ Fr w' w'')
    (t : Obls P l R w (i + 1) r) (hg : x.o.guard = none := by exact rfl) (hx : x.g = true := by exact rfl) : Obls P l R w i (x :: r) := ⟨Obl.plain hg hx h, t⟩
theorem OblsR.p {P : Program} {ini : List Ob} {l : List EntR} {A : Av} {R : Reg} {w : World} {i : Nat} {x : EntR} {r : List EntR}
    (h : ∀ A' R' w', Onto ini l A R w i A' R' w' → DepsR l A' R' w' x.o.after.toList → OpR P x.o R' w' fun v w'' => (x.f A').ok v w'' ∧ Fr w' w'')
    (t : OblsR P ini l A R w (i + 1) r) (hg : x.o.guard = none := by exact rfl) (hx : x.g = true := by exact rfl) (hc : x.con = [] := by exact rfl) (hr : x.res = none := by exact rfl) : OblsR P ini l A R w i (x :: r) :=
  ⟨OblR.plain hg hx hc hr h, t⟩
def depF (l : List Ent) (es : List Edge) (j : Nat) : Option (Nat × Fact) :=
  match es[j]? with
  | none => none
  | some e => bif bnd e then (match l[e.on]? with
    | none => none
    | some x => match x.o.dst with
      | none => none
      | some d => bif x.g then some (d, x.f) else none) else none
theorem Deps.g {l : List Ent} {R : Reg} {w : World} {es : List Edge} (h : Deps l R w es) (j : Nat) {d : Nat} {f : Fact} (e : depF l es j = some (d, f)) : f.ok (R d) w := by
  unfold depF at e
  cases h1 : es[j]? with
  | none => rw [h1] at e; cases e
  | some a =>
    rw [h1] at e
    dsimp only at e
    cases h2 : bnd a
    · rw [h2] at e; cases e
    rw [h2, cond_true] at e
    cases h3 : l[a.on]? with
    | none => rw [h3] at e; cases e
    | some x =>
      rw [h3] at e
      dsimp only at e
      cases h4 : x.o.dst with
      | none => rw [h4] at e; cases e
      | some d' =>
        rw [h4] at e
        dsimp only at e
        cases h5 : x.g
        · rw [h5] at e; cases e
        rw [h5, cond_true] at e
        obtain ⟨rfl, rfl⟩ := Prod.mk.inj (Option.some.inj e)
        exact h j a x _ h1 h2 h3 h4 h5
def depFR (l : List EntR) (es : List Edge) (j : Nat) : Option (Nat × (Av → Fact)) :=
  match es[j]? with
  | none => none
  | some e => bif bnd e then (match l[e.on]? with
    | none => none
    | some x => match x.o.dst with
      | none => none
      | some d => bif x.g then some (d, x.f) else none) else none
theorem DepsR.g {l : List EntR} {A : Av} {R : Reg} {w : World} {es : List Edge} (h : DepsR l A R w es) (j : Nat) {d : Nat} {f : Av → Fact} (e : depFR l es j = some (d, f)) : (f A).ok (R d) w := by
  unfold depFR at e
  cases h1 : es[j]? with
  | none => rw [h1] at e; cases e
  | some a =>
    rw [h1] at e
    dsimp only at e
    cases h2 : bnd a
    · rw [h2] at e; cases e
    rw [h2, cond_true] at e
    cases h3 : l[a.on]? with
    | none => rw [h3] at e; cases e
    | some x =>
      rw [h3] at e
      dsimp only at e
      cases h4 : x.o.dst with
      | none => rw [h4] at e; cases e
      | some d' =>
        rw [h4] at e
        dsimp only at e
        cases h5 : x.g
        · rw [h5] at e; cases e
        rw [h5, cond_true] at e
        obtain ⟨rfl, rfl⟩ := Prod.mk.inj (Option.some.inj e)
        exact h j a x _ h1 h2 h3 h4 h5
end Go.Proofs.Ytfcocbokgfmjfaa
