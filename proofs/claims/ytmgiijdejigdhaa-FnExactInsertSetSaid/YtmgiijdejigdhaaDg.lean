/- Operations under a guard whose outcome is known, one by one in the text's order. No statement of the seat is proved here. -/
import Derived.Test.YtmgiijdejigdhaaDq
namespace Go.Proofs.Ytmgiijdejigdhaa
open Go.RowKit
set_option linter.unusedVariables false

section
variable {P : Program} {n : Nat} {ops : List Oper} {k : Nat} {R : Reg} {w : World} {Q : Exit → Reg → World → Prop}
theorem yielded_at {j dj : Nat} {y : Oper} {a : Act} (hj : ops[j]? = some y) (hy : y.dst = some dj) : yielded ops.toArray a.tmps j = (match regs a dj with | .bool b => some b | _ => none) := by
  have hj' : ops.toArray[j]? = some y := by simpa using hj
  simp only [yielded, hj', regs]
  simp [hy]
  cases a.tmps[dj]? with
  | none => rfl
  | some v => cases v <;> rfl
theorem SG.skipV {o y : Oper} (d j dj : Nat) (want : Bool) (ho : ops[k]? = some o) (hg : o.guard = some (j, want)) (hj : ops[j]? = some y) (hy : y.dst = some dj) (hR : (match R dj with | .bool b => some b | _ => none) ≠ some want) (hd : o.dst = some d) (hn : Nat.blt d n = true)
    (hk : ∀ R', (∀ t, Nat.beq t d = false → R' t = R t) → R' d = undef → SG P n ops (k + 1) R' w Q) : SG P n ops k R w Q := fun a hpl hRa => by
  have hkl : k < ops.length := (List.getElem?_eq_some_iff.1 ho).1
  rw [show ops.length - k = (ops.length - (k + 1)) + 1 by omega, List.range'_succ, wpOps_cons]
  rw [← hRa] at hR
  have hw : ¬ Region.wanted o (yielded ops.toArray a.tmps) = true := by
    rw [show Region.wanted o (yielded ops.toArray a.tmps) = (yielded ops.toArray a.tmps j == some want) by simp [Region.wanted, hg], yielded_at hj hy]
    simpa using hR
  have ho' : ops.toArray[k]? = some o := by simpa using ho
  unfold wpOp
  rw [ho']
  dsimp only
  rw [if_neg hw]
  have hdn : d < n := by simpa using hn
  have hrp := regs_put a o.dst undef fun d' h' => by rw [hd] at h'; injection h' with h'; subst h'; exact Nat.lt_of_lt_of_le hdn hpl.2
  refine hk (regs (a.put o.dst undef)) (fun t ht => ?_) ?_ _ ⟨by rw [put_defers']; exact hpl.1, by rw [put_size]; exact hpl.2⟩ rfl
  · rw [hrp, hd, hRa]
    show (bif Nat.beq t d then undef else R t) = R t
    rw [ht]
    rfl
  · rw [hrp, hd]
    exact upd_same _ _ _
theorem SG.skip {o y : Oper} (d j dj : Nat) (want : Bool) (ho : ops[k]? = some o) (hg : o.guard = some (j, want)) (hj : ops[j]? = some y) (hy : y.dst = some dj) (hR : R dj = .bool !want) (hd : o.dst = some d) (hn : Nat.blt d n = true)
    (hk : ∀ R', (∀ t, Nat.beq t d = false → R' t = R t) → R' d = undef → SG P n ops (k + 1) R' w Q) : SG P n ops k R w Q :=
  SG.skipV d j dj want ho hg hj hy (by rw [hR]; cases want <;> simp) hd hn hk
end
/-- a variable's tree read between two operations: A0 knows nothing of its blocks -/
theorem of_loadA0 {P : Program} {R : Reg} {w : World} {d : Option Nat} {t : TypeId} {p : String} {af : Array Edge} {A A0 : Av} {α : Type} {S : Nat → Prop} {F : OE α} {x : Operand} {T T' : TypeId} {u : Value} {y : α} {pins : List Pin}
    (h : (trP (oPt T' F) y pins).P A w S u) (hx : evalR R x = u) (hAA : ∀ b o, A0 b o → A b o) (hn : ∀ k o, S k → ¬ A0 k o) (hag : ∀ w, (isAgg T).run P w = .ok F.E.agg w) (hsz : ∀ w, (sizeOf T).run P w = .ok F.E.size w) :
    OpR P ⟨d, .load T x, t, p, af, none⟩ R w fun v w' => w' = w ∧ Rep F.E A0 w v y := by
  obtain ⟨⟨cs, rfl, b, ds, S1, rfl, h1, h2, h3, h4⟩, _⟩ := h
  have hsub : ∀ k, S1 k → S k := fun k hk => (h4 k).2 (.inr hk)
  refine opr_val (v := F.E.val ds) (w' := w) ?_ ⟨rfl, ds, rfl, F.rep h2 hAA fun k o hk => hn k o (hsub k hk)⟩
  have := run_loadVar (P := P) (w := w) (b := b) (o := 0) hag hsz (F.len h2) F.E.one (fun j v hj => by rw [h1.cell, Nat.zero_add]; simpa using hj)
  have hx' : evalR R x = .pointer (some ⟨b, 0, none⟩) := hx
  simp [execOp, Instr.loadAt, Instr.sureAddr, hx', this, Enc.val]
end Go.Proofs.Ytmgiijdejigdhaa
