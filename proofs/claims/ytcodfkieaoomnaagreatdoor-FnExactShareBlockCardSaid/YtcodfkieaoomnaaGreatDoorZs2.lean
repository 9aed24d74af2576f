/- Own texts laid together. No statement of the seat is proved here. -/
import Derived.Test.YtcodfkieaoomnaaGreatDoorZs1
import Derived.Test.YtcodfkieaoomnaaGreatDoorProg
import Derived.Shelf.Strconv.Itoa3
import Derived.Shelf.Strings.OnBuilder
import Derived.Shelf.LaysC
import Derived.Ground.NamesProg
import Derived.Ground.SlsfProg
import Derived.Shelf.Slices.In.SortNone
import Derived.Shelf.SlSortCmp.NoneTotal
import Derived.Shelf.Small.Strs
import Derived.Shelf.Sort.Plain
import Derived.Lib.LaidTab
import Derived.ProofKit
import Derived.OpenShut
import Derived.Deep.Slices
import Derived.Deep.Fields
import Derived.ChangeSame
import Derived.Stop.LaidErr
import Derived.Shelf.LaysM
import Derived.ChangeArms
import Derived.MakeChecks
import Derived.Test.YtcodfkieaoomnaaGreatDoorCards
import Derived.Test.YtcodfkieaoomnaaGreatDoorTie
import Derived.ChangeOld
import Derived.Carry
import Derived.OpenVars
import Derived.Deep.DeepHandedRow
import Derived.Shelf.Strings.Split
import Derived.Shelf.Strings.Cut
import Derived.Shelf.Strconv.ErrVarAll
import Derived.WideLaws
import Derived.Shelf.Strings.FieldsFuncGrows
import Derived.Shelf.Strings.Replace
import Derived.Shelf.Strings.IndexAnyAll
import Derived.Lib.ConvBytes
/- Trees: values with memory of their own, each block once (OE), and places in them (holes). No statement of the seat is proved here. -/
namespace Go.Proofs.YtcodfkieaoomnaaGreatDoor
open Go.RowKit
set_option linter.unusedVariables false

/-- the cells read x; the blocks of S, and no others, are the value's own -/
structure OE (α : Type) where
  E : Enc α
  own : Av → World → (Nat → Prop) → α → List Value → Prop
  lt : ∀ {A w S x cs k}, own A w S x cs → S k → k < w.heap.size
  stab : ∀ {A A' w w' S x cs}, own A w S x cs → (∀ k, S k → w'.heap[k]? = w.heap[k]?) → Stp A A' w w' → own A' w' S x cs
  rep : ∀ {A A0 w S x cs}, own A w S x cs → (∀ b o, A0 b o → A b o) → (∀ k o, S k → ¬ A0 k o) → E.rep A0 w x cs
section
variable {α β γ : Type}
theorem OE.len (F : OE α) {A : Av} {w : World} {S : Nat → Prop} {x : α} {cs : List Value} (h : F.own A w S x cs) : cs.length = F.E.size :=
  F.E.len (F.rep (A0 := av0) h (fun _ _ h => h.elim) fun _ _ _ h => h)
theorem OE.oc (F : OE α) {A : Av} {w : World} {S : Nat → Prop} {x : α} {cs : List Value} (h : F.own A w S x cs) : ∀ c ∈ cs, c.oneCell' = true :=
  F.E.oc (F.rep (A0 := av0) h (fun _ _ h => h.elim) fun _ _ _ h => h)
/-- nothing of its own: it reads memory that stays -/
def oRd (E : Enc α) : OE α where
  E := E
  own := fun A w S x cs => (∀ k, ¬ S k) ∧ E.rep A w x cs
  lt := fun h hk => (h.1 _ hk).elim
  stab := fun h _ hs => ⟨h.1, E.stp hs h.2⟩
  rep := fun h hA _ => E.stp (stp_down hA) h.2
def oPr (F : OE α) (G : OE β) : OE (α × β) where
  E := ePr F.E G.E
  own := fun A w S x cs => ∃ c d S1 S2, cs = c ++ d ∧ F.own A w S1 x.1 c ∧ G.own A w S2 x.2 d ∧ (∀ k, S k ↔ S1 k ∨ S2 k) ∧ ∀ k, S1 k → ¬ S2 k
  lt := by
    rintro A w S x cs k ⟨c, d, S1, S2, rfl, h1, h2, h3, h4⟩ hk
    rcases (h3 k).1 hk with h | h
    · exact F.lt h1 h
    · exact G.lt h2 h
  stab := by
    rintro A A' w w' S x cs ⟨c, d, S1, S2, rfl, h1, h2, h3, h4⟩ hb hs
    exact ⟨c, d, S1, S2, rfl, F.stab h1 (fun k hk => hb k ((h3 k).2 (.inl hk))) hs, G.stab h2 (fun k hk => hb k ((h3 k).2 (.inr hk))) hs, h3, h4⟩
  rep := by
    rintro A A0 w S x cs ⟨c, d, S1, S2, rfl, h1, h2, h3, h4⟩ hA hn
    exact ⟨c, d, rfl, F.rep h1 hA fun k o hk => hn k o ((h3 k).2 (.inl hk)), G.rep h2 hA fun k o hk => hn k o ((h3 k).2 (.inr hk))⟩
/-- element i lies at cell i * size of the row, with blocks Si i -/
structure Els (F : OE α) (A : Av) (w : World) (S : Nat → Prop) (g : Nat) (arr : Array Value) (xs : List α) (Si : Nat → Nat → Prop) : Prop where
  el : ∀ (i : Nat) x, xs[i]? = some x → ∃ ds, F.own A w (Si i) x ds ∧ ∀ (j : Nat) u, ds[j]? = some u → arr[i * F.E.size + j]? = some u
  dis : ∀ i j k, i < xs.length → j < xs.length → i ≠ j → Si i k → ¬ Si j k
  out : ∀ i, i < xs.length → ¬ Si i g
  set : ∀ k, S k ↔ k = g ∨ ∃ i, i < xs.length ∧ Si i k
def oSl (T : TypeId) (F : OE α) : OE (List α) where
  E := eSl F.E
  own := fun A w S xs cs => (cs = [.slice none 0 0] ∧ xs = [] ∧ ∀ k, ¬ S k) ∨
    ∃ g c arr Si, cs = [.slice (some ⟨g, 0, none⟩) xs.length c] ∧ Blk w g T arr ∧ xs.length ≤ c ∧ c ≤ maxLen ∧ arr.size = c * F.E.size ∧ Els F A w S g arr xs Si
  lt := by
    rintro A w S xs cs k (⟨_, _, h⟩ | ⟨g, c, arr, Si, rfl, h1, h2, h3, h4, h5⟩) hk
    · exact (h k hk).elim
    · rcases (h5.set k).1 hk with rfl | ⟨i, hi, hk⟩
      · exact h1.lt
      · obtain ⟨ds, h6, _⟩ := h5.el i _ (List.getElem?_eq_getElem hi)
        exact F.lt h6 hk
  stab := by
    rintro A A' w w' S xs cs (⟨h0, h0', h⟩ | ⟨g, c, arr, Si, rfl, h1, h2, h3, h4, h5⟩) hb hs
    · exact .inl ⟨h0, h0', h⟩
    · refine .inr ⟨g, c, arr, Si, rfl, (hb g ((h5.set g).2 (.inl rfl))).trans h1, h2, h3, h4, ⟨fun i x hx => ?_, h5.dis, h5.out, h5.set⟩⟩
      obtain ⟨ds, h6, h7⟩ := h5.el i x hx
      exact ⟨ds, F.stab h6 (fun k hk => hb k ((h5.set k).2 (.inr ⟨i, (List.getElem?_eq_some_iff.1 hx).1, hk⟩))) hs, h7⟩
  rep := by
    rintro A A0 w S xs cs (⟨rfl, rfl, h⟩ | ⟨g, c, arr, Si, rfl, h1, h2, h3, h4, h5⟩) hA hn
    · exact rep1_nil
    · refine ⟨some ⟨g, 0, none⟩, xs.length, c, rfl, rfl, h2, h3, fun _ => ⟨g, 0, rfl, h1.lt, fun i x hx => ?_⟩⟩
      obtain ⟨ds, h6, h7⟩ := h5.el i x hx
      refine ⟨⟨ds, F.rep h6 hA fun k o hk => hn k o ((h5.set k).2 (.inr ⟨i, (List.getElem?_eq_some_iff.1 hx).1, hk⟩)), fun j u hj => ?_⟩, fun j hj => hn g _ ((h5.set g).2 (.inl rfl))⟩
      rw [h1.cell, Nat.zero_add]
      exact h7 j u hj
/-- an address of a variable of its own -/
def ePt (E : Enc α) : Enc α where
  size := 1
  agg := false
  rep := fun A w x cs => ∃ b, cs = [.pointer (some ⟨b, 0, none⟩)] ∧ b < w.heap.size ∧ QAt E A w b 0 x
  len := by rintro A w x cs ⟨b, rfl, _⟩; rfl
  one := fun _ => rfl
  oc := by rintro A w x cs ⟨b, rfl, _⟩ c hc; simp at hc; subst hc; rfl
  stp := by
    rintro A A' w w' x cs hs ⟨b, rfl, h1, h2⟩
    exact ⟨b, rfl, Nat.lt_of_lt_of_le h1 hs.size, h2.stp h1 hs⟩
def oPt (T : TypeId) (F : OE α) : OE α where
  E := ePt F.E
  own := fun A w S x cs => ∃ b ds S1, cs = [.pointer (some ⟨b, 0, none⟩)] ∧ Blk w b T ds.toArray ∧ F.own A w S1 x ds ∧ ¬ S1 b ∧ ∀ k, S k ↔ k = b ∨ S1 k
  lt := by
    rintro A w S x cs k ⟨b, ds, S1, rfl, h1, h2, h3, h4⟩ hk
    rcases (h4 k).1 hk with rfl | h
    · exact h1.lt
    · exact F.lt h2 h
  stab := by
    rintro A A' w w' S x cs ⟨b, ds, S1, rfl, h1, h2, h3, h4⟩ hb hs
    exact ⟨b, ds, S1, rfl, (hb b ((h4 b).2 (.inl rfl))).trans h1, F.stab h2 (fun k hk => hb k ((h4 k).2 (.inr hk))) hs, h3, h4⟩
  rep := by
    rintro A A0 w S x cs ⟨b, ds, S1, rfl, h1, h2, h3, h4⟩ hA hn
    refine ⟨b, rfl, h1.lt, ⟨ds, F.rep h2 hA fun k o hk => hn k o ((h4 k).2 (.inr hk)), fun j u hj => ?_⟩, fun j hj => hn b _ ((h4 b).2 (.inl rfl))⟩
    rw [h1.cell, Nat.zero_add]
    simpa using hj

/-! ### holes -/
abbrev Pw := Av → World → (Nat → Prop) → Prop
/-- block b has changed between off and off + n at most -/
def Up (b off n : Nat) (w w' : World) : Prop := ∃ arr arr' T, Blk w b T arr ∧ Blk w' b T arr' ∧ arr'.size = arr.size ∧ ∀ j, (j < off ∨ off + n ≤ j) → arr'[j]? = arr[j]?
/-- a place of memory: if what lies there is replaced, Q holds of it -/
structure Hole (F : OE β) (A : Av) (w : World) (S : Nat → Prop) (b off : Nat) (y : β) (S1 : Nat → Prop) (cs : List Value) (Q : β → Pw) : Prop where
  own : F.own A w S1 y cs
  at' : ∀ (j : Nat) u, cs[j]? = some u → w.cell? ⟨b, off + j, none⟩ = some u
  inb : S b
  out : ¬ S1 b
  sub : ∀ k, S1 k → S k
  blk : ∃ arr T, Blk w b T arr ∧ off + F.E.size ≤ arr.size
  put : ∀ A' w' S1' y' ds, F.own A' w' S1' y' ds → (∀ (j : Nat) u, ds[j]? = some u → w'.cell? ⟨b, off + j, none⟩ = some u) → Up b off F.E.size w w' → (∀ k, S k → ¬ S1 k → k ≠ b → w'.heap[k]? = w.heap[k]?) → Stp A A' w w' → (∀ k, S1' k → S k → S1 k) → Q y' A' w' (fun k => (S k ∧ ¬ S1 k) ∨ S1' k)
/-- a value: if what hangs at it is changed, Q holds of it -/
structure VHole (F : OE β) (A : Av) (w : World) (S : Nat → Prop) (cs : List Value) (y : β) (S1 : Nat → Prop) (Q : β → Pw) : Prop where
  own : F.own A w S1 y cs
  sub : ∀ k, S1 k → S k
  put : ∀ A' w' S1' y', F.own A' w' S1' y' cs → (∀ k, S k → ¬ S1 k → w'.heap[k]? = w.heap[k]?) → Stp A A' w w' → (∀ k, S1' k → S k → S1 k) → Q y' A' w' (fun k => (S k ∧ ¬ S1 k) ∨ S1' k)
/-- the same, at an address or a value as they stand in registers -/
def HoleA (F : OE β) (A : Av) (w : World) (S : Nat → Prop) (a : Value) (y : β) (Q : β → Pw) : Prop := ∃ b off S1 cs, a = .pointer (some ⟨b, off, none⟩) ∧ Hole F A w S b off y S1 cs Q
def VHoleA (F : OE β) (A : Av) (w : World) (S : Nat → Prop) (v : Value) (y : β) (Q : β → Pw) : Prop := ∃ S1 cs, v = F.E.val cs ∧ VHole F A w S cs y S1 Q
theorem set_eq {S S1 Sa Sb Sa' : Nat → Prop} (h : ∀ k, S1 k ↔ Sa k ∨ Sb k) (hs : ∀ k, S1 k → S k) (hd : ∀ k, Sa k → ¬ Sb k) : (fun k => (S k ∧ ¬ S1 k) ∨ (Sa' k ∨ Sb k)) = fun k => (S k ∧ ¬ Sa k) ∨ Sa' k := by
  funext k
  rw [eq_iff_iff]
  have h1 := h k
  have h2 := hs k
  have h3 := hd k
  constructor
  · rintro (⟨a, b⟩ | a | a)
    · exact .inl ⟨a, fun h => b (h1.2 (.inl h))⟩
    · exact .inr a
    · exact .inl ⟨h2 (h1.2 (.inr a)), fun h => h3 h a⟩
  · rintro (⟨a, b⟩ | a)
    · by_cases hb : Sb k
      · exact .inr (.inr hb)
      · exact .inl ⟨a, fun h => (h1.1 h).elim b hb⟩
    · exact .inr (.inl a)
section
variable {F : OE α} {G : OE β} {A : Av} {w : World} {S : Nat → Prop}
theorem VHole.root {cs : List Value} {x : α} (h : F.own A w S x cs) : VHole F A w S cs x S (fun z A' w' S' => F.own A' w' S' z cs) :=
  ⟨h, fun _ h => h, fun A' w' S1' y' h1 _ _ _ => by
    have : (fun k => (S k ∧ ¬ S k) ∨ S1' k) = S1' := by
      funext k
      rw [eq_iff_iff]
      exact ⟨fun h => h.elim (fun h => absurd h.1 h.2) id, .inr⟩
    rw [this]
    exact h1⟩
theorem cell_keep {w' : World} {b o : Nat} {u : Value} (hb : w'.heap[b]? = w.heap[b]?) (h : w.cell? ⟨b, o, none⟩ = some u) : w'.cell? ⟨b, o, none⟩ = some u := (World.cell?_of_block (w := w) hb).trans h
/-- what is read at a place, as a value -/
theorem Hole.v {b off : Nat} {y : α} {S1 : Nat → Prop} {cs : List Value} {Q : α → Pw} (h : Hole F A w S b off y S1 cs Q) : VHole F A w S cs y S1 Q := by
  refine ⟨h.own, h.sub, fun A' w' S1' y' h1 h2 h3 h4 => ?_⟩
  have hb := h2 b h.inb h.out
  obtain ⟨arr, T, h5, h6⟩ := h.blk
  exact h.put A' w' S1' y' cs h1 (fun j u hj => cell_keep hb (h.at' j u hj)) ⟨arr, arr, T, h5, hb.trans h5, rfl, fun _ _ => rfl⟩ (fun k h1 h2' _ => h2 k h1 h2') h3 h4
theorem Hole.fst {b off : Nat} {y : α × β} {S1 : Nat → Prop} {cs : List Value} {Q : α × β → Pw} (h : Hole (oPr F G) A w S b off y S1 cs Q) : ∃ Sa ca, Hole F A w S b off y.1 Sa ca (fun z => Q (z, y.2)) := by
  obtain ⟨c, d, Sa, Sb, rfl, h1, h2, h3, h4⟩ := h.own
  have hlc := F.len h1
  have hld := G.len h2
  refine ⟨Sa, c, h1, fun j u hj => h.at' j u (by rw [List.getElem?_append_left (List.getElem?_eq_some_iff.1 hj).1]; exact hj), h.inb, fun hb => h.out ((h3 b).2 (.inl hb)), fun k hk => h.sub k ((h3 k).2 (.inl hk)), ?_, fun A' w' S1' y' ds k1 k2 k3 k4 k5 k6 => ?_⟩
  · obtain ⟨arr, T, h5, h6⟩ := h.blk
    have h6 : off + (F.E.size + G.E.size) ≤ arr.size := h6
    exact ⟨arr, T, h5, by omega⟩
  · obtain ⟨arr, arr', T, k7, k8, k9, k10⟩ := k3
    have hSb : ∀ k, Sb k → S k := fun k hk => h.sub k ((h3 k).2 (.inr hk))
    have hbb : ∀ k, Sb k → k ≠ b := fun k hk e => h.out ((h3 b).2 (.inr (e ▸ hk)))
    have hG : G.own A' w' Sb y.2 d := G.stab h2 (fun k hk => k4 k (hSb k hk) (fun ha => h4 k ha hk) (hbb k hk)) k5
    have hldd := F.len k1
    have := h.put A' w' (fun k => S1' k ∨ Sb k) (y', y.2) (ds ++ d) ⟨ds, d, S1', Sb, rfl, k1, hG, fun k => Iff.rfl, fun k hk hb => h4 k (k6 k hk (hSb k hb)) hb⟩ (fun j u hj => ?_) ⟨arr, arr', T, k7, k8, k9, fun j hj => k10 j ?_⟩ (fun k a1 a2 a3 => k4 k a1 (fun ha => a2 ((h3 k).2 (.inl ha))) a3) k5 (fun k a1 a2 => a1.elim (fun a => (h3 k).2 (.inl (k6 k a a2))) fun a => (h3 k).2 (.inr a))
    · rw [set_eq h3 h.sub h4] at this
      exact this
    · by_cases hjl : j < ds.length
      · rw [List.getElem?_append_left hjl] at hj
        exact k2 j u hj
      · rw [List.getElem?_append_right (by omega)] at hj
        have hc := h.at' j u (by rw [List.getElem?_append_right (by omega), hlc, ← hldd]; exact hj)
        rw [k7.cell] at hc
        rw [k8.cell, k10 (off + j) (.inr (by omega))]
        exact hc
    · have hj : j < off ∨ off + (F.E.size + G.E.size) ≤ j := hj
      omega
theorem Hole.snd {b off : Nat} {y : α × β} {S1 : Nat → Prop} {cs : List Value} {Q : α × β → Pw} (h : Hole (oPr F G) A w S b off y S1 cs Q) : ∃ Sb cb, Hole G A w S b (off + F.E.size) y.2 Sb cb (fun z => Q (y.1, z)) := by
  obtain ⟨c, d, Sa, Sb, rfl, h1, h2, h3, h4⟩ := h.own
  have hlc := F.len h1
  have hld := G.len h2
  refine ⟨Sb, d, h2, fun j u hj => ?_, h.inb, fun hb => h.out ((h3 b).2 (.inr hb)), fun k hk => h.sub k ((h3 k).2 (.inr hk)), ?_, fun A' w' S1' y' ds k1 k2 k3 k4 k5 k6 => ?_⟩
  · have := h.at' (F.E.size + j) u (by rw [List.getElem?_append_right (by omega), hlc, Nat.add_sub_cancel_left]; exact hj)
    rwa [← Nat.add_assoc] at this
  · obtain ⟨arr, T, h5, h6⟩ := h.blk
    have h6 : off + (F.E.size + G.E.size) ≤ arr.size := h6
    exact ⟨arr, T, h5, by omega⟩
  · obtain ⟨arr, arr', T, k7, k8, k9, k10⟩ := k3
    have hSa : ∀ k, Sa k → S k := fun k hk => h.sub k ((h3 k).2 (.inl hk))
    have hba : ∀ k, Sa k → k ≠ b := fun k hk e => h.out ((h3 b).2 (.inl (e ▸ hk)))
    have hF : F.own A' w' Sa y.1 c := F.stab h1 (fun k hk => k4 k (hSa k hk) (fun hb => h4 k hk hb) (hba k hk)) k5
    have hldd := G.len k1
    have := h.put A' w' (fun k => S1' k ∨ Sa k) (y.1, y') (c ++ ds) ⟨c, ds, Sa, S1', rfl, hF, k1, fun k => Or.comm, fun k hk hb => h4 k hk (k6 k hb (hSa k hk))⟩ (fun j u hj => ?_) ⟨arr, arr', T, k7, k8, k9, fun j hj => k10 j ?_⟩ (fun k a1 a2 a3 => k4 k a1 (fun ha => a2 ((h3 k).2 (.inr ha))) a3) k5 (fun k a1 a2 => a1.elim (fun a => (h3 k).2 (.inr (k6 k a a2))) fun a => (h3 k).2 (.inl a))
    · rw [set_eq (fun k => (h3 k).trans Or.comm) h.sub (fun k a b => h4 k b a)] at this
      exact this
    · by_cases hjl : j < c.length
      · rw [List.getElem?_append_left hjl] at hj
        have hc := h.at' j u (by rw [List.getElem?_append_left hjl]; exact hj)
        rw [k7.cell] at hc
        rw [k8.cell, k10 (off + j) (.inl (by omega))]
        exact hc
      · rw [List.getElem?_append_right (by omega)] at hj
        have := k2 (j - c.length) u hj
        rwa [show off + F.E.size + (j - c.length) = off + j by omega] at this
    · have hj : j < off ∨ off + (F.E.size + G.E.size) ≤ j := hj
      omega
theorem VHole.ptr {T : TypeId} {x : α} {S1 : Nat → Prop} {cs : List Value} {Q : α → Pw} (h : VHole (oPt T F) A w S cs x S1 Q) :
    ∃ b S2 ds, cs = [.pointer (some ⟨b, 0, none⟩)] ∧ Hole F A w S b 0 x S2 ds Q := by
  obtain ⟨b, ds, S2, rfl, h1, h2, h3, h4⟩ := h.own
  have hl := F.len h2
  have hb1 : S1 b := (h4 b).2 (.inl rfl)
  refine ⟨b, S2, ds, rfl, h2, fun j u hj => ?_, h.sub b hb1, h3, fun k hk => h.sub k ((h4 k).2 (.inr hk)), ⟨_, T, h1, by simp [hl]⟩, fun A' w' S1' y' es k1 k2 k3 k4 k5 k6 => ?_⟩
  · rw [h1.cell, Nat.zero_add]
    simpa using hj
  · obtain ⟨arr0, arr', T', k7, k8, k9, k10⟩ := k3
    obtain ⟨e1, rfl⟩ : ds.toArray = arr0 ∧ T = T' := by
      have := h1.symm.trans k7
      injection this with this
      injection this with e1 e2
      exact ⟨e1, e2⟩
    subst e1
    have hes := F.len k1
    have harr : arr' = es.toArray := by
      apply Array.ext_getElem?
      intro j
      by_cases hj : j < es.length
      · have := k2 j _ (List.getElem?_eq_getElem hj)
        rw [k8.cell, Nat.zero_add] at this
        rw [this]
        simp [hj]
      · rw [Array.getElem?_eq_none (by rw [k9]; simp; omega), Array.getElem?_eq_none (by simp; omega)]
    have hset : (fun k => (S k ∧ ¬ S2 k) ∨ S1' k) = fun k => (S k ∧ ¬ S1 k) ∨ (k = b ∨ S1' k) := by
      funext k
      rw [eq_iff_iff]
      constructor
      · rintro (⟨a, c⟩ | a)
        · by_cases e : k = b
          · exact .inr (.inl e)
          · exact .inl ⟨a, fun h => ((h4 k).1 h).elim e c⟩
        · exact .inr (.inr a)
      · rintro (⟨a, c⟩ | a | a)
        · exact .inl ⟨a, fun h => c ((h4 k).2 (.inr h))⟩
        · exact .inl ⟨a ▸ h.sub b hb1, fun h => h3 (a ▸ h)⟩
        · exact .inr a
    rw [hset]
    refine h.put A' w' _ y' ⟨b, es, S1', rfl, harr ▸ k8, k1, fun hb => h3 (k6 b hb (h.sub b hb1)), fun k => Iff.rfl⟩ (fun k a c => k4 k a (fun hk => c ((h4 k).2 (.inr hk))) fun e => c (e ▸ hb1)) k5 (fun k a c => ?_)
    rcases a with rfl | a
    · exact hb1
    · exact (h4 k).2 (.inr (k6 k a c))
end
end
end Go.Proofs.YtcodfkieaoomnaaGreatDoor
/- Trees as resources; operations at places in them. No statement of the seat is proved here. -/
namespace Go.Proofs.YtcodfkieaoomnaaGreatDoor
open Go.RowKit
set_option linter.unusedVariables false

abbrev Pin := Value × List Value
/-- cells whose content is known -/
def PinOK (w : World) (S : Nat → Prop) (q : Pin) : Prop := ∃ b o, q.1 = .pointer (some ⟨b, o, none⟩) ∧ S b ∧ ∀ (j : Nat) u, q.2[j]? = some u → w.cell? ⟨b, o + j, none⟩ = some u
/-- the value is a tree that reads x; some of its cells are known -/
def trP {α : Type} (F : OE α) (x : α) (pins : List Pin) : SP where
  P := fun A w S u => (∃ cs, u = F.E.val cs ∧ F.own A w S x cs) ∧ ∀ q, q ∈ pins → PinOK w S q
  lt := fun ⟨⟨_, _, h⟩, _⟩ hk => F.lt h hk
  stab := fun ⟨⟨cs, h1, h2⟩, h3⟩ hb hs => ⟨⟨cs, h1, F.stab h2 hb hs⟩, fun q hq => let ⟨b, o, h4, h5, h6⟩ := h3 q hq; ⟨b, o, h4, h5, fun j u hj => (World.cell?_of_block (hb b h5)).trans (h6 j u hj)⟩⟩
abbrev trR {α : Type} (K : Nat → Prop) (F : OE α) (x : α) (pins : List Pin) : Res := .gen K (trP F x pins)
/-- from block B on -/
abbrev geB (B : Nat) : Nat → Prop := fun k => B ≤ k
/-- an address further on -/
def padd : Value → Nat → Value
  | .pointer (some a), k => .pointer (some ⟨a.block, a.off + k, none⟩)
  | v, _ => v
theorem padd_padd (u : Value) (m k : Nat) : padd (padd u m) k = padd u (m + k) := by
  cases u with
  | pointer a =>
    cases a with
    | none => rfl
    | some a => simp [padd, Nat.add_assoc]
  | _ => rfl
theorem padd_zero {u : Value} (h : ∃ b o, u = .pointer (some ⟨b, o, none⟩)) : padd u 0 = u := by
  obtain ⟨b, o, rfl⟩ := h
  rfl
theorem val_cells {α : Type} {E : Enc α} {A : Av} {w : World} {x : α} {cs : List Value} (h : E.rep A w x cs) : (E.val cs).cells.toList = cs := by
  have hl := E.len h
  cases ha : E.agg with
  | true => simp [Enc.val, ha, Value.cells]
  | false =>
    have h1 := E.one ha
    rw [h1] at hl
    match cs, hl, h with
    | [c], _, h =>
      have h2 := E.oc h c (by simp)
      have : (Enc.val E [c]).cells = #[c] := by
        simp only [Enc.val, ha]
        cases c <;> first | rfl | cases h2
      rw [this]
section
variable {α β γ : Type} {F : OE α} {G : OE β} {A A0 : Av} {w : World} {S : Nat → Prop}
theorem OE.rep0 (F : OE α) {x : α} {cs : List Value} (h : F.own A w S x cs) : F.E.rep av0 w x cs := F.rep h (fun _ _ h => h.elim) fun _ _ _ h => h
theorem OE.cells (F : OE α) {x : α} {cs : List Value} (h : F.own A w S x cs) : (F.E.val cs).cells.toList = cs := val_cells (F.rep0 h)
theorem tr_root {x : α} {pins : List Pin} {u : Value} (h : (trP F x pins).P A w S u) : VHoleA F A w S u x (fun z A w S => (trP F z []).P A w S u) := by
  obtain ⟨⟨cs, rfl, h1⟩, _⟩ := h
  have := VHole.root h1
  exact ⟨S, cs, rfl, this.own, this.sub, fun A' w' S1' y' k1 k2 k3 k4 => ⟨⟨cs, rfl, this.put A' w' S1' y' k1 k2 k3 k4⟩, fun q hq => by cases hq⟩⟩
theorem VHoleA.len {T : TypeId} {v : Value} {xs : List α} {Q : List α → Pw} (h : VHoleA (oSl T F) A w S v xs Q) : ∃ a c, v = .slice a xs.length c ∧ (0 < xs.length → ∃ b, a = some ⟨b, 0, none⟩) := by
  obtain ⟨S1, cs, rfl, h⟩ := h
  rcases h.own with ⟨rfl, rfl, _⟩ | ⟨g, c, arr, Si, rfl, _⟩
  · exact ⟨none, 0, rfl, fun h => absurd h (by simp)⟩
  · exact ⟨_, c, rfl, fun _ => ⟨g, rfl⟩⟩
theorem HoleA.fst {a : Value} {y : α × β} {Q : α × β → Pw} (h : HoleA (oPr F G) A w S a y Q) : HoleA F A w S a y.1 (fun z => Q (z, y.2)) := by
  obtain ⟨b, off, S1, cs, rfl, h⟩ := h
  obtain ⟨Sa, ca, h⟩ := h.fst
  exact ⟨b, off, Sa, ca, rfl, h⟩
theorem HoleA.snd {a a' : Value} {y : α × β} {Q : α × β → Pw} (h : HoleA (oPr F G) A w S a y Q) (ha : padd a F.E.size = a') : HoleA G A w S a' y.2 (fun z => Q (y.1, z)) := by
  obtain ⟨b, off, S1, cs, rfl, h⟩ := h
  obtain ⟨Sa, ca, h⟩ := h.snd
  exact ⟨b, off + F.E.size, Sa, ca, ha.symm, h⟩
theorem HoleA.ad {a : Value} {y : α} {Q : α → Pw} (h : HoleA F A w S a y Q) : ∃ b off, a = .pointer (some ⟨b, off, none⟩) := let ⟨b, off, _, _, e, _⟩ := h; ⟨b, off, e⟩
/-- what stands at a place -/
theorem HoleA.open {a : Value} {y : α} {Q : α → Pw} (h : HoleA F A w S a y Q) : ∃ cs, cs.length = F.E.size ∧ PinOK w S (a, cs) := by
  obtain ⟨b, off, S1, cs, rfl, h⟩ := h
  exact ⟨cs, F.len h.own, b, off, rfl, h.inb, h.at'⟩
theorem VHoleA.ptr {T : TypeId} {u : Value} {y : α} {Q : α → Pw} (h : VHoleA (oPt T F) A w S u y Q) : HoleA F A w S u y Q := by
  obtain ⟨S1, cs, rfl, h⟩ := h
  obtain ⟨b, S2, ds, rfl, h2⟩ := h.ptr
  exact ⟨b, 0, S2, ds, rfl, h2⟩
/-- a part of a struct that stands in a register -/
theorem VHoleA.own {v : Value} {y : α} {Q : α → Pw} (h : VHoleA F A w S v y Q) : ∃ S1 cs, v = F.E.val cs ∧ F.own A w S1 y cs ∧ (∀ k, S1 k → S k) := let ⟨S1, cs, e, h⟩ := h; ⟨S1, cs, e, h.own, h.sub⟩

/-! the objects -/
/-- a plain row as a tree -/
theorem own_of_vec {E : Enc α} {B : Nat} {T : TypeId} {u : Value} {xs : List α} (h : Vec E A B T w u xs) (hT : T ≠ tByte) : ∃ cs, u = (oSl T (oRd E)).E.val cs ∧ (oSl T (oRd E)).own A w (ownsB u) xs cs := by
  obtain ⟨cs, hown, hf⟩ := h
  rcases hown.2 with ⟨rfl, h0⟩ | ⟨g, c, arr, rfl, hb, hg, hnc, hcm, hcs, htk⟩
  · obtain rfl : xs = [] := List.eq_nil_of_length_eq_zero h0
    exact ⟨[.slice none 0 0], rfl, .inl ⟨rfl, rfl, fun k hk => hk⟩⟩
  · refine ⟨[.slice (some ⟨g, 0, none⟩) xs.length c], rfl, .inr ⟨g, c, arr, fun _ _ => False, rfl, hg.plain hT, hnc, hcm, hcs, ⟨fun i x hx => ?_, fun _ _ _ _ _ _ h => h.elim, fun _ _ h => h, fun k => ⟨fun hk => .inl (Eq.symm hk), fun hk => hk.elim (fun e => Eq.symm e) fun ⟨_, _, h⟩ => h.elim⟩⟩⟩⟩
    obtain ⟨ds, h1, h2⟩ := hf.2 i x hx
    refine ⟨ds, ⟨fun _ h => h, h1⟩, fun j u hj => ?_⟩
    have := h2 j u hj
    rw [← htk, List.getElem?_take] at this
    show arr[i * E.size + j]? = some u
    split at this
    · simpa using this
    · cases this
/-- the tree handed on for reading: A0 knows nothing of its blocks -/
theorem tr_rep {x : α} {pins : List Pin} {u : Value} (h : (trP F x pins).P A w S u) (hA : ∀ b o, A0 b o → A b o) (hn : ∀ k o, S k → ¬ A0 k o) : Rep F.E A0 w u x :=
  let ⟨⟨cs, e, h1⟩, _⟩ := h; ⟨cs, e, F.rep h1 hA hn⟩
end

/-! operations -/
section
variable {P : Program} {R : Reg} {w : World} {d : Option Nat} {t : TypeId} {p : String} {af : Array Edge} {g : Option (Nat × Bool)} {A : Av} {α β : Type} {S : Nat → Prop}
variable {E : Enc α} {F : OE α} {x ix : Operand} {T e : TypeId} {K : Nat → Prop} {u a v : Value}
theorem stp_swapS {w' : World} {S'' : Nat → Prop} (hav : ∀ k, S k → ∀ o, A k o) (hc : Ch S w w') (hS : ∀ k, k < w.heap.size → S'' k → S k) : Stp A (swapS A S S'') w w' :=
  ⟨hc.size, fun b o v hv hn => (World.cell?_of_block (w := w) (hc.block b (cell_lt' hv) fun h => hn (hav b h o))).trans hv, fun b o hb h => h.elim (·.1) fun h => hav b (hS b hb h) o⟩
theorem of_fieldAddr_tr {sn kn ft off sz : Nat} {a' : Value} (h : ∃ b off, a = .pointer (some ⟨b, off, none⟩)) (hx : evalR R x = a) (hf : FldF P sn kn ft off) (hsz : ∀ w, (sizeOf ft).run P w = .ok sz w) (h0 : sz ≠ 0) (ha : padd a off = a') :
    OpF P ⟨d, .fieldAddr sn x kn, t, p, af, g⟩ R w (.raw a') := by
  obtain ⟨b, o, rfl⟩ := h
  subst ha
  exact opr_val (v := .pointer (some ⟨b, o + off, none⟩)) (w' := w) (by simp [execOp, run_fieldAt (w := w) hf hsz h0 hx]) ⟨rfl, Fr.refl _⟩
/-- a store at a place: a tree of its own, or a plain value (Sv empty) -/
theorem took_hput {ad : Operand} {T' : TypeId} {y y' : α} {Q : α → Pw} {Sv ST : Nat → Prop} {cs : List Value} {q : SP} (h : HoleA F A w S a y Q) (hv : F.own A w Sv y' cs) (hxv : evalR R x = F.E.val cs) (had : evalR R ad = a) (hd : ∀ k, S k → ¬ Sv k) (hST : ∀ k, ST k ↔ S k ∨ Sv k) (hav : ∀ k, ST k → ∀ o, A k o)
    (hB : ∀ k, ST k → K k) (hsz : ∀ w, (sizeOf T').run P w = .ok F.E.size w) (hQ : ∀ A w S, Q y' A w S → q.P A w S u) : OpR P ⟨none, .store T' ad x, t, p, af, g⟩ R w (TookS A false u ST (.gen K q) (fun _ => .any) w) := by
  obtain ⟨b, off, S1, es, rfl, h⟩ := h
  obtain ⟨arr, T0, hb, hle⟩ := h.blk
  have hcs := F.len hv
  have hcl := F.cells hv
  have hvb : ¬ Sv b := hd b h.inb
  obtain ⟨w', h1, h2, h3⟩ := run_storeVar (P := P) (o := off) (v := evalR R x) hsz (by rw [hxv, hcl]; exact F.oc hv) (by rw [hxv, ← Array.length_toList, hcl]; exact hcs) hb hle
  rw [hxv, hcl] at h3
  refine opr_skip (w' := w') ?_ ?_
  · simp only [execOp, Instr.storeAt, Instr.sureAddr, had]
    simp [h1]
  · have hch : Ch ST w w' := (h2.ch).trans (Ch.refl (fun _ => False) w') (fun _ _ h => h.elim) |> fun h => ⟨h.os, h.tape, h.output, h.size, fun k hk hn => h.block k hk fun e => hn ((hST k).2 (.inl (e ▸ ‹Hole F A w S b off y S1 es Q›.inb))), h.drawn⟩
    have hsub : ∀ k, k < w.heap.size → ((S k ∧ ¬ S1 k) ∨ Sv k) → ST k := fun k _ hk => (hST k).2 (hk.elim (fun h => .inl h.1) .inr)
    have hst := stp_swapS hav hch hsub
    have hne : ∀ k, Sv k → k ≠ b := fun k hk e => hvb (e ▸ hk)
    have hv' : F.own (swapS A ST fun k => (S k ∧ ¬ S1 k) ∨ Sv k) w' Sv y' cs := F.stab hv (fun k hk => h2.block k (hne k hk)) hst
    have hq := h.put _ w' Sv y' cs hv' (fun j u hj => ?_) ⟨arr, _, T0, hb, h3, lay_size _ _ _, fun j hj => ?_⟩ (fun k _ _ hk => h2.block k hk) hst (fun k a b => (hd k b a).elim)
    · refine ⟨u, fun k => (S k ∧ ¬ S1 k) ∨ Sv k, rfl, hch, hsub, hst, trivial, ⟨fun k hk => hB k ((hST k).2 (hk.elim (fun h => .inl h.1) .inr)), hQ _ _ _ hq⟩, trivial⟩
    · have hjl := (List.getElem?_eq_some_iff.1 hj).1
      rw [h3.cell, lay_at _ _ _ _ (by omega), if_pos (by omega), Nat.add_sub_cancel_left]
      exact hj
    · rw [lay_at _ _ _ _ (by omega), if_neg (by omega)]
theorem took_hstore {ad : Operand} {T' : TypeId} {y y' : α} {Q : α → Pw} {q : SP} (h : HoleA (oRd E) A w S a y Q) (hx : Rep E A w (evalR R x) y') (had : evalR R ad = a) (hav : ∀ k, S k → ∀ o, A k o) (hB : ∀ k, S k → K k) (hsz : ∀ w, (sizeOf T').run P w = .ok E.size w) (hQ : ∀ A w S, Q y' A w S → q.P A w S u) :
    OpR P ⟨none, .store T' ad x, t, p, af, g⟩ R w (TookS A false u S (.gen K q) (fun _ => .any) w) := by
  obtain ⟨cs, hxv, hr⟩ := hx
  exact took_hput (F := oRd E) (Sv := fun _ => False) (cs := cs) h ⟨fun _ h => h, hr⟩ hxv had (fun _ _ h => h) (fun k => ⟨.inl, fun h => h.elim id False.elim⟩) hav hB hsz hQ
theorem made_allocT {zc : Value} {z : α} (hz : ∀ w, (zeroValue T).run P w = .ok zc w) (hr : ∀ A w, F.own A w (fun _ => False) z zc.cells.toList) (hB : ∀ k, w.heap.size ≤ k → K k) : OpR P ⟨d, .alloc T, t, p, af, g⟩ R w (MadeS A (trR K (oPt T F) z []) (fun _ => .any) w) := by
  have hf := Fr.alloc w (.cells zc.cells T)
  refine opr_val (v := .pointer (some ⟨w.heap.size, 0, none⟩)) (w' := w.alloc (.cells zc.cells T)) ?_ ⟨fun k => k = w.heap.size, hf, fun k hk => Nat.le_of_eq (Eq.symm hk), trivial, ⟨fun k hk => hB k (Nat.le_of_eq (Eq.symm hk)), ⟨[.pointer (some ⟨w.heap.size, 0, none⟩)], rfl, w.heap.size, zc.cells.toList, fun _ => False, rfl, ?_, hr _ _, fun h => h, fun k => ⟨.inl, fun h => h.elim id False.elim⟩⟩, fun q hq => by cases hq⟩, trivial⟩
  · simp [execOp, Instr.alloc, newVar, newRow, hz]
  · have := Blk.new w T zc.cells
    simpa using this
/-- what a variable holds, taken out of it -/
theorem took_loadT {y : α} {pins : List Pin} {T' : TypeId} (h : (trP (oPt T' F) y pins).P A w S u) (hx : evalR R x = u) (hav : ∀ k, S k → ∀ o, A k o) (hB : ∀ k, S k → K k) (hag : ∀ w, (isAgg T).run P w = .ok F.E.agg w) (hsz : ∀ w, (sizeOf T).run P w = .ok F.E.size w) :
    OpR P ⟨d, .load T x, t, p, af, g⟩ R w (TookS A true u S (trR K F y []) (fun _ => .any) w) := by
  obtain ⟨⟨cs, rfl, b, ds, S1, rfl, h1, h2, h3, h4⟩, _⟩ := h
  have hsub : ∀ k, S1 k → S k := fun k hk => (h4 k).2 (.inr hk)
  have hst := stp_swapS (S'' := S1) hav (Ch.refl S w) fun k _ h => hsub k h
  refine opr_val (v := F.E.val ds) (w' := w) ?_ ⟨F.E.val ds, S1, rfl, Ch.refl S w, fun k _ h => hsub k h, hst, trivial, ⟨fun k hk => hB k (hsub k hk), ⟨ds, rfl, F.stab h2 (fun _ _ => rfl) hst⟩, fun q hq => by cases hq⟩, trivial⟩
  have := run_loadVar (P := P) (w := w) (b := b) (o := 0) hag hsz (F.len h2) F.E.one (fun j v hj => by rw [h1.cell, Nat.zero_add]; simpa using hj)
  have hx' : evalR R x = .pointer (some ⟨b, 0, none⟩) := hx
  simp [execOp, Instr.loadAt, Instr.sureAddr, hx', this, Enc.val]
theorem MadeS.base {K' : Nat → Prop} {q : SP} {f : Av → Fact} {v : Value} {w' : World} (h : MadeS A (.gen K' q) f w v w') (hK : ∀ k, K' k → K k) : MadeS A (.gen K q) f w v w' :=
  let ⟨S, h1, h2, h3, h4, h5⟩ := h; ⟨S, h1, h2, trivial, ⟨fun k hk => hK k (h4.1 k hk), h4.2⟩, h5⟩
end

/-! the words that a printed proof uses -/
section
variable {P : Program} {R : Reg} {w : World} {d : Option Nat} {t : TypeId} {p : String} {af : Array Edge} {g : Option (Nat × Bool)} {A A0 : Av} {α β : Type} {S S0 : Nat → Prop}
variable {E : Enc α} {F : OE α} {x ix : Operand} {T e : TypeId} {K : Nat → Prop} {u a v : Value}
theorem own_of_vec' {B : Nat} {xs : List α} (h : (Res.vec B T E xs).ok A u w) (hS : (Res.vec B T E xs).own A u S w) (hT : T ≠ tByte := by decide) : ∃ cs, u = (oSl T (oRd E)).E.val cs ∧ (oSl T (oRd E)).own A w S xs cs := by
  obtain rfl : S = ownsB u := hS
  exact own_of_vec h hT
theorem vec_ge {B : Nat} {xs : List α} (h : (Res.vec B T E xs).ok A u w) (hS : (Res.vec B T E xs).own A u S w) : ∀ k, S k → B ≤ k := fun k hk => by
  obtain rfl : S = ownsB u := hS
  exact Res.geB h rfl hk
/-- a store that puts a tree of our own into another -/
theorem took_put2 {ad : Operand} {T' : TypeId} {y y' : α} {Q : α → Pw} {q : SP} {ρ : Nat → Value} {σ : Nat → Nat → Prop} {c1 c2 : Nat} (hne : Nat.beq c1 c2 = false) (h : HoleA F A w (σ c1) a y Q) (hv : ∃ cs, ρ c2 = F.E.val cs ∧ F.own A w (σ c2) y' cs) (hx : evalR R x = ρ c2) (had : evalR R ad = a)
    (hav : ∀ d, d ∈ [c1, c2] → ∀ k, σ d k → ∀ o, A k o) (hdd : ∀ d d', d ∈ [c1, c2] → d' ∈ [c1, c2] → d ≠ d' → ∀ k, σ d k → ¬ σ d' k) (hB1 : ∀ k, σ c1 k → K k) (hB2 : ∀ k, σ c2 k → K k) (hsz : ∀ w, (sizeOf T').run P w = .ok F.E.size w) (hQ : ∀ A w S, Q y' A w S → q.P A w S u) :
    OpR P ⟨none, .store T' ad x, t, p, af, g⟩ R w (TookS A false u (fun k => ∃ d, d ∈ [c1, c2] ∧ σ d k) (.gen K q) (fun _ => .any) w) := by
  obtain ⟨cs, e, hv⟩ := hv
  have hm1 : c1 ∈ [c1, c2] := .head _
  have hm2 : c2 ∈ [c1, c2] := .tail _ (.head _)
  have hne' : c1 ≠ c2 := fun h => by subst h; simp at hne
  have hST : ∀ k, (∃ d, d ∈ [c1, c2] ∧ σ d k) ↔ σ c1 k ∨ σ c2 k := fun k => by
    constructor
    · rintro ⟨d, hd, hk⟩
      rcases List.mem_cons.1 hd with hd | hd
      · exact .inl (hd ▸ hk)
      · exact .inr (List.mem_singleton.1 hd ▸ hk)
    · exact fun h => h.elim (fun h => ⟨c1, hm1, h⟩) fun h => ⟨c2, hm2, h⟩
  exact took_hput h hv (hx.trans e) had (hdd c1 c2 hm1 hm2 hne') hST (fun k ⟨d, hd, h⟩ => hav d hd k h) (fun k hk => ((hST k).1 hk).elim (hB1 k) (hB2 k)) hsz hQ
theorem AvOK.subS (hA : AvOK A w) (S : Nat → Prop) : AvOK (fun b o => A b o ∧ ¬ S b) w := fun b o h => hA b o h.1
/-- the same, out of a variable -/
theorem tree_post_cell {w0 : World} {x : α} {pins : List Pin} {f : Av → Fact} {B r : Nat} {T' : TypeId} (hB : B = w0.heap.size) (hown : (trR (geB B) (oPt T' F) x pins).own A u S w) (hav : ∀ k, S k → ∀ o, A k o) (hAA : ∀ b o, A0 b o → A b o) (hF : Fr w0 w) (hR : R r = u) (hag : ∀ w, (isAgg T).run P w = .ok F.E.agg w) (hsz : ∀ w, (sizeOf T).run P w = .ok F.E.size w) (hf : ∀ A v, (f A).ok v w) :
    ∃ v, ResVal P R w (.cell r T) v ∧ MadeS A0 (trR (geB w0.heap.size) F x []) f w0 v w := by
  subst hB
  obtain ⟨hK, ⟨cs, e, b, ds, S1, rfl, h1, h2, h3, h4⟩, _⟩ := hown
  have hu : u = .pointer (some ⟨b, 0, none⟩) := e
  have hsub : ∀ k, S1 k → S k := fun k hk => (h4 k).2 (.inr hk)
  refine ⟨F.E.val ds, ⟨⟨b, 0, none⟩, by rw [hR, hu], ?_⟩, S1, hF, fun k hk => hK k (hsub k hk), trivial, ⟨fun k hk => hK k (hsub k hk), ⟨ds, rfl, F.stab h2 (fun _ _ => rfl) (stp_down fun b o h => h.elim (hAA b o) fun h => hav b (hsub b h) o)⟩, fun q hq => by cases hq⟩, hf _ _⟩
  have := run_loadVar (P := P) (w := w) (b := b) (o := 0) hag hsz (F.len h2) F.E.one (fun j v hj => by rw [h1.cell, Nat.zero_add]; simpa using hj)
  simpa [Enc.val] using this
/-- a tree that is not needed as one -/
theorem madeS_rep {x : α} {B : Nat} {w' : World} (h : MadeS A (trR (geB B) F x []) (fun _ => .any) w v w') (hA : AvOK A w) : Rep F.E A w' v x ∧ Fr w w' := by
  obtain ⟨S, h1, h2, _, ⟨h3, h4⟩, _⟩ := h
  refine ⟨tr_rep h4 (fun b o h => .inl h) fun k o hk ha => ?_, h1⟩
  have := h2 k hk
  have := hA k o ha
  omega
theorem own_nil {A : Av} {w : World} : (oSl T F).own A w (fun _ => False) [] [.slice none 0 0] := .inl ⟨rfl, rfl, fun _ h => h⟩
theorem own_rd {y : α} {cs : List Value} (h : E.rep A w y cs) : (oRd E).own A w (fun _ => False) y cs := ⟨fun _ h => h, h⟩
theorem own_pr {G : OE β} {y : α} {z : β} {c ds : List Value} (h : F.own A w (fun _ => False) y c) (k : G.own A w (fun _ => False) z ds) : (oPr F G).own A w (fun _ => False) (y, z) (c ++ ds) := ⟨c, ds, _, _, rfl, h, k, fun _ => ⟨fun h => h.elim, fun h => h.elim id id⟩, fun _ h => h.elim⟩
end
end Go.Proofs.YtcodfkieaoomnaaGreatDoor
/- Printed by dec.py: plain functions and the proofs that the code computes them. No statement of the seat is proved here. -/
namespace Go.Proofs.YtcodfkieaoomnaaGreatDoor
open Go.RowKit
set_option linter.unusedVariables false
abbrev T_impl_Record := Int × Int × Int × (List (List UInt8))
abbrev E_impl_Record : Enc T_impl_Record := ePr (eInt .i64) (ePr (eInt .i64) (ePr (eInt .i64) (eSl eStr)))
theorem fl_impl_Record_0 : Fld E_impl_Record 0 (eInt .i64) (fun x : T_impl_Record => x.1) := Fld.fst
theorem ff_48_0 : FldF Tryz.prog 48 0 3 0 := ⟨_, _, Tryz.underlying48, rfl, rfl, rfl⟩
theorem ff_51_0 : FldF Tryz.prog 51 0 3 0 := ⟨_, _, Tryz.underlying51, rfl, rfl, rfl⟩
theorem fl_impl_Record_1 : Fld E_impl_Record 1 (eInt .i64) (fun x : T_impl_Record => x.2.1) := (Fld.snd Fld.fst)
theorem ff_48_1 : FldF Tryz.prog 48 1 3 1 := ⟨_, _, Tryz.underlying48, rfl, rfl, rfl⟩
theorem ff_51_1 : FldF Tryz.prog 51 1 3 1 := ⟨_, _, Tryz.underlying51, rfl, rfl, rfl⟩
theorem fl_impl_Record_2 : Fld E_impl_Record 2 (eInt .i64) (fun x : T_impl_Record => x.2.2.1) := (Fld.snd (Fld.snd Fld.fst))
theorem ff_48_2 : FldF Tryz.prog 48 2 3 2 := ⟨_, _, Tryz.underlying48, rfl, rfl, rfl⟩
theorem ff_51_2 : FldF Tryz.prog 51 2 3 2 := ⟨_, _, Tryz.underlying51, rfl, rfl, rfl⟩
theorem fl_impl_Record_3 : Fld E_impl_Record 3 (eSl eStr) (fun x : T_impl_Record => x.2.2.2) := (Fld.snd (Fld.snd (Fld.snd (Fld.id _))))
theorem ff_48_3 : FldF Tryz.prog 48 3 46 3 := ⟨_, _, Tryz.underlying48, rfl, rfl, rfl⟩
theorem ff_51_3 : FldF Tryz.prog 51 3 46 3 := ⟨_, _, Tryz.underlying51, rfl, rfl, rfl⟩
theorem el_5 : ElF Tryz.prog 5 1 := el_of Tryz.zeroValue5 Tryz.sizeOf5 (by kernel_rfl : (Tryz.prog.info? 5).map (·.bytes) = some 1) rfl (by decide) (by decide)
theorem el_9 : ElF Tryz.prog 9 1 := el_of Tryz.zeroValue9 Tryz.sizeOf9 (by kernel_rfl : (Tryz.prog.info? 9).map (·.bytes) = some 16) rfl (by decide) (by decide)
end Go.Proofs.YtcodfkieaoomnaaGreatDoor
/- Short forms for the printed texts. No statement of the seat is proved here. -/
namespace Go.Proofs.YtcodfkieaoomnaaGreatDoor
open Go.RowKit
set_option linter.unusedVariables false

theorem Obls.p {P : Program} {l : List Ent} {R : Reg} {w : World} {i : Nat} {x : Ent} {r : List Ent}
    (h : ∀ R' w', Fr w w' → (∀ t, okRead l i t = true → R' t = R t) → Deps l R' w' x.o.after.toList → OpR P x.o R' w' fun v w'' => x.f.ok v w'' ∧ Fr w' w'')
    (t : Obls P l R w (i + 1) r) (hg : x.o.guard = none := by exact rfl) (hx : x.g = true := by exact rfl) : Obls P l R w i (x :: r) := ⟨Obl.plain hg hx h, t⟩
theorem OblsR.p {P : Program} {ini : List Ob} {l : List EntR} {A : Av} {R : Reg} {w : World} {i : Nat} {x : EntR} {r : List EntR}
    (h : ∀ A' R' w', Onto ini l A R w i A' R' w' → DepsR l A' R' w' x.o.after.toList → OpR P x.o R' w' fun v w'' => (x.f A').ok v w'' ∧ Fr w' w'')
    (t : OblsR P ini l A R w (i + 1) r) (hg : x.o.guard = none := by exact rfl) (hx : x.g = true := by exact rfl) (hc : x.con = [] := by exact rfl) (hr : x.res = none := by exact rfl) : OblsR P ini l A R w i (x :: r) :=
  ⟨OblR.plain hg hx hc hr h, t⟩
def depF (l : List Ent) (es : List Edge) (j : Nat) : Option (Nat × Fact) :=
  match es[j]? with
  | none => none
  | some e => bif bnd e then (match l[e.on]? with
    | none => none
    | some x => match x.o.dst with
      | none => none
      | some d => bif x.g then some (d, x.f) else none) else none
theorem Deps.g {l : List Ent} {R : Reg} {w : World} {es : List Edge} (h : Deps l R w es) (j : Nat) {d : Nat} {f : Fact} (e : depF l es j = some (d, f)) : f.ok (R d) w := by
  unfold depF at e
  cases h1 : es[j]? with
  | none => rw [h1] at e; cases e
  | some a =>
    rw [h1] at e
    dsimp only at e
    cases h2 : bnd a
    · rw [h2] at e; cases e
    rw [h2, cond_true] at e
    cases h3 : l[a.on]? with
    | none => rw [h3] at e; cases e
    | some x =>
      rw [h3] at e
      dsimp only at e
      cases h4 : x.o.dst with
      | none => rw [h4] at e; cases e
      | some d' =>
        rw [h4] at e
        dsimp only at e
        cases h5 : x.g
        · rw [h5] at e; cases e
        rw [h5, cond_true] at e
        obtain ⟨rfl, rfl⟩ := Prod.mk.inj (Option.some.inj e)
        exact h j a x _ h1 h2 h3 h4 h5
def depFR (l : List EntR) (es : List Edge) (j : Nat) : Option (Nat × (Av → Fact)) :=
  match es[j]? with
  | none => none
  | some e => bif bnd e then (match l[e.on]? with
    | none => none
    | some x => match x.o.dst with
      | none => none
      | some d => bif x.g then some (d, x.f) else none) else none
theorem DepsR.g {l : List EntR} {A : Av} {R : Reg} {w : World} {es : List Edge} (h : DepsR l A R w es) (j : Nat) {d : Nat} {f : Av → Fact} (e : depFR l es j = some (d, f)) : (f A).ok (R d) w := by
  unfold depFR at e
  cases h1 : es[j]? with
  | none => rw [h1] at e; cases e
  | some a =>
    rw [h1] at e
    dsimp only at e
    cases h2 : bnd a
    · rw [h2] at e; cases e
    rw [h2, cond_true] at e
    cases h3 : l[a.on]? with
    | none => rw [h3] at e; cases e
    | some x =>
      rw [h3] at e
      dsimp only at e
      cases h4 : x.o.dst with
      | none => rw [h4] at e; cases e
      | some d' =>
        rw [h4] at e
        dsimp only at e
        cases h5 : x.g
        · rw [h5] at e; cases e
        rw [h5, cond_true] at e
        obtain ⟨rfl, rfl⟩ := Prod.mk.inj (Option.some.inj e)
        exact h j a x _ h1 h2 h3 h4 h5
end Go.Proofs.YtcodfkieaoomnaaGreatDoor
/-
  DERIVED: THE SHELF's CONTRACTS AT THIS DUMP, IN PLAIN WORDS (tools/lay-plain.mjs out of 'YtcodfkieaoomnaaGreatDoorLay.lean', which tools/lay-shelf.mjs wrote): THE SAME DECLARATIONS UNDER THE SAME NAMES: 'import', 'namespace', 'open', 'def', 'theorem' AND NOTHING ELSE: no command of the shelf's: FOR A HAND-IN. Each laying: the table of numbers ('.._ren') and one theorem, a field a fact of the dump's own or the kernel's comparison; each contract: ONE APPLICATION.
-/
namespace Go.Proofs
open Go.Shelf
def Tryz.laysItoa_ren : Go.Shelf.Ren := ⟨fun | 171 => 155 | 243 => 199 | 246 => 240 | 283 => 277 | 284 => 278 | 285 => 279 | 286 => 280 | 129 => 209 | 317 => 303 | 318 => 304 | 319 => 305 | 320 => 306 | 337 => 321 | 338 => 322 | n => n, fun | 3 => 3 | 9 => 9 | 2 => 2 | 4 => 4 | 171 => 234 | 0 => 0 | 53 => 193 | 37 => 22 | 5 => 5 | 173 => 236 | 212 => 259 | 51 => 191 | 20 => 20 | 213 => 260 | 46 => 166 | 232 => 283 | 233 => 284 | n => n, fun | 17 => 2 | 18 => 6 | 19 => 7 | n => n⟩
theorem Tryz.laysItoa : Go.Proofs.LaysM.n171 Tryz.prog Tryz.laysItoa_ren := {
  mixed := by kernel_rfl
  f129 := Tryz.func209.trans (congrArg some (by kernel_rfl))
  f171 := Tryz.func155.trans (congrArg some (by kernel_rfl))
  f243 := Tryz.func199.trans (congrArg some (by kernel_rfl))
  f246 := Tryz.func240.trans (congrArg some (by kernel_rfl))
  f283 := Tryz.func277.trans (congrArg some (by kernel_rfl))
  f284 := Tryz.func278.trans (congrArg some (by kernel_rfl))
  f285 := Tryz.func279.trans (congrArg some (by kernel_rfl))
  f286 := Tryz.func280.trans (congrArg some (by kernel_rfl))
  f317 := Tryz.func303.trans (congrArg some (by kernel_rfl))
  f318 := Tryz.func304.trans (congrArg some (by kernel_rfl))
  f319 := Tryz.func305.trans (congrArg some (by kernel_rfl))
  f320 := Tryz.func306.trans (congrArg some (by kernel_rfl))
  f337 := Tryz.func321.trans (congrArg some (by kernel_rfl))
  f338 := Tryz.func322.trans (congrArg some (by kernel_rfl))
  t0 := Tryz.underlying0
  a0 := Tryz.isAgg0
  z0 := Tryz.sizeOf0
  v0 := Tryz.zeroValue0
  t2 := Tryz.underlying2
  a2 := Tryz.isAgg2
  z2 := Tryz.sizeOf2
  v2 := Tryz.zeroValue2
  t3 := Tryz.underlying3
  a3 := Tryz.isAgg3
  z3 := Tryz.sizeOf3
  v3 := Tryz.zeroValue3
  t4 := Tryz.underlying4
  a4 := Tryz.isAgg4
  z4 := Tryz.sizeOf4
  v4 := Tryz.zeroValue4
  t5 := Tryz.underlying5
  a5 := Tryz.isAgg5
  z5 := Tryz.sizeOf5
  v5 := Tryz.zeroValue5
  t9 := Tryz.underlying9
  a9 := Tryz.isAgg9
  z9 := Tryz.sizeOf9
  v9 := Tryz.zeroValue9
  t20 := Tryz.underlying20
  a20 := Tryz.isAgg20
  z20 := Tryz.sizeOf20
  v20 := Tryz.zeroValue20
  t37 := Tryz.underlying22
  a37 := Tryz.isAgg22
  z37 := Tryz.sizeOf22
  v37 := Tryz.zeroValue22
  t46 := Tryz.underlying166
  a46 := Tryz.isAgg166
  z46 := Tryz.sizeOf166
  v46 := Tryz.zeroValue166
  t51 := Tryz.underlying191
  a51 := Tryz.isAgg191
  z51 := Tryz.sizeOf191
  v51 := Tryz.zeroValue191
  t53 := Tryz.underlying193
  a53 := Tryz.isAgg193
  z53 := Tryz.sizeOf193
  v53 := Tryz.zeroValue193
  t171 := Tryz.underlying234
  a171 := Tryz.isAgg234
  z171 := Tryz.sizeOf234
  v171 := Tryz.zeroValue234
  t173 := Tryz.underlying236
  a173 := Tryz.isAgg236
  z173 := Tryz.sizeOf236
  v173 := Tryz.zeroValue236
  t212 := Tryz.underlying259
  a212 := Tryz.isAgg259
  z212 := Tryz.sizeOf259
  v212 := Tryz.zeroValue259
  t213 := Tryz.underlying260
  a213 := Tryz.isAgg260
  z213 := Tryz.sizeOf260
  t232 := Tryz.underlying283
  a232 := Tryz.isAgg283
  z232 := Tryz.sizeOf283
  v232 := Tryz.zeroValue283
  t233 := Tryz.underlying284
  a233 := Tryz.isAgg284
  z233 := Tryz.sizeOf284
  v233 := Tryz.zeroValue284
  g17 := by kernel_rfl
  g18 := by kernel_rfl
  g19 := by kernel_rfl
  i0 := by kernel_rfl
  i2 := by kernel_rfl
  i3 := by kernel_rfl
  i4 := by kernel_rfl
  i5 := by kernel_rfl
  i9 := by kernel_rfl
  i20 := by kernel_rfl
  i37 := by kernel_rfl
  i46 := by kernel_rfl
  i51 := by kernel_rfl
  i53 := by kernel_rfl
  i171 := by kernel_rfl
  i173 := by kernel_rfl
  i212 := by kernel_rfl
  i232 := by kernel_rfl
  i233 := by kernel_rfl
  m17 := by kernel_rfl
  m18 := by kernel_rfl
  m19 := by kernel_rfl }
def Tryz.laysSort_ren : Go.Shelf.Ren := ⟨fun | 190 => 174 | 125 => 157 | 258 => 221 | 128 => 208 | 129 => 209 | 302 => 254 | 303 => 255 | 304 => 256 | 305 => 257 | 306 => 258 | 307 => 259 | 308 => 260 | 309 => 261 | 310 => 262 | 333 => 295 | 329 => 242 | 330 => 243 | 334 => 296 | 335 => 297 | 336 => 298 | 344 => 318 | n => n, fun | 31 => 46 | 9 => 9 | 3 => 3 | 46 => 166 | 0 => 0 | 51 => 191 | 53 => 193 | 4 => 4 | 183 => 185 | 182 => 184 | 131 => 143 | 5 => 5 | 218 => 210 | 222 => 214 | 228 => 238 | 229 => 117 | n => n, fun | n => n⟩
theorem Tryz.laysSort : Go.Proofs.Lays.n190 Tryz.prog Tryz.laysSort_ren := {
  mixed := by kernel_rfl
  f125 := Tryz.func157.trans (congrArg some (by kernel_rfl))
  f128 := Tryz.func208.trans (congrArg some (by kernel_rfl))
  f129 := Tryz.func209.trans (congrArg some (by kernel_rfl))
  f190 := Tryz.func174.trans (congrArg some (by kernel_rfl))
  f258 := Tryz.func221.trans (congrArg some (by kernel_rfl))
  f302 := Tryz.func254.trans (congrArg some (by kernel_rfl))
  f303 := Tryz.func255.trans (congrArg some (by kernel_rfl))
  f304 := Tryz.func256.trans (congrArg some (by kernel_rfl))
  f305 := Tryz.func257.trans (congrArg some (by kernel_rfl))
  f306 := Tryz.func258.trans (congrArg some (by kernel_rfl))
  f307 := Tryz.func259.trans (congrArg some (by kernel_rfl))
  f308 := Tryz.func260.trans (congrArg some (by kernel_rfl))
  f309 := Tryz.func261.trans (congrArg some (by kernel_rfl))
  f310 := Tryz.func262.trans (congrArg some (by kernel_rfl))
  f329 := Tryz.func242.trans (congrArg some (by kernel_rfl))
  f330 := Tryz.func243.trans (congrArg some (by kernel_rfl))
  f333 := Tryz.func295.trans (congrArg some (by kernel_rfl))
  f334 := Tryz.func296.trans (congrArg some (by kernel_rfl))
  f335 := Tryz.func297.trans (congrArg some (by kernel_rfl))
  f336 := Tryz.func298.trans (congrArg some (by kernel_rfl))
  f344 := Tryz.func318.trans (congrArg some (by kernel_rfl))
  t0 := Tryz.underlying0
  a0 := Tryz.isAgg0
  z0 := Tryz.sizeOf0
  v0 := Tryz.zeroValue0
  t3 := Tryz.underlying3
  a3 := Tryz.isAgg3
  z3 := Tryz.sizeOf3
  v3 := Tryz.zeroValue3
  t4 := Tryz.underlying4
  a4 := Tryz.isAgg4
  z4 := Tryz.sizeOf4
  v4 := Tryz.zeroValue4
  t5 := Tryz.underlying5
  a5 := Tryz.isAgg5
  z5 := Tryz.sizeOf5
  v5 := Tryz.zeroValue5
  t9 := Tryz.underlying9
  a9 := Tryz.isAgg9
  z9 := Tryz.sizeOf9
  v9 := Tryz.zeroValue9
  t31 := Tryz.underlying46
  a31 := Tryz.isAgg46
  z31 := Tryz.sizeOf46
  v31 := Tryz.zeroValue46
  t46 := Tryz.underlying166
  a46 := Tryz.isAgg166
  z46 := Tryz.sizeOf166
  v46 := Tryz.zeroValue166
  t51 := Tryz.underlying191
  a51 := Tryz.isAgg191
  z51 := Tryz.sizeOf191
  v51 := Tryz.zeroValue191
  t53 := Tryz.underlying193
  a53 := Tryz.isAgg193
  z53 := Tryz.sizeOf193
  v53 := Tryz.zeroValue193
  t131 := Tryz.underlying143
  a131 := Tryz.isAgg143
  z131 := Tryz.sizeOf143
  v131 := Tryz.zeroValue143
  t182 := Tryz.underlying184
  a182 := Tryz.isAgg184
  z182 := Tryz.sizeOf184
  v182 := Tryz.zeroValue184
  t183 := Tryz.underlying185
  a183 := Tryz.isAgg185
  z183 := Tryz.sizeOf185
  v183 := Tryz.zeroValue185
  t218 := Tryz.underlying210
  a218 := Tryz.isAgg210
  z218 := Tryz.sizeOf210
  v218 := Tryz.zeroValue210
  t222 := Tryz.underlying214
  a222 := Tryz.isAgg214
  z222 := Tryz.sizeOf214
  v222 := Tryz.zeroValue214
  t228 := Tryz.underlying238
  a228 := Tryz.isAgg238
  z228 := Tryz.sizeOf238
  v228 := Tryz.zeroValue238
  t229 := Tryz.underlying117
  a229 := Tryz.isAgg117
  z229 := Tryz.sizeOf117
  v229 := Tryz.zeroValue117 }
def Tryz.laysCA_ren : Go.Shelf.Ren := ⟨fun | 150 => 213 | 153 => 246 | 152 => 282 | 226 => 283 | 227 => 284 | 228 => 285 | 137 => 307 | 119 => 308 | 224 => 309 | 225 => 310 | 217 => 323 | 266 => 333 | n => n, fun | 9 => 9 | 4 => 4 | 3 => 3 | 5 => 5 | 21 => 21 | 117 => 243 | 116 => 242 | 0 => 0 | 46 => 166 | 124 => 262 | n => n, fun | n => n⟩
theorem Tryz.laysCA : Go.Proofs.Lays.n150 Tryz.prog Tryz.laysCA_ren := {
  mixed := by kernel_rfl
  f119 := Tryz.func308.trans (congrArg some (by kernel_rfl))
  f137 := Tryz.func307.trans (congrArg some (by kernel_rfl))
  f150 := Tryz.func213.trans (congrArg some (by kernel_rfl))
  f152 := Tryz.func282.trans (congrArg some (by kernel_rfl))
  f153 := Tryz.func246.trans (congrArg some (by kernel_rfl))
  f217 := Tryz.func323.trans (congrArg some (by kernel_rfl))
  f224 := Tryz.func309.trans (congrArg some (by kernel_rfl))
  f225 := Tryz.func310.trans (congrArg some (by kernel_rfl))
  f226 := Tryz.func283.trans (congrArg some (by kernel_rfl))
  f227 := Tryz.func284.trans (congrArg some (by kernel_rfl))
  f228 := Tryz.func285.trans (congrArg some (by kernel_rfl))
  f266 := Tryz.func333.trans (congrArg some (by kernel_rfl))
  t0 := Tryz.underlying0
  a0 := Tryz.isAgg0
  z0 := Tryz.sizeOf0
  v0 := Tryz.zeroValue0
  t3 := Tryz.underlying3
  a3 := Tryz.isAgg3
  z3 := Tryz.sizeOf3
  v3 := Tryz.zeroValue3
  t4 := Tryz.underlying4
  a4 := Tryz.isAgg4
  z4 := Tryz.sizeOf4
  v4 := Tryz.zeroValue4
  t5 := Tryz.underlying5
  a5 := Tryz.isAgg5
  z5 := Tryz.sizeOf5
  v5 := Tryz.zeroValue5
  t9 := Tryz.underlying9
  a9 := Tryz.isAgg9
  z9 := Tryz.sizeOf9
  v9 := Tryz.zeroValue9
  t21 := Tryz.underlying21
  a21 := Tryz.isAgg21
  z21 := Tryz.sizeOf21
  v21 := Tryz.zeroValue21
  t46 := Tryz.underlying166
  a46 := Tryz.isAgg166
  z46 := Tryz.sizeOf166
  v46 := Tryz.zeroValue166
  t116 := Tryz.underlying242
  a116 := Tryz.isAgg242
  z116 := Tryz.sizeOf242
  t117 := Tryz.underlying243
  a117 := Tryz.isAgg243
  z117 := Tryz.sizeOf243
  v117 := Tryz.zeroValue243
  t124 := Tryz.underlying262
  a124 := Tryz.isAgg262
  z124 := Tryz.sizeOf262
  v124 := Tryz.zeroValue262 }
def Tryz.laysAtoi_ren : Go.Shelf.Ren := ⟨fun | 172 => 249 | 244 => 289 | 245 => 290 | 247 => 311 | 279 => 312 | 280 => 313 | 281 => 314 | 282 => 315 | 287 => 324 | 316 => 325 | 171 => 155 | 205 => 326 | 321 => 334 | 322 => 335 | 243 => 199 | 246 => 240 | 283 => 277 | 284 => 278 | 285 => 279 | 286 => 280 | 129 => 209 | 317 => 303 | 318 => 304 | 319 => 305 | 320 => 306 | 337 => 321 | 338 => 322 | n => n, fun | 9 => 9 | 3 => 3 | 75 => 217 | 76 => 218 | 4 => 4 | 5 => 5 | 167 => 263 | 37 => 22 | 0 => 0 | 85 => 264 | 2 => 2 | 168 => 266 | 53 => 193 | 175 => 271 | 46 => 166 | 210 => 274 | 127 => 285 | 145 => 288 | 143 => 286 | 21 => 21 | 171 => 234 | 173 => 236 | 212 => 259 | 51 => 191 | 20 => 20 | 213 => 260 | 232 => 283 | 233 => 284 | 80 => 282 | n => n, fun | 15 => 4 | 16 => 5 | 17 => 2 | 18 => 6 | 19 => 7 | n => n⟩
theorem Tryz.laysAtoi : Go.Proofs.LaysC.n172 Tryz.prog Tryz.laysAtoi_ren := {
  mixed := by kernel_rfl
  f129 := Tryz.func209.trans (congrArg some (by kernel_rfl))
  f171 := Tryz.func155.trans (congrArg some (by kernel_rfl))
  f172 := Tryz.func249.trans (congrArg some (by kernel_rfl))
  f205 := Tryz.func326.trans (congrArg some (by kernel_rfl))
  f243 := Tryz.func199.trans (congrArg some (by kernel_rfl))
  f244 := Tryz.func289.trans (congrArg some (by kernel_rfl))
  f245 := Tryz.func290.trans (congrArg some (by kernel_rfl))
  f246 := Tryz.func240.trans (congrArg some (by kernel_rfl))
  f247 := Tryz.func311.trans (congrArg some (by kernel_rfl))
  f279 := Tryz.func312.trans (congrArg some (by kernel_rfl))
  f280 := Tryz.func313.trans (congrArg some (by kernel_rfl))
  f281 := Tryz.func314.trans (congrArg some (by kernel_rfl))
  f282 := Tryz.func315.trans (congrArg some (by kernel_rfl))
  f283 := Tryz.func277.trans (congrArg some (by kernel_rfl))
  f284 := Tryz.func278.trans (congrArg some (by kernel_rfl))
  f285 := Tryz.func279.trans (congrArg some (by kernel_rfl))
  f286 := Tryz.func280.trans (congrArg some (by kernel_rfl))
  f287 := Tryz.func324.trans (congrArg some (by kernel_rfl))
  f316 := Tryz.func325.trans (congrArg some (by kernel_rfl))
  f317 := Tryz.func303.trans (congrArg some (by kernel_rfl))
  f318 := Tryz.func304.trans (congrArg some (by kernel_rfl))
  f319 := Tryz.func305.trans (congrArg some (by kernel_rfl))
  f320 := Tryz.func306.trans (congrArg some (by kernel_rfl))
  f321 := Tryz.func334.trans (congrArg some (by kernel_rfl))
  f322 := Tryz.func335.trans (congrArg some (by kernel_rfl))
  f337 := Tryz.func321.trans (congrArg some (by kernel_rfl))
  f338 := Tryz.func322.trans (congrArg some (by kernel_rfl))
  t0 := Tryz.underlying0
  a0 := Tryz.isAgg0
  z0 := Tryz.sizeOf0
  v0 := Tryz.zeroValue0
  t2 := Tryz.underlying2
  a2 := Tryz.isAgg2
  z2 := Tryz.sizeOf2
  v2 := Tryz.zeroValue2
  t3 := Tryz.underlying3
  a3 := Tryz.isAgg3
  z3 := Tryz.sizeOf3
  v3 := Tryz.zeroValue3
  t4 := Tryz.underlying4
  a4 := Tryz.isAgg4
  z4 := Tryz.sizeOf4
  v4 := Tryz.zeroValue4
  t5 := Tryz.underlying5
  a5 := Tryz.isAgg5
  z5 := Tryz.sizeOf5
  v5 := Tryz.zeroValue5
  t9 := Tryz.underlying9
  a9 := Tryz.isAgg9
  z9 := Tryz.sizeOf9
  v9 := Tryz.zeroValue9
  t20 := Tryz.underlying20
  a20 := Tryz.isAgg20
  z20 := Tryz.sizeOf20
  v20 := Tryz.zeroValue20
  t21 := Tryz.underlying21
  a21 := Tryz.isAgg21
  z21 := Tryz.sizeOf21
  v21 := Tryz.zeroValue21
  t37 := Tryz.underlying22
  a37 := Tryz.isAgg22
  z37 := Tryz.sizeOf22
  v37 := Tryz.zeroValue22
  t46 := Tryz.underlying166
  a46 := Tryz.isAgg166
  z46 := Tryz.sizeOf166
  v46 := Tryz.zeroValue166
  t51 := Tryz.underlying191
  a51 := Tryz.isAgg191
  z51 := Tryz.sizeOf191
  v51 := Tryz.zeroValue191
  t53 := Tryz.underlying193
  a53 := Tryz.isAgg193
  z53 := Tryz.sizeOf193
  v53 := Tryz.zeroValue193
  t75 := Tryz.underlying217
  a75 := Tryz.isAgg217
  z75 := Tryz.sizeOf217
  v75 := Tryz.zeroValue217
  t76 := Tryz.underlying218
  a76 := Tryz.isAgg218
  z76 := Tryz.sizeOf218
  v76 := Tryz.zeroValue218
  t85 := Tryz.underlying264
  a85 := Tryz.isAgg264
  z85 := Tryz.sizeOf264
  v85 := Tryz.zeroValue264
  t127 := Tryz.underlying285
  a127 := Tryz.isAgg285
  z127 := Tryz.sizeOf285
  v127 := Tryz.zeroValue285
  t143 := Tryz.underlying286
  a143 := Tryz.isAgg286
  z143 := Tryz.sizeOf286
  v143 := Tryz.zeroValue286
  t145 := Tryz.underlying288
  a145 := Tryz.isAgg288
  z145 := Tryz.sizeOf288
  v145 := Tryz.zeroValue288
  t167 := Tryz.underlying263
  a167 := Tryz.isAgg263
  z167 := Tryz.sizeOf263
  v167 := Tryz.zeroValue263
  t168 := Tryz.underlying266
  a168 := Tryz.isAgg266
  z168 := Tryz.sizeOf266
  v168 := Tryz.zeroValue266
  t171 := Tryz.underlying234
  a171 := Tryz.isAgg234
  z171 := Tryz.sizeOf234
  v171 := Tryz.zeroValue234
  t173 := Tryz.underlying236
  a173 := Tryz.isAgg236
  z173 := Tryz.sizeOf236
  v173 := Tryz.zeroValue236
  t175 := Tryz.underlying271
  a175 := Tryz.isAgg271
  z175 := Tryz.sizeOf271
  v175 := Tryz.zeroValue271
  t210 := Tryz.underlying274
  a210 := Tryz.isAgg274
  z210 := Tryz.sizeOf274
  v210 := Tryz.zeroValue274
  t212 := Tryz.underlying259
  a212 := Tryz.isAgg259
  z212 := Tryz.sizeOf259
  v212 := Tryz.zeroValue259
  t213 := Tryz.underlying260
  a213 := Tryz.isAgg260
  z213 := Tryz.sizeOf260
  t232 := Tryz.underlying283
  a232 := Tryz.isAgg283
  z232 := Tryz.sizeOf283
  v232 := Tryz.zeroValue283
  t233 := Tryz.underlying284
  a233 := Tryz.isAgg284
  z233 := Tryz.sizeOf284
  v233 := Tryz.zeroValue284
  g15 := by kernel_rfl
  g16 := by kernel_rfl
  g17 := by kernel_rfl
  g18 := by kernel_rfl
  g19 := by kernel_rfl
  t80 := Tryz.underlying282
  a80 := Tryz.isAgg282
  z80 := Tryz.sizeOf282
  v80 := Tryz.zeroValue282
  i0 := by kernel_rfl
  i2 := by kernel_rfl
  i3 := by kernel_rfl
  i4 := by kernel_rfl
  i5 := by kernel_rfl
  i9 := by kernel_rfl
  i20 := by kernel_rfl
  i21 := by kernel_rfl
  i37 := by kernel_rfl
  i46 := by kernel_rfl
  i51 := by kernel_rfl
  i53 := by kernel_rfl
  i75 := by kernel_rfl
  i76 := by kernel_rfl
  i80 := by kernel_rfl
  i85 := by kernel_rfl
  i127 := by kernel_rfl
  i143 := by kernel_rfl
  i145 := by kernel_rfl
  i167 := by kernel_rfl
  i168 := by kernel_rfl
  i171 := by kernel_rfl
  i173 := by kernel_rfl
  i175 := by kernel_rfl
  i210 := by kernel_rfl
  i212 := by kernel_rfl
  i232 := by kernel_rfl
  i233 := by kernel_rfl
  m15 := by kernel_rfl
  m16 := by kernel_rfl
  m17 := by kernel_rfl
  m18 := by kernel_rfl
  m19 := by kernel_rfl
  c0 := by kernel_rfl
  c2 := by kernel_rfl
  c3 := by kernel_rfl
  c4 := by kernel_rfl
  c5 := by kernel_rfl
  c9 := by kernel_rfl
  c20 := by kernel_rfl
  c21 := by kernel_rfl
  c37 := by kernel_rfl
  c46 := by kernel_rfl
  c51 := by kernel_rfl
  c53 := by kernel_rfl
  c75 := by kernel_rfl
  c76 := by kernel_rfl
  c80 := by kernel_rfl
  c85 := by kernel_rfl
  c127 := by kernel_rfl
  c143 := by kernel_rfl
  c145 := by kernel_rfl
  c167 := by kernel_rfl
  c168 := by kernel_rfl
  c171 := by kernel_rfl
  c173 := by kernel_rfl
  c175 := by kernel_rfl
  c210 := by kernel_rfl
  c212 := by kernel_rfl
  c213 := by kernel_rfl
  c232 := by kernel_rfl
  c233 := by kernel_rfl }
def Tryz.laysFF_ren : Go.Shelf.Ren := ⟨fun | 229 => 250 | n => n, fun | 9 => 9 | 40 => 221 | 31 => 46 | 152 => 249 | 3 => 3 | 0 => 0 | 4 => 4 | 21 => 21 | 154 => 251 | n => n, fun | n => n⟩
theorem Tryz.laysFF : Go.Proofs.Lays.n229 Tryz.prog Tryz.laysFF_ren := {
  mixed := by kernel_rfl
  f229 := Tryz.func250.trans (congrArg some (by kernel_rfl))
  t0 := Tryz.underlying0
  a0 := Tryz.isAgg0
  z0 := Tryz.sizeOf0
  v0 := Tryz.zeroValue0
  t3 := Tryz.underlying3
  a3 := Tryz.isAgg3
  z3 := Tryz.sizeOf3
  v3 := Tryz.zeroValue3
  t4 := Tryz.underlying4
  a4 := Tryz.isAgg4
  z4 := Tryz.sizeOf4
  v4 := Tryz.zeroValue4
  t9 := Tryz.underlying9
  a9 := Tryz.isAgg9
  z9 := Tryz.sizeOf9
  v9 := Tryz.zeroValue9
  t21 := Tryz.underlying21
  a21 := Tryz.isAgg21
  z21 := Tryz.sizeOf21
  v21 := Tryz.zeroValue21
  t31 := Tryz.underlying46
  a31 := Tryz.isAgg46
  z31 := Tryz.sizeOf46
  v31 := Tryz.zeroValue46
  t40 := Tryz.underlying221
  a40 := Tryz.isAgg221
  z40 := Tryz.sizeOf221
  v40 := Tryz.zeroValue221
  t152 := Tryz.underlying249
  a152 := Tryz.isAgg249
  z152 := Tryz.sizeOf249
  v152 := Tryz.zeroValue249
  t154 := Tryz.underlying251
  a154 := Tryz.isAgg251
  z154 := Tryz.sizeOf251
  v154 := Tryz.zeroValue251 }
def Tryz.laysRep_ren : Go.Shelf.Ren := ⟨fun | 155 => 292 | 154 => 317 | 138 => 327 | 165 => 328 | 143 => 329 | 166 => 330 | 197 => 331 | 169 => 332 | 195 => 336 | 218 => 337 | 240 => 338 | 241 => 339 | 219 => 340 | 260 => 341 | 276 => 342 | 277 => 343 | 217 => 323 | 225 => 310 | 224 => 309 | 267 => 344 | 266 => 333 | 314 => 345 | n => n, fun | 9 => 9 | 3 => 3 | 4 => 4 | 72 => 278 | 0 => 0 | 76 => 218 | 105 => 280 | 21 => 21 | 5 => 5 | 70 => 276 | 20 => 20 | 37 => 22 | 75 => 217 | 127 => 285 | 164 => 289 | 46 => 166 | 119 => 292 | 139 => 295 | 138 => 294 | 146 => 296 | 51 => 191 | 80 => 282 | n => n, fun | 1 => 3 | 3 => 8 | 4 => 9 | n => n⟩
theorem Tryz.laysRep : Go.Proofs.Lays.n155 Tryz.prog Tryz.laysRep_ren := {
  mixed := by kernel_rfl
  f138 := Tryz.func327.trans (congrArg some (by kernel_rfl))
  f143 := Tryz.func329.trans (congrArg some (by kernel_rfl))
  f154 := Tryz.func317.trans (congrArg some (by kernel_rfl))
  f155 := Tryz.func292.trans (congrArg some (by kernel_rfl))
  f165 := Tryz.func328.trans (congrArg some (by kernel_rfl))
  f166 := Tryz.func330.trans (congrArg some (by kernel_rfl))
  f169 := Tryz.func332.trans (congrArg some (by kernel_rfl))
  f195 := Tryz.func336.trans (congrArg some (by kernel_rfl))
  f197 := Tryz.func331.trans (congrArg some (by kernel_rfl))
  f217 := Tryz.func323.trans (congrArg some (by kernel_rfl))
  f218 := Tryz.func337.trans (congrArg some (by kernel_rfl))
  f219 := Tryz.func340.trans (congrArg some (by kernel_rfl))
  f224 := Tryz.func309.trans (congrArg some (by kernel_rfl))
  f225 := Tryz.func310.trans (congrArg some (by kernel_rfl))
  f240 := Tryz.func338.trans (congrArg some (by kernel_rfl))
  f241 := Tryz.func339.trans (congrArg some (by kernel_rfl))
  f260 := Tryz.func341.trans (congrArg some (by kernel_rfl))
  f266 := Tryz.func333.trans (congrArg some (by kernel_rfl))
  f267 := Tryz.func344.trans (congrArg some (by kernel_rfl))
  f276 := Tryz.func342.trans (congrArg some (by kernel_rfl))
  f277 := Tryz.func343.trans (congrArg some (by kernel_rfl))
  f314 := Tryz.func345.trans (congrArg some (by kernel_rfl))
  t0 := Tryz.underlying0
  a0 := Tryz.isAgg0
  z0 := Tryz.sizeOf0
  v0 := Tryz.zeroValue0
  t3 := Tryz.underlying3
  a3 := Tryz.isAgg3
  z3 := Tryz.sizeOf3
  v3 := Tryz.zeroValue3
  t4 := Tryz.underlying4
  a4 := Tryz.isAgg4
  z4 := Tryz.sizeOf4
  v4 := Tryz.zeroValue4
  t5 := Tryz.underlying5
  a5 := Tryz.isAgg5
  z5 := Tryz.sizeOf5
  v5 := Tryz.zeroValue5
  t9 := Tryz.underlying9
  a9 := Tryz.isAgg9
  z9 := Tryz.sizeOf9
  v9 := Tryz.zeroValue9
  t20 := Tryz.underlying20
  a20 := Tryz.isAgg20
  z20 := Tryz.sizeOf20
  v20 := Tryz.zeroValue20
  t21 := Tryz.underlying21
  a21 := Tryz.isAgg21
  z21 := Tryz.sizeOf21
  v21 := Tryz.zeroValue21
  t37 := Tryz.underlying22
  a37 := Tryz.isAgg22
  z37 := Tryz.sizeOf22
  v37 := Tryz.zeroValue22
  t46 := Tryz.underlying166
  a46 := Tryz.isAgg166
  z46 := Tryz.sizeOf166
  v46 := Tryz.zeroValue166
  t51 := Tryz.underlying191
  a51 := Tryz.isAgg191
  z51 := Tryz.sizeOf191
  v51 := Tryz.zeroValue191
  t70 := Tryz.underlying276
  a70 := Tryz.isAgg276
  z70 := Tryz.sizeOf276
  v70 := Tryz.zeroValue276
  t72 := Tryz.underlying278
  a72 := Tryz.isAgg278
  z72 := Tryz.sizeOf278
  v72 := Tryz.zeroValue278
  t75 := Tryz.underlying217
  a75 := Tryz.isAgg217
  z75 := Tryz.sizeOf217
  v75 := Tryz.zeroValue217
  t76 := Tryz.underlying218
  a76 := Tryz.isAgg218
  z76 := Tryz.sizeOf218
  v76 := Tryz.zeroValue218
  t105 := Tryz.underlying280
  a105 := Tryz.isAgg280
  z105 := Tryz.sizeOf280
  v105 := Tryz.zeroValue280
  t119 := Tryz.underlying292
  a119 := Tryz.isAgg292
  z119 := Tryz.sizeOf292
  t127 := Tryz.underlying285
  a127 := Tryz.isAgg285
  z127 := Tryz.sizeOf285
  v127 := Tryz.zeroValue285
  t138 := Tryz.underlying294
  a138 := Tryz.isAgg294
  z138 := Tryz.sizeOf294
  v138 := Tryz.zeroValue294
  t139 := Tryz.underlying295
  a139 := Tryz.isAgg295
  z139 := Tryz.sizeOf295
  v139 := Tryz.zeroValue295
  t146 := Tryz.underlying296
  a146 := Tryz.isAgg296
  z146 := Tryz.sizeOf296
  v146 := Tryz.zeroValue296
  t164 := Tryz.underlying289
  a164 := Tryz.isAgg289
  z164 := Tryz.sizeOf289
  v164 := Tryz.zeroValue289
  g1 := by kernel_rfl
  g3 := by kernel_rfl
  g4 := by kernel_rfl }
def Tryz.laysMax_ren : Go.Shelf.Ren := ⟨fun | 219 => 340 | 217 => 323 | 225 => 310 | 224 => 309 | 267 => 344 | 266 => 333 | 314 => 345 | n => n, fun | 9 => 9 | 3 => 3 | 4 => 4 | 5 => 5 | 46 => 166 | 146 => 296 | 51 => 191 | n => n, fun | 1 => 3 | n => n⟩
theorem Tryz.laysMax : Go.Proofs.LaysM.n219 Tryz.prog Tryz.laysMax_ren := {
  mixed := by kernel_rfl
  f217 := Tryz.func323.trans (congrArg some (by kernel_rfl))
  f219 := Tryz.func340.trans (congrArg some (by kernel_rfl))
  f224 := Tryz.func309.trans (congrArg some (by kernel_rfl))
  f225 := Tryz.func310.trans (congrArg some (by kernel_rfl))
  f266 := Tryz.func333.trans (congrArg some (by kernel_rfl))
  f267 := Tryz.func344.trans (congrArg some (by kernel_rfl))
  f314 := Tryz.func345.trans (congrArg some (by kernel_rfl))
  t3 := Tryz.underlying3
  a3 := Tryz.isAgg3
  z3 := Tryz.sizeOf3
  v3 := Tryz.zeroValue3
  t4 := Tryz.underlying4
  a4 := Tryz.isAgg4
  z4 := Tryz.sizeOf4
  v4 := Tryz.zeroValue4
  t5 := Tryz.underlying5
  a5 := Tryz.isAgg5
  z5 := Tryz.sizeOf5
  v5 := Tryz.zeroValue5
  t9 := Tryz.underlying9
  a9 := Tryz.isAgg9
  z9 := Tryz.sizeOf9
  v9 := Tryz.zeroValue9
  t46 := Tryz.underlying166
  a46 := Tryz.isAgg166
  z46 := Tryz.sizeOf166
  v46 := Tryz.zeroValue166
  t51 := Tryz.underlying191
  a51 := Tryz.isAgg191
  z51 := Tryz.sizeOf191
  v51 := Tryz.zeroValue191
  t146 := Tryz.underlying296
  a146 := Tryz.isAgg296
  z146 := Tryz.sizeOf296
  v146 := Tryz.zeroValue296
  g1 := by kernel_rfl
  i3 := by kernel_rfl
  i4 := by kernel_rfl
  i5 := by kernel_rfl
  i9 := by kernel_rfl
  i46 := by kernel_rfl
  i51 := by kernel_rfl
  i146 := by kernel_rfl
  m1 := by kernel_rfl
  s1_3 := fun w h => Go.Proofs.cell_of_shapedOpen_int (zero := #[.int .i64 0]) (t := 3) h (of_decide_eq_true (by kernel_rfl)) (by kernel_rfl) rfl (by kernel_rfl) (by kernel_rfl) Tryz.underlying3 }
theorem Tryz.extraRep : Builder.Extra Tryz.prog Tryz.laysRep_ren := {
  sizeBuilder := by kernel_rfl
  liesBuilder := by kernel_rfl
  t5 := Tryz.underlying5
  a5 := Tryz.isAgg5
  z5 := Tryz.sizeOf5
  v5 := Tryz.zeroValue5
  infoByte := by kernel_rfl
  cellsByte := by kernel_rfl
  sizeByte := by kernel_rfl
  neB5 := by decide }
end Go.Proofs
/- The package variables that the program reads, as facts on a world. No statement of the seat is proved here. -/
namespace Go.Proofs.YtcodfkieaoomnaaGreatDoor
open Go.RowKit Go.Sort
set_option linter.unusedVariables false

/-- the codes of the letters, as the program's text lays them -/
def sndL : List Int := [0, 1, 2, 3, 0, 1, 2, -1, 0, 2, 2, 4, 5, 5, 0, 1, 2, 6, 2, 3, 0, 1, -1, 2, 0, 2]
def sndName : String := "loop.example/g01923/impl.soundCodes"
structure GTab (w : World) : Prop where
  snd : Lib.TabIs Tryz.prog w sndName .i64 sndL
  pow : Lib.TabIs Tryz.prog w "internal/strconv.uint64pow10" .u64 Lib.pow10Tab
  eS : ∃ t p, w.var? Tryz.prog "strconv.ErrSyntax" = some #[.iface t p]
  eR : ∃ t p, w.var? Tryz.prog "strconv.ErrRange" = some #[.iface t p]
  mx : ∃ m, w.cell? ⟨3, 0, none⟩ = some (.int .i64 m)
theorem var_fr {P : Program} {w w' : World} {n : String} {cs : Array Value} (h : w.var? P n = some cs) (hf : Fr w w') : w'.var? P n = some cs := by
  unfold World.var? at *
  cases hg : P.globalNamed n with
  | none => rw [hg] at h; cases h
  | some g =>
    rw [hg] at h
    simp only [Option.bind_some] at h ⊢
    have hlt : g < w.heap.size := by
      rcases Nat.lt_or_ge g w.heap.size with hlt | hge
      · exact hlt
      · rw [Array.getElem?_eq_none hge] at h
        cases h
    rw [hf.block g hlt]
    exact h
theorem GTab.fr {w w' : World} (h : GTab w) (hf : Fr w w') : GTab w' where
  snd := var_fr h.snd hf
  pow := var_fr h.pow hf
  eS := let ⟨t, p, e⟩ := h.eS; ⟨t, p, var_fr e hf⟩
  eR := let ⟨t, p, e⟩ := h.eR; ⟨t, p, var_fr e hf⟩
  mx := let ⟨m, e⟩ := h.mx; ⟨m, (hf.cell (p := ⟨3, 0, none⟩) (cell_lt' e)).trans e⟩
theorem var_cell {P : Program} {w : World} {n : String} {cs : Array Value} {g : Nat} (h : w.var? P n = some cs) (hg : P.globalNamed n = some g) {i : Nat} {v : Value} (hi : cs[i]? = some v) : w.cell? ⟨g, i, none⟩ = some v := by
  have := World.var?_cell hg h i
  rw [this, hi]
section
variable {P : Program} {R : Reg} {w : World} {d : Option Nat} {t : TypeId} {p : String} {af : Array Edge} {g : Option (Nat × Bool)}
theorem of_indexAddr_g {T e n gb : Nat} {ix : Operand} {k : IntKind} {i : Int} (hi : evalR R ix = .int k i) (hu : P.underlying T = some (.array n e)) (hsz : ∀ w, (sizeOf e).run P w = .ok 1 w) (hr : inR i n = true) :
    OpF P ⟨d, .indexAddr T (.global gb) ix, t, p, af, g⟩ R w (.raw (.pointer (some ⟨gb, i.toNat, none⟩))) := by
  obtain ⟨i0, i1⟩ := inR_iff.1 hr
  refine opr_val (v := .pointer (some ⟨gb, i.toNat, none⟩)) (w' := w) ?_ ⟨rfl, Fr.refl _⟩
  have hadd : ∀ j, (⟨gb, 0, none⟩ : Addr).add j = ⟨gb, j, none⟩ := fun j => by
    unfold Addr.add
    split
    · rename_i h; subst h; rfl
    · simp
  have hg' : evalR R (.global gb) = .pointer (some ⟨gb, 0, none⟩) := rfl
  simp [execOp, Instr.indexAt, Instr.sureAddr, hg', hi, asIntOf, underlying, hu, i0, i1, hsz, hadd]
end
end Go.Proofs.YtcodfkieaoomnaaGreatDoor
/- How an argument of a law reads: relations between the cells of a value and plain Lean data, and their proofs off the form's own reading. No statement of the seat is proved here. -/
namespace Go.Proofs.YtcodfkieaoomnaaGreatDoor
open Go.RowKit Go.ChangeShapes Go.WideShapes Go.Deep

/-- 'R w B x cs': in w the cells cs hold x, all that they lead to lies below block B -/
abbrev Rel (α : Type) := World → Nat → α → List Value → Prop
def I64 (n : Int) : Prop := (Lit.int .i64 n).wf = true
def intR : Rel Int := fun _ _ n cs => cs = [.int .i64 n] ∧ I64 n
def strR : Rel ByteArray := fun _ _ s cs => cs = [.string s] ∧ s.size ≤ maxLen
def slR {α : Type} (k : Nat) (R : Rel α) : Rel (List α) := fun w B l cs =>
  ∃ (A : Option Addr) (n c : Nat) (es : List (List Value)), cs = [.slice A n c] ∧ n = l.length ∧ n ≤ c ∧ c ≤ maxLen ∧ es.length = l.length ∧ Rd w B k A n es.flatten ∧
    ∀ (i : Nat) x e, l[i]? = some x → es[i]? = some e → e.length = k ∧ R w B x e
def st4R {α β γ δ : Type} (R : Rel α) (S : Rel β) (T : Rel γ) (U : Rel δ) : Rel (α × β × γ × δ) := fun w B x cs =>
  ∃ v u y z, cs = [v, u, y, z] ∧ R w B x.1 [v] ∧ S w B x.2.1 [u] ∧ T w B x.2.2.1 [y] ∧ U w B x.2.2.2 [z]

def Opens {α : Type} (P : Program) (t : TypeId) (R : Rel α) : Prop :=
  ∀ {H : Type} (enc : TypeId × Value → H) (w : World) (fuel : Nat) (cs : List Value) (x : DataW H × List MemPlace), DataW.trod enc P w 0 (fun _ => true) true fuel t cs = some x → ∃ a, R w w.heap.size a cs

section
variable {P : Program}
theorem opens_int {t : TypeId} (ht : P.underlying t = some (.int .i64)) : Opens P t intR := fun enc w fuel cs x h => by
  obtain ⟨n, h1, _, h2⟩ := DataW.trod_int ht h
  exact ⟨n, h1, h2⟩
theorem opens_str {t : TypeId} (ht : P.underlying t = some .string) : Opens P t strR := fun enc w fuel cs x h => by
  obtain ⟨s, h1, _, h2⟩ := DataW.trod_string ht h
  exact ⟨s, h1, h2⟩
theorem cell_lt {w : World} {a : Addr} {v : Value} (h : w.cell? a = some v) : a.block < w.heap.size := by
  rcases Nat.lt_or_ge a.block w.heap.size with hlt | hge
  · exact hlt
  · unfold World.cell? at h
    rw [Array.getElem?_eq_none hge] at h
    cases h

/-- n lists of k cells, chosen one by one -/
theorem choose_rows {α : Type} (n : Nat) (Q : Nat → List Value → α → Prop) (h : ∀ i, i < n → ∃ cs a, Q i cs a) :
    ∃ (es : List (List Value)) (l : List α), es.length = n ∧ l.length = n ∧ ∀ i x e, l[i]? = some x → es[i]? = some e → Q i e x := by
  induction n with
  | zero => exact ⟨[], [], rfl, rfl, fun i x e h => by simp at h⟩
  | succ n ih =>
    obtain ⟨es, l, h1, h2, h3⟩ := ih fun i hi => h i (by omega)
    obtain ⟨cs, a, hq⟩ := h n (by omega)
    refine ⟨es ++ [cs], l ++ [a], by simp [h1], by simp [h2], fun i x e hx he => ?_⟩
    by_cases hi : i < n
    · rw [List.getElem?_append_left (by omega)] at hx he
      exact h3 i x e hx he
    · by_cases hn : i = n
      · subst hn
        rw [List.getElem?_append_right (by omega)] at hx he
        simp [h1, h2] at hx he
        subst hx he
        exact hq
      · rw [List.getElem?_eq_none (by simp [h2]; omega)] at hx
        cases hx

theorem flatten_at {k : Nat} (hk : 0 < k) : ∀ (es : List (List Value)), (∀ e ∈ es, e.length = k) → ∀ j, es.flatten[j]? = (es[j / k]?).bind fun e => e[j % k]?
  | [], _, j => by simp
  | e :: es, he, j => by
    have hl := he e (by simp)
    rw [List.flatten_cons]
    by_cases hj : j < k
    · rw [List.getElem?_append_left (by omega), Nat.div_eq_of_lt hj, Nat.mod_eq_of_lt hj]
      rfl
    · rw [List.getElem?_append_right (by omega), hl, flatten_at hk es (fun e h => he e (by simp [h])) (j - k)]
      have h1 : j / k = (j - k) / k + 1 := by
        rw [Nat.div_eq_sub_div hk (by omega)]
      have h2 : j % k = (j - k) % k := by
        rw [Nat.mod_eq_sub_mod (by omega)]
      rw [h1, h2]
      rfl
theorem flatten_length {k : Nat} : ∀ (es : List (List Value)), (∀ e ∈ es, e.length = k) → es.flatten.length = es.length * k
  | [], _ => by simp
  | e :: es, he => by
    rw [List.flatten_cons, List.length_append, flatten_length es (fun e h => he e (by simp [h])), he e (by simp), List.length_cons, Nat.add_mul, Nat.one_mul, Nat.add_comm]

theorem opens_slice {α : Type} {t e : TypeId} {k : Nat} {R : Rel α} (ht : P.underlying t = some (.slice e)) (hC : P.cellsOf e = k) (hk : 0 < k) (hR : Opens P e R) : Opens P t (slR k R) := fun enc w fuel cs x h => by
  rcases open_slice ht h with ⟨rfl, _⟩ | ⟨a, len, cap, m, n, D, Pl, rfl, _, hl, hm, hmm, _, hi⟩
  · exact ⟨[], none, 0, 0, [], rfl, rfl, Nat.le_refl _, Nat.zero_le _, rfl, ⟨by simp, fun h => absurd h (by omega)⟩, fun i x e h => by simp at h⟩
  · simp only [if_true] at hmm
    subst hmm
    rw [hC] at hi
    obtain ⟨es, l, h1, h2, h3⟩ := choose_rows len (fun i cs x => cs.length = k ∧ (∀ j, j < k → w.cell? ((a.add (i * k)).add j) = cs[j]?) ∧ R w w.heap.size x cs) fun i hlt => by
      obtain ⟨cs', hc, ht'⟩ := hi i (by omega)
      obtain ⟨_, hcl, hat⟩ := World.cells?_some hc
      obtain ⟨x, hx⟩ := hR enc w n cs' _ ht'
      exact ⟨cs', x, hcl, hat, hx⟩
    have hall : ∀ e ∈ es, e.length = k := fun e he => by
      obtain ⟨i, hi', he'⟩ := List.getElem_of_mem he
      exact (h3 i (l[i]'(by omega)) e (List.getElem?_eq_getElem (by omega)) (by rw [← he']; exact List.getElem?_eq_getElem hi')).1
    refine ⟨l, some a, len, m, es, rfl, h2.symm, hl, hm, by omega, ⟨by rw [flatten_length es hall, h1], fun hn => ?_⟩, fun i x e hx he => ⟨(h3 i x e hx he).1, (h3 i x e hx he).2.2⟩⟩
    obtain ⟨b, off, spot⟩ := a
    have key : ∀ j u, es.flatten[j]? = some u → w.cell? ((⟨b, off, spot⟩ : Addr).add j) = some u := by
      intro j u hu
      rw [flatten_at hk es hall] at hu
      have hjl : j / k < es.length := by
        rcases Nat.lt_or_ge (j / k) es.length with h | h
        · exact h
        · rw [List.getElem?_eq_none h] at hu
          simp at hu
      rw [List.getElem?_eq_getElem hjl] at hu
      have hq := h3 (j / k) (l[j / k]'(by omega)) es[j / k] (List.getElem?_eq_getElem (by omega)) (List.getElem?_eq_getElem hjl)
      have hm := hq.2.1 (j % k) (Nat.mod_lt _ hk)
      rw [Go.Deep.add_add] at hm
      rw [Nat.mul_comm, Nat.div_add_mod] at hm
      rw [hm]
      exact hu
    have h0 : ∃ u, es.flatten[0]? = some u := by
      have hlen := flatten_length es hall
      have : 0 < es.flatten.length := by rw [hlen, h1]; exact Nat.mul_pos hn hk
      exact ⟨_, List.getElem?_eq_getElem this⟩
    obtain ⟨u0, hu0⟩ := h0
    have hc0 := key 0 u0 hu0
    have hspot : spot = none := by simpa [Addr.add] using World.cell?_spot hc0
    subst hspot
    refine ⟨b, off, rfl, by simpa [Addr.add] using cell_lt hc0, fun j u hu => ?_⟩
    have := key j u hu
    unfold Addr.add at this
    split at this
    · next hj => subst hj; simpa using this
    · exact this

/-- the fields of a struct, each of one cell -/
theorem struct_fields {H : Type} {enc : TypeId × Value → H} {w : World} {fuel : Nat} {cs : List Value} {x : DataW H × List MemPlace} {t : TypeId} {fs : Array Field}
    (ht : P.underlying t = some (.struct fs)) (hone : oneCellFields P fs = true) (hC : P.cellsOf t = fs.size) (h : DataW.trod enc P w 0 (fun _ => true) true fuel t cs = some x) :
    cs.length = fs.size ∧ ∃ n, ∀ (j : Nat) (f : Field) (v : Value), fs[j]? = some f → cs[j]? = some v → ∃ y, DataW.trod enc P w 0 (fun _ => true) true n f.type [v] = some y := by
  obtain ⟨xs, n, _, _, hl, hx, hg⟩ := DataW.trod_struct ht h
  refine ⟨hl.trans hC, n, fun j f v hj hv => ?_⟩
  obtain ⟨ho, hk⟩ := hone_of hone j f hj
  have h1 := hg j f hj
  rw [ho, hk] at h1
  have hjl : j < cs.length := (List.getElem?_eq_some_iff.1 hv).1
  have e1 : (cs.drop j).take 1 = [v] := by
    rw [List.drop_eq_getElem_cons hjl, List.getElem?_eq_getElem hjl] at *
    simp only [Option.some.injEq] at hv
    rw [hv]
    rfl
  rw [e1] at h1
  have hjs : j < xs.length := by rw [hx]; exact (Array.getElem?_eq_some_iff.1 hj).1
  exact ⟨xs[j], h1.trans (List.getElem?_eq_getElem hjs)⟩

theorem opens_st4 {α β γ δ : Type} {t : TypeId} {f0 f1 f2 f3 : Field} {R : Rel α} {S : Rel β} {T : Rel γ} {U : Rel δ} (ht : P.underlying t = some (.struct #[f0, f1, f2, f3])) (hone : oneCellFields P #[f0, f1, f2, f3] = true) (hC : P.cellsOf t = 4)
    (h0 : Opens P f0.type R) (h1 : Opens P f1.type S) (h2 : Opens P f2.type T) (h3 : Opens P f3.type U) : Opens P t (st4R R S T U) := fun enc w fuel cs x h => by
  obtain ⟨hl, n, hf⟩ := struct_fields ht hone hC h
  match cs, hl with
  | [v, u, z, q], _ =>
    obtain ⟨y, hy⟩ := hf 0 f0 v rfl rfl
    obtain ⟨a, ha⟩ := h0 enc w n _ y hy
    obtain ⟨y, hy⟩ := hf 1 f1 u rfl rfl
    obtain ⟨b, hb⟩ := h1 enc w n _ y hy
    obtain ⟨y, hy⟩ := hf 2 f2 z rfl rfl
    obtain ⟨c, hc⟩ := h2 enc w n _ y hy
    obtain ⟨y, hy⟩ := hf 3 f3 q rfl rfl
    obtain ⟨d, hd⟩ := h3 enc w n _ y hy
    exact ⟨(a, b, c, d), v, u, z, q, rfl, ha, hb, hc, hd⟩

/-- an argument of a struct's type -/
theorem arg_struct {α : Type} {H : Type} {enc : TypeId × Value → H} {r : Reach} {b0 : Nat} {w : World} {t : TypeId} {fs : Array Field} {R : Rel α} {v : Value} {d : DataW H} {p : List MemPlace} (ht : P.underlying t = some (.struct fs)) (ho : Opens P t R)
    (hv : Value.okWide P w r b0 t v) (h : DataW.Trod enc P w 0 (fun _ => true) true t v d p) :
    ∃ l x, v = .agg l.toArray ∧ R w w.heap.size x l := by
  obtain ⟨cs, rfl, _⟩ := okWide_struct ht hv
  obtain ⟨fuel, hf⟩ := h
  obtain ⟨x, hx⟩ := ho enc w fuel _ _ hf
  exact ⟨cs.toList, x, by simp, by simpa [Value.cells] using hx⟩
end
end Go.Proofs.YtcodfkieaoomnaaGreatDoor
/- From the row's list of package variables to the tables that the walk reads. No statement of the seat is proved here. -/
namespace Go.Proofs.YtcodfkieaoomnaaGreatDoor
open Go.RowKit
set_option linter.unusedVariables false

theorem laidVar_at {P : Program} {w : World} : ∀ (l : List (String × DataW Unit)) (ps : List MemPlace), DataW.LaidVars P w l ps → ∀ (i : Nat) n d, l[i]? = some (n, d) →
    ∃ g t cs fuel p, P.globalNamed n = some g ∧ (P.globals[g]?).map (·.type) = some t ∧ w.var? P n = some cs ∧ DataW.trod (fun _ => ()) P w 0 (fun _ => true) false fuel t cs.toList = some (d, p)
  | [], _, _, i, n, d, hi => by simp at hi
  | (n', d') :: r, ps, h, 0, n, d, hi => by
    obtain ⟨g, t, cs, fuel, p, q, h1, h2, h3, h4, _, _⟩ := h
    simp only [List.getElem?_cons_zero, Option.some.injEq, Prod.mk.injEq] at hi
    obtain ⟨rfl, rfl⟩ := hi
    exact ⟨g, t, cs, fuel, p, h1, h2, h3, h4⟩
  | (n', d') :: r, ps, h, i + 1, n, d, hi => by
    obtain ⟨g, t, cs, fuel, p, q, _, _, _, _, h5, _⟩ := h
    exact laidVar_at r q h5 i n d (by simpa using hi)
theorem drop_laid {P : Program} {W : World} : ∀ (i : Nat) (l : List (String × DataW Unit)), laidMet P l W → laidMet P (l.drop i) W
  | 0, l, h => h
  | i + 1, [], h => h
  | i + 1, x :: l, h => drop_laid i l h.tail
theorem drop_at {α : Type} : ∀ (i : Nat) (l : List α) (x : α), l[i]? = some x → ∃ r, l.drop i = x :: r
  | 0, y :: l, x, h => by simp at h; subst h; exact ⟨l, rfl⟩
  | i + 1, y :: l, x, h => drop_at i l x (by simpa using h)
  | 0, [], x, h => by simp at h
  | i + 1, [], x, h => by simp at h
theorem gSndG : Tryz.prog.globalNamed sndName = some 1 := by kernel_rfl
theorem tSndG : (Tryz.prog.globals[1]?).map (·.type) = some 247 := by kernel_rfl
theorem cSndG : Tryz.prog.cellsOf 247 = 26 := by kernel_rfl
theorem cIntG : Tryz.prog.cellsOf 3 = 1 := by kernel_rfl
theorem cStrG : Tryz.prog.cellsOf 9 = 1 := by kernel_rfl
theorem gPowG : Tryz.prog.globalNamed "internal/strconv.uint64pow10" = some 2 := by kernel_rfl
theorem tPowG : (Tryz.prog.globals[2]?).map (·.type) = some 259 := by kernel_rfl
theorem cPowG : Tryz.prog.cellsOf 259 = 20 := by kernel_rfl
theorem cU64G : Tryz.prog.cellsOf 193 = 1 := by kernel_rfl
theorem gESG : Tryz.prog.globalNamed "strconv.ErrSyntax" = some 4 := by kernel_rfl
theorem gERG : Tryz.prog.globalNamed "strconv.ErrRange" = some 5 := by kernel_rfl
theorem tESG : (Tryz.prog.globals[4]?).map (·.type) = some 217 := by kernel_rfl
theorem tERG : (Tryz.prog.globals[5]?).map (·.type) = some 217 := by kernel_rfl
theorem starG : "*" ++ "errors.errorString" = "*errors.errorString" := by decide
theorem rowErrG (u : TypeId) (h : Tryz.prog.typeName? 3 u = some "*errors.errorString") : u = 286 :=
  typeName_ptr_named (nm := "errors.errorString") (by rw [starG]; kernel_rfl) (by kernel_rfl) (by decide) u (by rw [starG]; exact h)
theorem cErrG : Tryz.prog.cellsOf 288 = 1 := by kernel_rfl
theorem err_of {l : List (String × DataW Unit)} {W : World} {n : String} {g : Nat} {text : List UInt8} (h : laidMet Tryz.prog l W) (i : Nat) (hi : l[i]? = some (n, .iface "*errors.errorString" (.ptr (.agg [.lit (.string text)])))) (hg : Tryz.prog.globalNamed n = some g) (ht : (Tryz.prog.globals[g]?).map (·.type) = some 217) : ∃ t p, W.var? Tryz.prog n = some #[.iface t p] := by
  obtain ⟨r, hr⟩ := drop_at i l _ hi
  have h2 := hr ▸ drop_laid i l h
  obtain ⟨a, s, hv, _⟩ := laid_sentinel h2 hg ht Tryz.underlying217 rowErrG Tryz.underlying286 Tryz.underlying288 rfl rfl Tryz.underlying9 cErrG cStrG
  exact ⟨_, _, hv⟩
theorem gtab_of {l : List (String × DataW Unit)} {W : World} (h : laidMet Tryz.prog l W) (hSh : W.ShapedOpen Tryz.prog) (i j k q : Nat) (h1 : l[i]? = some (sndName, Lib.tabData .i64 sndL)) (h2 : l[j]? = some ("internal/strconv.uint64pow10", Lib.tabData .u64 Lib.pow10Tab))
    (h3 : l[k]? = some ("strconv.ErrSyntax", .iface "*errors.errorString" (.ptr (.agg [.lit (.string [105, 110, 118, 97, 108, 105, 100, 32, 115, 121, 110, 116, 97, 120])])))) (h4 : l[q]? = some ("strconv.ErrRange", .iface "*errors.errorString" (.ptr (.agg [.lit (.string [118, 97, 108, 117, 101, 32, 111, 117, 116, 32, 111, 102, 32, 114, 97, 110, 103, 101])])))) : GTab W := by
  have h0 := h
  obtain ⟨ps, hl, _⟩ := h
  exact {
    snd := by
      obtain ⟨g, t, cs, fuel, p, hg, ht, hv, hd⟩ := laidVar_at l ps hl i _ _ h1
      obtain rfl := Option.some.inj (gSndG.symm.trans hg)
      obtain rfl := Option.some.inj (tSndG.symm.trans ht)
      unfold Lib.TabIs
      rw [hv, ← Lib.cells_of_tab Tryz.underlying247 Tryz.underlying3 cIntG cSndG hd]
    pow := by
      obtain ⟨g, t, cs, fuel, p, hg, ht, hv, hd⟩ := laidVar_at l ps hl j _ _ h2
      obtain rfl := Option.some.inj (gPowG.symm.trans hg)
      obtain rfl := Option.some.inj (tPowG.symm.trans ht)
      unfold Lib.TabIs
      rw [hv, ← Lib.cells_of_tab Tryz.underlying259 Tryz.underlying193 cU64G cPowG hd]
    eS := err_of h0 k h3 gESG tESG
    eR := err_of h0 q h4 gERG tERG
    mx := Tryz.laysMax.s1_3 W hSh
  }
end Go.Proofs.YtcodfkieaoomnaaGreatDoor
/- Closed facts on the program that every frame of a law over the table takes. -/
namespace Go.Proofs.YtcodfkieaoomnaaGreatDoor
open Go.RowKit
theorem own : ownKnob Tryz.prog.godebug = none := by kernel_rfl
theorem enters : Tryz.pinned.checked.prog.mayEnter = true := by kernel_rfl
theorem liftsNo : Tryz.pinned.checked.prog.liftsFinal = false := by kernel_rfl
theorem heardT : Tryz.pinned.checked.prog.stopsHeard = true := by kernel_rfl
theorem laidOut : laidOutB Tryz.prog = true := by kernel_rfl
end Go.Proofs.YtcodfkieaoomnaaGreatDoor
/- From the relations of a law's arguments (Rep) to the readings of printed proofs (Enc), with what the relation says of the numbers. No statement of the seat is proved here. -/
namespace Go.Proofs.YtcodfkieaoomnaaGreatDoor
open Go.RowKit
set_option linter.unusedVariables false

/-- cells that R reads as x, E reads as f x, and Q holds of f x -/
structure Br {α β : Type} (R : Rel α) (E : Enc β) (f : α → β) (Q : β → Prop) : Prop where
  get : ∀ {w : World} {x : α} {cs : List Value}, R w w.heap.size x cs → E.rep av0 w (f x) cs ∧ Q (f x)
def qI (n : Int) : Prop := -9223372036854775808 ≤ n ∧ n ≤ 9223372036854775807
def qS {α : Type} (Q : α → Prop) (l : List α) : Prop := l.length ≤ maxLen ∧ ∀ x ∈ l, Q x
def qP {α β : Type} (Q : α → Prop) (S : β → Prop) (x : α × β) : Prop := Q x.1 ∧ S x.2
def qB (s : List UInt8) : Prop := s.length ≤ maxLen
def f2 {α β γ δ : Type} (f : α → γ) (g : β → δ) (x : α × β) : γ × δ := (f x.1, g x.2)
theorem br_int : Br intR (eInt .i64) id qI := Br.mk fun {w x cs} h => ⟨h.1, by
  have := h.2
  unfold I64 at this
  have a : IntKind.i64.min = -9223372036854775808 := by decide
  have b : IntKind.i64.max = 9223372036854775807 := by decide
  simp [Lit.wf] at this
  unfold qI id
  omega⟩
theorem br_str : Br strR eStr (fun s => s.data.toList) qB := Br.mk fun {w x cs} h => ⟨⟨x, h.1, rfl, h.2⟩, by
  unfold qB
  rw [Array.length_toList]
  exact h.2⟩
theorem flatten_get {α : Type} {k : Nat} : ∀ {es : List (List α)}, (∀ e ∈ es, e.length = k) → ∀ (i j : Nat) e u, es[i]? = some e → e[j]? = some u → es.flatten[i * k + j]? = some u
  | [], _, i, j, e, u, h, _ => by simp at h
  | e0 :: es, hk, 0, j, e, u, h, hu => by
    obtain rfl : e0 = e := by simpa using h
    rw [List.flatten_cons, Nat.zero_mul, Nat.zero_add, List.getElem?_append_left (List.getElem?_eq_some_iff.1 hu).1]
    exact hu
  | e0 :: es, hk, i + 1, j, e, u, h, hu => by
    have h0 : e0.length = k := hk e0 (List.mem_cons_self ..)
    have h' : es[i]? = some e := by simpa using h
    have := flatten_get (fun e he => hk e (List.mem_cons_of_mem _ he)) i j e u h' hu
    have hs : (i + 1) * k + j = k + (i * k + j) := by rw [Nat.add_mul, Nat.one_mul]; omega
    rw [List.flatten_cons, List.getElem?_append_right (by omega), hs, h0, Nat.add_sub_cancel_left]
    exact this
theorem br_sl {α β : Type} {k : Nat} {R : Rel α} {E : Enc β} {f : α → β} {Q : β → Prop} (h : Br R E f Q) (hk : E.size = k) : Br (slR k R) (eSl E) (fun l => l.map f) (qS Q) := by
  refine ⟨?_⟩
  rintro w x cs ⟨A, n, c, es, rfl, h1, h2, h3, h4, h5, h6⟩
  have hes : ∀ e ∈ es, e.length = k := fun e he => by
    obtain ⟨i, hi, rfl⟩ := List.getElem_of_mem he
    exact (h6 i _ _ (List.getElem?_eq_getElem (h4 ▸ hi)) (List.getElem?_eq_getElem hi)).1
  refine ⟨⟨A, n, c, rfl, by rw [List.length_map, h1], h2, h3, fun hn => ?_⟩, ?_, ?_⟩
  · obtain ⟨b, off, e, hb, hc⟩ := h5.2 hn
    refine ⟨b, off, e, hb, fun i y hy => ?_⟩
    rw [List.getElem?_map] at hy
    obtain ⟨x', hx', rfl⟩ := Option.map_eq_some_iff.1 hy
    have hi : i < es.length := by rw [h4]; exact (List.getElem?_eq_some_iff.1 hx').1
    obtain ⟨hl, hr⟩ := h6 i _ _ hx' (List.getElem?_eq_getElem hi)
    refine ⟨⟨es[i], (h.get hr).1, fun j u hu => ?_⟩, fun j _ => id⟩
    have := hc _ u (flatten_get hes i j _ u (List.getElem?_eq_getElem hi) hu)
    rw [hk]
    rwa [Nat.add_assoc]
  · show (x.map f).length ≤ maxLen
    rw [List.length_map]
    omega
  · intro y hy
    obtain ⟨x', hx', rfl⟩ := List.mem_map.1 hy
    obtain ⟨i, hi, rfl⟩ := List.getElem_of_mem hx'
    have hi' : i < es.length := by omega
    exact (h.get (h6 i _ _ (List.getElem?_eq_getElem hi) (List.getElem?_eq_getElem hi')).2).2
theorem br_st4 {α β γ δ α' β' γ' δ' : Type} {R : Rel α} {S : Rel β} {U : Rel γ} {W : Rel δ} {E : Enc α'} {F : Enc β'} {G : Enc γ'} {H : Enc δ'} {f : α → α'} {g : β → β'} {e : γ → γ'} {d : δ → δ'} {Q : α' → Prop} {T : β' → Prop} {V : γ' → Prop} {X : δ' → Prop} (h : Br R E f Q) (k : Br S F g T) (l : Br U G e V) (m : Br W H d X) :
    Br (st4R R S U W) (ePr E (ePr F (ePr G H))) (f2 f (f2 g (f2 e d))) (qP Q (qP T (qP V X))) := by
  refine ⟨?_⟩
  rintro w x cs ⟨v, u, y, z, rfl, h1, h2, h3, h4⟩
  exact ⟨⟨[v], [u, y, z], rfl, (h.get h1).1, ⟨[u], [y, z], rfl, (k.get h2).1, ⟨[y], [z], rfl, (l.get h3).1, (m.get h4).1⟩⟩⟩, (h.get h1).2, (k.get h2).2, (l.get h3).2, (m.get h4).2⟩
/-- a law's argument: a struct -/
theorem Br.st {α β : Type} {R : Rel α} {E : Enc β} {f : α → β} {Q : β → Prop} (h : Br R E f Q) (ha : E.agg = true) {w : World} {x : α} {cs : List Value} (hr : R w w.heap.size x cs) : Rep E av0 w (.agg cs.toArray) (f x) :=
  ⟨cs, by unfold Enc.val; rw [if_pos ha], (h.get hr).1⟩
/-- a law's argument: one cell -/
theorem Br.cell {α β : Type} {R : Rel α} {E : Enc β} {f : α → β} {Q : β → Prop} (h : Br R E f Q) (ha : E.agg = false) {w : World} {x : α} {v : Value} (hr : R w w.heap.size x [v]) : Rep E av0 w v (f x) :=
  ⟨[v], by unfold Enc.val; rw [ha]; rfl, (h.get hr).1⟩
theorem av0_ok (w : World) : AvOK av0 w := fun _ _ h => h.elim
theorem law_of {P : Program} {fn : FuncId} {args : Array Value} {w : World} (h : Calls P fn args w fun e w' => ∃ v, e = .returned v ∧ (v = .bool true ∧ Fr w w')) : Calls P fn args w fun e w' => e = .returned (.bool true) ∧ Below w.heap.size w w' :=
  h.mono fun e w' ⟨v, he, hv, hf⟩ => ⟨by rw [he, hv], hf.toBelow⟩
end Go.Proofs.YtcodfkieaoomnaaGreatDoor
/- Regions in the text's order, cut into parts: single operations that may do whatever to the objects, and runs of operations as before. No statement of the seat is proved here. -/
namespace Go.Proofs.YtcodfkieaoomnaaGreatDoor
open Go.RowKit
set_option linter.unusedVariables false

/-- the operations from k on, one after another -/
def SG (P : Program) (n : Nat) (ops : List Oper) (k : Nat) (R : Reg) (w : World) (Q : Exit → Reg → World → Prop) : Prop :=
  ∀ a : Act, Pl n a → regs a = R → wpOps P ops.toArray (PQ n Q) (List.range' k (ops.length - k)) a w
section
variable {P : Program} {n : Nat} {ops : List Oper} {k : Nat} {R : Reg} {w : World} {Q : Exit → Reg → World → Prop}
theorem SG.of {id : Nat} (h : SG P n ops 0 R w Q) : HT P n (.region id ops.toArray false) R w Q := fun a hpl hR => by
  refine wp_region ?_
  have := h a hpl hR
  rw [Nat.sub_zero] at this
  rw [List.range_eq_range']
  simpa using this
theorem SG.fin (hk : ops.length = k) (h : Q .normal R w) : SG P n ops k R w Q := fun a hpl hR => by
  rw [hk, Nat.sub_self]
  simp only [List.range'_zero, wpOps]
  exact ⟨hpl, hR ▸ h⟩
theorem SG.step {o : Oper} (ho : ops[k]? = some o) (hg : o.guard = none) (hd : ∀ d, o.dst = some d → d < n) (h : OpR P o R w fun v w' => SG P n ops (k + 1) (updO R o.dst v) w' Q) : SG P n ops k R w Q := fun a hpl hR => by
  have hk : k < ops.length := (List.getElem?_eq_some_iff.1 ho).1
  rw [show ops.length - k = (ops.length - (k + 1)) + 1 by omega, List.range'_succ, wpOps_cons]
  rw [← hR] at h
  refine opwp_of_opr hg h (fun v w' hs => ?_) k (by simpa using ho)
  refine hs _ ⟨by rw [put_defers']; exact hpl.1, by rw [put_size]; exact hpl.2⟩ ?_
  exact regs_put _ _ _ fun d hdd => Nat.lt_of_lt_of_le (hd d hdd) hpl.2
/-- what stands of the operations before k -/
def Past (A : Av) (R : Reg) (w : World) : Nat → List EntR → Prop
  | 0, _ => True
  | _ + 1, [] => True
  | k + 1, x :: l => (x.g = true ∧ x.con = [] ∧ x.res = none ∧ (match x.o.dst with | some d => (x.f A).ok (R d) w | none => True)) ∧ Past A R w k l
theorem Past.at {A : Av} : ∀ (l : List EntR) (k : Nat), Past A R w k l → ∀ (i : Nat) x, i < k → l[i]? = some x → x.g = true ∧ x.con = [] ∧ x.res = none ∧ ∀ d, x.o.dst = some d → (x.f A).ok (R d) w
  | [], k, _, i, x, _, hx => by simp at hx
  | y :: l, 0, _, i, x, hi, _ => by omega
  | y :: l, k + 1, h, 0, x, _, hx => by
    simp only [List.getElem?_cons_zero, Option.some.injEq] at hx
    subst hx
    obtain ⟨⟨h1, h2, h3, h4⟩, _⟩ := h
    refine ⟨h1, h2, h3, fun d hd => ?_⟩
    rw [hd] at h4
    exact h4
  | y :: l, k + 1, h, i + 1, x, hi, hx => Past.at l k h.2 i x (by omega) (by simpa using hx)
theorem SG.textR {A : Av} {rest : List Oper} (ini : List Ob) (l : List EntR) (k' : Nat) (hops : ops = l.map (·.o) ++ rest) (hk' : l.length = k') (hkk : Nat.ble k k' = true) (hb : backFrom 0 (l.map (·.o)) = true) (hs : dstOK n (l.map (·.o)) = true) (hw : Wf ini l) (hi : IniOK ini A w) (hA : AvOK A w)
    (hp : Past A R w k l) (ho : OblsR P ini l A R w k (l.drop k)) (ha : AfterR ini l A R w (fun R w => SG P n ops k' R w Q)) : SG P n ops k R w Q := fun a hpl hR => by
  have hkk : k ≤ k' := Nat.le_of_ble_eq_true hkk
  have hlen : ops.length = k' + rest.length := by rw [hops, List.length_append, List.length_map, hk']
  have hopl : ∀ (i : Nat) x, l[i]? = some x → ops.toArray[i]? = some x.o := fun i x hx => by
    have hlt := (List.getElem?_eq_some_iff.1 hx).1
    rw [List.getElem?_toArray, hops, List.getElem?_append_left (by rw [List.length_map]; exact hlt), List.getElem?_map, hx]
    rfl
  have hmap : ∀ (i : Nat) x, l[i]? = some x → (l.map (·.o))[i]? = some x.o := fun i x hx => by
    rw [List.getElem?_map, hx]
    rfl
  have hobl : ∀ (i : Nat) x, k ≤ i → l[i]? = some x → OblR P ini l A R w i x := fun i x hki hx => by
    have := OblsR.at (l.drop k) k ho (i - k) x (by rw [List.getElem?_drop, show k + (i - k) = i by omega]; exact hx)
    rwa [show k + (i - k) = i by omega] at this
  have key : ∀ m j, m + j = l.length → k ≤ j → ∀ (a : Act) (ρ : Nat → Value) (σ : Nat → Nat → Prop) (A' : Av) (w' : World), Pl n a → InvR ini l A R w (fun i => Nat.blt i j) ρ σ A' (regs a) w' →
      wpOps P ops.toArray (PQ n Q) (List.range' j (ops.length - j)) a w' := by
    intro m
    induction m with
    | zero =>
      intro j hj hkj a ρ σ A' w' hpl hI
      have := ha _ ρ σ A' _ _ (fun i hi => by simpa using (by omega : i < j)) hI a hpl rfl
      rwa [show k' = j by omega] at this
    | succ m ih =>
      intro j hj hkj a ρ σ A' w' hpl hI
      rw [show ops.length - j = (ops.length - (j + 1)) + 1 by omega, List.range'_succ, wpOps_cons]
      have hkl : j < l.length := by omega
      have hx : l[j]? = some l[j] := List.getElem?_eq_getElem hkl
      refine step_anyR1 (done := fun i => Nat.blt i j) hw hopl (fun i x d hx hdd => dstOK_spec hs (hmap i x hx) hdd) hx (hobl j _ hkj hx) (nblt_no (Nat.le_refl j)) (fun e he hbe => ?_) (fun i y hy hex => ?_) hpl hI (fun a' ρ' σ' A'' w'' hpl' hI' => ih (j + 1) (by omega) (by omega) a' ρ' σ' A'' w'' hpl' ?_)
      · have := backFrom_spec _ 0 hb j _ (hmap j _ hx) e he hbe
        show Nat.blt e.on j = true
        simpa using this
      · obtain ⟨e, he, hbe, hon⟩ := hex
        have := backFrom_spec _ 0 hb i _ (hmap i _ hy) e he hbe
        exact nblt_no (by omega)
      · have : setB (fun i => Nat.blt i j) j = fun i => Nat.blt i (j + 1) := by
          funext i
          by_cases e : i = j
          · subst e; rw [setB_same]; simp
          · rw [setB_ne _ e, Bool.eq_iff_iff]; simp; omega
        rw [← this]
        exact hI'
  refine key (k' - k) k (by omega) (Nat.le_refl k) a (fun id => ((ini[id]?).map (·.u)).getD undef) (fun id => ((ini[id]?).map (·.S)).getD fun _ => False) A w hpl ?_
  have hdn : ∀ i, Nat.blt i k = true → i < k := fun i h => by simpa using h
  have hlive : ∀ id r, resAt ini l id = some r → Live ini l (fun i => Nat.blt i k) id → id < ini.length := fun id r hr h => by
    rcases h.1 with h1 | h1
    · exact h1
    · rcases Nat.lt_or_ge id ini.length with h2 | h2
      · exact h2
      · exfalso
        unfold resAt at hr
        rw [List.getElem?_eq_none h2] at hr
        cases hx : l[id - ini.length]? with
        | none => rw [hx] at hr; cases hr
        | some x =>
          rw [hx] at hr
          have := (Past.at l k hp _ x (hdn _ h1) hx).2.2.1
          simp only [Option.bind_some, this] at hr
          cases hr
  have kk : ∀ id r, resAt ini l id = some r → Live ini l (fun i => Nat.blt i k) id → ∃ p, ini[id]? = some p ∧ p.r = r ∧ ((ini[id]?).map (·.u)).getD undef = p.u ∧ (((ini[id]?).map (·.S)).getD fun _ => False) = p.S := fun id r hr hl => by
    obtain ⟨p, hp', hr'⟩ := resAt_ini (l := l) (hlive id r hr hl)
    rw [hr'] at hr
    injection hr with hr
    exact ⟨p, hp', hr, by rw [hp']; rfl, by rw [hp']; rfl⟩
  rw [← hR] at hp
  refine ⟨Ch.refl _ _, (Fr.refl w).stp A, hA, hA, fun _ _ h _ => h, fun t _ => by rw [hR], fun i x d hx hd hxd hg => ?_, fun i x d hx hd hxd hg => ?_, fun id r hr hl => ?_, fun id r hr hl q hq o => ?_, fun id id' r r' hr hr' hl hl' hne q hq => ?_, fun id r hr hl q _ hq => ?_, fun id p hp' => (by rw [hp']; exact ⟨rfl, rfl⟩), fun i x d hx hd hres => ?_, fun i x c hx hd hres => ?_⟩
  · exact (Past.at l k hp i x (hdn i hd) hx).2.2.2 d hxd
  · have := (Past.at l k hp i x (hdn i hd) hx).1
    rw [this] at hg
    cases hg
  · obtain ⟨p, hp', rfl, he, hs'⟩ := kk id r hr hl
    rw [he, hs']
    exact ⟨(hi.ok id p hp').1, hi.own id p hp'⟩
  · obtain ⟨p, hp', rfl, he, hs'⟩ := kk id r hr hl
    rw [hs'] at hq
    exact (hi.ok id p hp').2 q hq o
  · obtain ⟨p, hp', rfl, he, hs'⟩ := kk id r hr hl
    obtain ⟨p2, hp2, rfl, he2, hs2⟩ := kk id' r' hr' hl'
    rw [hs'] at hq
    rw [hs2]
    exact hi.dis id id' p p2 hp' hp2 hne q hq
  · obtain ⟨p, hp', rfl, he, hs'⟩ := kk id r hr hl
    rw [hs'] at hq
    exact ⟨id, p, hp', hq⟩
  · exact absurd (Past.at l k hp i x (hdn i hd) hx).2.2.1 hres
  · exact absurd (Past.at l k hp i x (hdn i hd) hx).2.2.1 hres
end
/-! ### what a call hands back -/
/-- the objects that a call gives: K: the blocks that it was handed -/
structure GPost (A0 : Av) (K : Nat → Prop) (w : World) (obs : List Ob) (A1 : Av) (w' : World) : Prop where
  ini : IniOK obs A1 w'
  avok : AvOK A1 w'
  low : ∀ b o, A0 b o → A1 b o
  up : ∀ b o, A1 b o → A0 b o ∨ isIni obs b
  new : ∀ k, isIni obs k → w.heap.size ≤ k ∨ K k
  ch : Ch K w w'
abbrev subS (A : Av) (S : Nat → Prop) : Av := fun b o => A b o ∧ ¬ S b
section
variable {ini obs : List Ob} {A A0 A1 : Av} {w w' : World} {K : Nat → Prop}
theorem IniOK.shrink (h : IniOK ini A w) (h1 : ∀ b o, A1 b o → A b o) (h2 : ∀ k, isIni ini k → ∀ o, A1 k o) : IniOK ini A1 w :=
  ⟨fun i p hp => ⟨(Res.stabS (h.ok i p hp).1 (h.own i p hp) (fun _ _ => rfl) (stp_down h1)).1, fun k hk => h2 k ⟨i, p, hp, hk⟩⟩, fun i p hp => (Res.stabS (h.ok i p hp).1 (h.own i p hp) (fun _ _ => rfl) (stp_down h1)).2, h.dis⟩
/-- the callee's last word -/
theorem GPost.of (hO : IniOK obs A w') (hA : AvOK A w') (hAA : ∀ b o, A0 b o → A b o) (hge : ∀ k, isIni obs k → w.heap.size ≤ k ∨ K k) (hF : Ch K w w') : ∃ A1, (∀ b o, A1 b o → A b o) ∧ GPost A0 K w obs A1 w' := by
  have hsub : ∀ b o, (A0 b o ∨ isIni obs b) → A b o := fun b o h => h.elim (hAA b o) fun ⟨i, p, hp, hk⟩ => (hO.ok i p hp).2 b hk o
  exact ⟨fun b o => A0 b o ∨ isIni obs b, hsub, hO.shrink hsub fun k hk o => .inr hk, fun b o h => hA b o (hsub b o h), fun _ _ h => .inl h, fun _ _ h => h, hge, hF⟩
theorem stp_call (hA : AvOK A w) (h : GPost (subS A K) K w obs A1 w') (hK : ∀ k, K k → ∀ o, A k o) : Stp A A1 w w' :=
  ⟨h.ch.size, fun b o v hv hn => (World.cell?_of_block (w := w) (h.ch.block b (cell_lt' hv) fun hk => hn (hK b hk o))).trans hv, fun b o hb h1 => (h.up b o h1).elim (·.1) fun h2 => (h.new b h2).elim (fun h3 => by omega) fun h3 => hK b h3 o⟩
/-- the caller goes on: object i has gone into the call -/
theorem GPost.next (hO : IniOK ini A w) (hA : AvOK A w) (i : Nat) {p : Ob} (hp : ini[i]? = some p) (h : GPost (subS A p.S) p.S w obs A1 w') : IniOK (obs ++ ini.eraseIdx i) A1 w' := by
  have hK : ∀ k, p.S k → ∀ o, A k o := (hO.ok i p hp).2
  have hst := stp_call hA h hK
  have hlt : ∀ (j : Nat) q, ini[j]? = some q → ∀ k, q.S k → k < w.heap.size := fun j q hq k hk => Res.ltS (hO.ok j q hq).1 (hO.own j q hq) hk
  have her : ∀ (j : Nat) q, (ini.eraseIdx i)[j]? = some q → ∃ j', j' ≠ i ∧ ini[j']? = some q ∧ (j' = if j < i then j else j + 1) := fun j q hq => by
    rw [List.getElem?_eraseIdx] at hq
    split at hq
    · rename_i hlt; exact ⟨j, by omega, hq, by rw [if_pos hlt]⟩
    · rename_i hlt; exact ⟨j + 1, by omega, hq, by rw [if_neg hlt]⟩
  have hrest : ∀ (j : Nat) q, (ini.eraseIdx i)[j]? = some q → (q.r.ok A1 q.u w' ∧ q.r.own A1 q.u q.S w') ∧ ∀ k, q.S k → ∀ o, A1 k o := fun j q hq => by
    obtain ⟨j', hne, hj', _⟩ := her j q hq
    have hd : ∀ k, q.S k → ¬ p.S k := hO.dis j' i q p hj' hp hne
    exact ⟨Res.stabS (hO.ok j' q hj').1 (hO.own j' q hj') (fun k hk => h.ch.block k (hlt j' q hj' k hk) (hd k hk)) hst, fun k hk o => h.low k o ⟨(hO.ok j' q hj').2 k hk o, hd k hk⟩⟩
  have hobr : ∀ (i' j : Nat) p' q, obs[i']? = some p' → (ini.eraseIdx i)[j]? = some q → ∀ k, p'.S k → ¬ q.S k := fun i' j p' q hp' hq k hk hk' => by
    obtain ⟨j', hne, hj', _⟩ := her j q hq
    rcases h.new k ⟨i', p', hp', hk⟩ with h1 | h1
    · have := hlt j' q hj' k hk'
      omega
    · exact hO.dis j' i q p hj' hp hne k hk' h1
  refine ⟨fun j q hq => ?_, fun j q hq => ?_, fun j j' q q' hq hq' hne k hk => ?_⟩
  · rcases Nat.lt_or_ge j obs.length with hl | hl
    · rw [List.getElem?_append_left hl] at hq
      exact h.ini.ok j q hq
    · rw [List.getElem?_append_right hl] at hq
      exact ⟨(hrest _ q hq).1.1, (hrest _ q hq).2⟩
  · rcases Nat.lt_or_ge j obs.length with hl | hl
    · rw [List.getElem?_append_left hl] at hq
      exact h.ini.own j q hq
    · rw [List.getElem?_append_right hl] at hq
      exact (hrest _ q hq).1.2
  · rcases Nat.lt_or_ge j obs.length with hl | hl <;> rcases Nat.lt_or_ge j' obs.length with hl' | hl'
    · rw [List.getElem?_append_left hl] at hq
      rw [List.getElem?_append_left hl'] at hq'
      exact h.ini.dis j j' q q' hq hq' hne k hk
    · rw [List.getElem?_append_left hl] at hq
      rw [List.getElem?_append_right hl'] at hq'
      exact hobr _ _ _ _ hq hq' k hk
    · rw [List.getElem?_append_right hl] at hq
      rw [List.getElem?_append_left hl'] at hq'
      exact fun hk' => hobr _ _ _ _ hq' hq k hk' hk
    · rw [List.getElem?_append_right hl] at hq
      rw [List.getElem?_append_right hl'] at hq'
      obtain ⟨a, _, ha, ea⟩ := her _ q hq
      obtain ⟨b, _, hb, eb⟩ := her _ q' hq'
      exact hO.dis a b q q' ha hb (by rw [ea, eb]; split <;> split <;> omega) k hk
/-- an object turned: its blocks are among those that it had -/
theorem IniOK.put (h : IniOK ini A w) (i : Nat) {p : Ob} (hi : ini[i]? = some p) (p' : Ob) (hok : p'.r.ok A p'.u w) (hown : p'.r.own A p'.u p'.S w) (hS : ∀ k, p'.S k → p.S k) : IniOK (ini.set i p') A w := by
  have hl := (List.getElem?_eq_some_iff.1 hi).1
  have hat : ∀ (j : Nat) q, (ini.set i p')[j]? = some q → ∃ q0, ini[j]? = some q0 ∧ (∀ k, q.S k → q0.S k) ∧ (j = i ∧ q = p' ∨ j ≠ i ∧ q0 = q) := fun j q hq => by
    by_cases e : j = i
    · subst e
      rw [List.getElem?_set_self hl] at hq
      injection hq with hq
      subst hq
      exact ⟨_, hi, hS, .inl ⟨rfl, rfl⟩⟩
    · rw [List.getElem?_set_ne (Ne.symm e)] at hq
      exact ⟨q, hq, fun _ h => h, .inr ⟨e, rfl⟩⟩
  refine ⟨fun j q hq => ?_, fun j q hq => ?_, fun j j' q q' hq hq' hne k hk hk' => ?_⟩
  · obtain ⟨q0, h0, hS', hc⟩ := hat j q hq
    rcases hc with ⟨rfl, rfl⟩ | ⟨_, rfl⟩
    · exact ⟨hok, fun k hk => (h.ok _ _ h0).2 k (hS' k hk)⟩
    · exact h.ok j _ h0
  · obtain ⟨q0, h0, hS', hc⟩ := hat j q hq
    rcases hc with ⟨rfl, rfl⟩ | ⟨_, rfl⟩
    · exact hown
    · exact h.own j _ h0
  · obtain ⟨q0, h0, hS', _⟩ := hat j q hq
    obtain ⟨q0', h0', hS'', _⟩ := hat j' q' hq'
    exact h.dis j j' q0 q0' h0 h0' hne k (hS' k hk) (hS'' k hk')
theorem Ch.no {w w' : World} (h : Ch (fun _ => False) w w') : Fr w w' := ⟨⟨h.os, h.tape, h.output, h.size, fun k hk => h.block k hk fun h => h⟩, h.drawn⟩
/-! ### trees that read nothing but what they own -/
/-- an object that holds whatever is to be avoided -/
def ObPure (p : Ob) : Prop := ∀ A A' w, p.r.ok A p.u w → p.r.own A p.u p.S w → p.r.ok A' p.u w ∧ p.r.own A' p.u p.S w
def allPure : List Ob → Prop
  | [] => True
  | p :: l => ObPure p ∧ allPure l
theorem allPure.at : ∀ (l : List Ob), allPure l → ∀ (i : Nat) p, l[i]? = some p → ObPure p
  | [], _, i, p, h => by simp at h
  | q :: l, h, 0, p, hp => by simp at hp; subst hp; exact h.1
  | q :: l, h, i + 1, p, hp => allPure.at l h.2 i p (by simpa using hp)
/-! ### a struct built of parts that are our own -/
end
end Go.Proofs.YtcodfkieaoomnaaGreatDoor
/- A row at a place in a tree that grows: between the append and the store the tree lacks the place, and a store there makes it whole. No statement of the seat is proved here. -/
namespace Go.Proofs.YtcodfkieaoomnaaGreatDoor
open Go.RowKit
set_option linter.unusedVariables false

section
variable {A A0 : Av} {w : World} {ini : List Ob}
end
section
variable {P : Program} {R : Reg} {w : World} {d : Option Nat} {t : TypeId} {p : String} {af : Array Edge} {g : Option (Nat × Bool)} {A A0 : Av} {α β : Type} {S S0 : Nat → Prop}
variable {E : Enc α} {F : OE α} {x ix : Operand} {T e : TypeId} {K : Nat → Prop} {u a v : Value}
end
end Go.Proofs.YtcodfkieaoomnaaGreatDoor
/- Base of chains: short forms, rows at places. No statement of the seat is proved here. -/
/- What rests on the tables: Itoa, Join. No statement of the seat is proved here. -/
namespace Go.Proofs.YtcodfkieaoomnaaGreatDoor
open Go.RowKit Go.Sort
set_option linter.unusedVariables false
/-! ### Itoa -/
def M_itoa (fu : Nat) (n : Int) : Option (List UInt8) := ck (i64B n) (some (Lib.itoa n))
theorem decDigits_le : ∀ (k u : Nat), u < 10 ^ (k + 1) → (Lib.decDigits u).length ≤ k + 1
  | 0, u, h => by
    rw [Lib.decDigits, dif_pos (by omega)]
    exact Nat.le_refl _
  | k + 1, u, h => by
    rw [Lib.decDigits]
    split
    · simp
    · rw [List.length_append]
      have := decDigits_le k (u / 10) (by rw [Nat.pow_succ] at h; omega)
      simp
      omega
theorem itoa_len {n : Int} (h0 : -9223372036854775808 ≤ n) (h1 : n ≤ 9223372036854775807) : (Lib.itoa n).length ≤ 21 := by
  unfold Lib.itoa
  split
  · rw [List.length_cons]
    have := decDigits_le 19 n.natAbs (by omega)
    omega
  · have := decDigits_le 19 n.toNat (by omega)
    omega
theorem fr_grown {w : World} (k : Nat) (os : Array Obj) : Fr w (grow (w.drewN k) os) := by
  refine ⟨⟨rfl, rfl, rfl, ?_, fun i hi => ?_⟩, fun _ => ?_⟩
  · simp [grow, World.drewN]
  · simp only [grow, World.drewN]
    rw [Array.getElem?_append_left hi]
  · simp [grow, World.drewN]
theorem M_itoa_ok {fu : Nat} {A0 : Av} {p0 : Int} {r : List UInt8} (hr : M_itoa fu p0 = some r) {w : World} {v0 : Value} (hA : AvOK A0 w) (hG : GTab w) (h0 : v0 = .int .i64 p0) :
    Calls Tryz.prog 155 #[v0] w fun e w' => ∃ v, e = .returned v ∧ (Rep eStr A0 w' v r ∧ Fr w w') := by
  obtain ⟨hb, hr⟩ := ck_some hr
  obtain rfl := Option.some.inj hr
  subst h0
  unfold i64B at hb
  rw [Bool.and_eq_true, decide_eq_true_eq, decide_eq_true_eq] at hb
  refine (Any.strconv_Itoa Tryz.laysItoa p0 hb.1 hb.2 w hG.pow).mono ?_
  rintro e w' ⟨he, k, os, rfl⟩
  refine ⟨_, he, ⟨_, rfl, _, rfl, rfl, ?_⟩, fr_grown k os⟩
  have := itoa_len hb.1 hb.2
  show (Lib.itoa p0).toArray.size ≤ maxLen
  simp only [List.size_toArray]
  exact Nat.le_trans this (by decide)
/-! ### Join -/
theorem fr_below {w w' : World} (hn : ¬ DK) (h : Below w.heap.size w w') : Fr w w' := ⟨h, fun h => (hn h).elim⟩
theorem noDK : ¬ DK := fun h => h
end Go.Proofs.YtcodfkieaoomnaaGreatDoor
/- Errors as whether there is one; Atoi, Split, Cut over the library's laid contracts. No statement of the seat is proved here. -/
namespace Go.Proofs.YtcodfkieaoomnaaGreatDoor
open Go.RowKit
set_option linter.unusedVariables false

/-- an error: nil or not -/
def eErr : Enc Bool where
  size := 1
  agg := false
  rep := fun _ _ x cs => (x = false ∧ cs = [.nilIface]) ∨ (x = true ∧ ∃ t p, cs = [.iface t p])
  len := by rintro A w x cs (⟨_, rfl⟩ | ⟨_, t, p, rfl⟩) <;> rfl
  one := fun _ => rfl
  oc := by rintro A w x cs (⟨_, rfl⟩ | ⟨_, t, p, rfl⟩) c hc <;> simp at hc <;> subst hc <;> rfl
  stp := fun _ h => h
section
variable {P : Program} {R : Reg} {w : World} {d : Option Nat} {t : TypeId} {p : String} {af : Array Edge} {g : Option (Nat × Bool)}
theorem of_err_neq {T T' : TypeId} {x : Operand} {a : Bool} {A : Av} (h : Rep eErr A w (evalR R x) a) (hu : P.underlying T = some (.interface (P.methodsAt T))) : OpF P ⟨d, .binOp .neq T x (.const .nilIface) T', t, p, af, g⟩ R w (.raw (.bool a)) := by
  refine opr_val (v := .bool a) (w' := w) ?_ ⟨rfl, Fr.refl _⟩
  have hy : evalR R (.const .nilIface) = .nilIface := rfl
  obtain ⟨cs, hx, (⟨rfl, rfl⟩ | ⟨rfl, t0, p0, rfl⟩)⟩ := h
  · have hx' : evalR R x = .nilIface := hx
    simp [execOp, hx', hy, eqGuard, run_neq_nil_nil w T hu]
  · have hx' : evalR R x = .iface t0 p0 := hx
    simp [execOp, hx', hy, eqGuard, run_neq_held_nil w T t0 p0 hu]
end
def atoiR (s : List UInt8) : Int × Bool := match Lib.atoiAll s with | .ok v => (v, false) | .range => (Lib.atoiSat s, true) | _ => (0, true)
def M_atoi (fu : Nat) (s : List UInt8) : Option (Int × Bool) := ck (lenOK s.length) (some (atoiR s))
theorem fr_of_below {w w' : World} (h : Below w.heap.size w w') : Fr w w' := fr_below noDK h
theorem M_atoi_ok {fu : Nat} {A0 : Av} {p0 : List UInt8} {r : Int × Bool} (hr : M_atoi fu p0 = some r) {w : World} {v0 : Value} (hA : AvOK A0 w) (hG : GTab w) (h0 : Rep eStr A0 w v0 p0) :
    Calls Tryz.prog 249 #[v0] w fun e w' => ∃ v, e = .returned v ∧ ((∃ a b, v = .tuple #[a, b] ∧ a = .int .i64 r.1 ∧ Rep eErr A0 w' b r.2) ∧ Fr w w') := by
  obtain ⟨hb, hr⟩ := ck_some hr
  obtain rfl := Option.some.inj hr
  have hb := lenOK_le hb
  obtain ⟨_, rfl, s, rfl, rfl, hs⟩ := h0
  have hsz : s.size = s.data.toList.length := Lib.size_eq s
  show Calls Tryz.prog _ #[.string s] w _
  unfold atoiR
  cases hc : Lib.atoiAll s.data.toList with
  | ok v =>
    refine (Any.strconv_Atoi_ok Tryz.laysAtoi s (by omega) v hc w).mono ?_
    rintro e w' ⟨he, hw⟩
    refine ⟨_, he, ⟨_, _, rfl, rfl, _, rfl, .inl ⟨rfl, rfl⟩⟩, fr_of_below ?_⟩
    rcases hw with rfl | ⟨t, rfl⟩
    · exact Below.refl _ _
    · exact Lib.bytesWorld_below _ _ _
  | range =>
    obtain ⟨t, p, hv⟩ := hG.eR
    refine (Any.strconv_Atoi_range_var Tryz.laysAtoi s (by omega) hc t p w hv).mono ?_
    rintro e w' ⟨N, he, _, _, hbel⟩
    exact ⟨_, he, ⟨_, _, rfl, rfl, _, rfl, .inr ⟨rfl, _, _, rfl⟩⟩, fr_of_below hbel⟩
  | _ =>
    obtain ⟨t, p, hv⟩ := hG.eS
    refine (Any.strconv_Atoi_syntax_var Tryz.laysAtoi s (by omega) hc t p w hv).mono ?_
    rintro e w' ⟨N, he, _, _, hbel⟩
    exact ⟨_, he, ⟨_, _, rfl, rfl, _, rfl, .inr ⟨rfl, _, _, rfl⟩⟩, fr_of_below hbel⟩
end Go.Proofs.YtcodfkieaoomnaaGreatDoor
/- Sorting a row of our own, over the library's laid contracts: what is alike. No statement of the seat is proved here. -/
namespace Go.Proofs.YtcodfkieaoomnaaGreatDoor
open Go.RowKit Go.Sort
set_option linter.unusedVariables false

section
variable {α β : Type} [Inhabited β]
theorem putRow_ch {enc : β → Value} {w : World} {blk n : Nat} {d : Array β} {os : Array Obj} {u : Value} (hu : ownsB u blk) : Ch (ownsB u) w (grow (putRow enc (Go.Sort.ahead w n) blk 0 d) os) := by
  refine ⟨rfl, rfl, rfl, ?_, fun k hk hn => ?_, ?_⟩
  · simp [grow, putRow, mapBlock, Go.Sort.ahead]
  · have hne : blk ≠ k := fun e => hn (e ▸ hu)
    simp only [grow, putRow, mapBlock, Go.Sort.ahead]
    rw [Array.getElem?_append_left (by simpa using hk), Array.getElem?_modify, if_neg hne]
  · intro _; simp [grow, putRow, mapBlock, Go.Sort.ahead]
theorem BlkM.putRw {enc : β → Value} {w : World} {g n : Nat} {T : TypeId} {cur : Array Value} {d : Array β} {os : Array Obj} (h : BlkM w g T cur) : BlkM (grow (putRow enc (Go.Sort.ahead w n) g 0 d) os) g T (putCells enc 0 d cur) := by
  obtain ⟨fz, h1, h2⟩ := h
  refine ⟨fz, ?_, by simpa [putCells] using h2⟩
  have hlt := (Array.getElem?_eq_some_iff.1 h1).1
  simp only [grow, putRow, mapBlock, Go.Sort.ahead]
  rw [Array.getElem?_append_left (by simpa using hlt), Array.getElem?_modify, if_pos rfl, h1]
  rfl
/-- a row of one cell an element, the library's way -/
theorem vec_holds {E : Enc α} {enc : β → Value} {f : β → α} {A : Av} {B T blk cap : Nat} {w : World} {xs : List α} {d : Array β} (hs : E.size = 1) (henc : ∀ (b : β) A w cs, E.rep A w (f b) cs → cs = [enc b]) (hd : d.toList.map f = xs) (h : Vec E A B T w (.slice (some ⟨blk, 0, none⟩) xs.length cap) xs) : Holds enc w blk 0 d := by
  obtain ⟨cs, hown, hf⟩ := h
  intro j hj
  have hlen : d.size = xs.length := by rw [← hd]; simp
  have hx : xs[j]? = some (f d[j]!) := by
    rw [← hd, List.getElem?_map]
    simp [hj]
  obtain ⟨ds, h1, h2⟩ := hf.2 j _ hx
  have h3 := henc _ _ _ _ h1
  subst h3
  have h4 := h2 0 _ rfl
  rw [hs, Nat.mul_one, Nat.add_zero] at h4
  refine ⟨?_, ?_⟩
  · have := hown.cells (g := blk) rfl j _ h4
    rwa [addr_add] at this
  · rcases hown.2 with ⟨e, _⟩ | ⟨g, cap', cur, e, hb, hg, hnc, _, hcs, _⟩
    · cases e
    · injection e with e1 e2 e3
      injection e1 with e1
      injection e1 with e1
      subst e1
      rw [Nat.zero_add]
      exact hg.frozen j (by rw [hcs, hs]; omega)
theorem vec_put {E : Enc α} {enc : β → Value} {f : β → α} {A : Av} {B T blk cap n : Nat} {w : World} {xs ys : List α} {d : Array β} {os : Array Obj} (hs : E.size = 1) (henc : ∀ (b : β) A w cs, E.rep A w (f b) cs → cs = [enc b])
    (hrep : ∀ A w A' w' x cs, E.rep A w x cs → E.rep A' w' x cs) (hd : d.toList.map f = ys) (hl : ys.length = xs.length) (hsub : ∀ y ∈ ys, y ∈ xs) (h : Vec E A B T w (.slice (some ⟨blk, 0, none⟩) xs.length cap) xs) :
    Vec E A B T (grow (putRow enc (Go.Sort.ahead w n) blk 0 d) os) (.slice (some ⟨blk, 0, none⟩) xs.length cap) ys := by
  obtain ⟨cs, hown, hf⟩ := h
  have hrow : ∀ y ∈ ys, ∃ b : β, f b = y ∧ ∀ A w, E.rep A w y [enc b] := by
    intro y hy
    obtain ⟨b, hb, rfl⟩ := List.mem_map.1 (hd ▸ hy)
    obtain ⟨i, hi⟩ := List.mem_iff_getElem?.1 (hsub _ hy)
    obtain ⟨ds, h1, h2⟩ := hf.2 i _ hi
    have h3 := henc _ _ _ _ h1
    subst h3
    exact ⟨b, rfl, fun A' w' => hrep _ _ _ _ _ _ h1⟩
  rcases hown.2 with ⟨e, _⟩ | ⟨g, cap', cur, e, hb, hg, hnc, hcm, hcs, htk⟩
  · cases e
  · injection e with e1 e2 e3
    injection e1 with e1
    injection e1 with e1
    subst e1 e3
    have hds : d.size = ys.length := by rw [← hd]; simp
    have hcur : ∀ j, j < ys.length → (putCells enc 0 d cur)[j]? = some (enc d[j]!) := fun j hj => by
      have hjc : j < cur.size := by rw [hcs, hs]; omega
      simp only [putCells, Array.getElem?_mapIdx]
      rw [Array.getElem?_eq_getElem hjc]
      simp [hds, hj]
    have hlay : (putCells enc 0 d cur).toList.take (ys.length * E.size) = d.toList.map enc := by
      rw [hs, Nat.mul_one]
      apply List.ext_getElem?
      intro j
      by_cases hj : j < ys.length
      · rw [List.getElem?_take, if_pos hj, Array.getElem?_toList, hcur j hj, List.getElem?_map]
        simp [hds, hj]
      · rw [List.getElem?_take, if_neg hj, List.getElem?_eq_none (by simp [hds]; omega)]
    refine ⟨d.toList.map enc, ⟨by simp [hds, hs], .inr ⟨blk, cap, putCells enc 0 d cur, by rw [hl], hb, hg.putRw, by rw [hl]; exact hnc, hcm, by simp [putCells, hcs], hlay⟩⟩, by simp [hds, hs], fun i y hy => ?_⟩
    · obtain ⟨b, hb', hr⟩ := hrow y (List.mem_of_getElem? hy)
      have hiy : i < ys.length := (List.getElem?_eq_some_iff.1 hy).1
      have hfd : f d[i]! = y := by
        rw [← hd, List.getElem?_map] at hy
        simp [hds, hiy] at hy
        simpa [hds, hiy] using hy
      have h1 := hr A (grow (putRow enc (Go.Sort.ahead w n) blk 0 d) os)
      have h2 := henc d[i]! A w _ (hfd ▸ hr A w)
      injection h2 with h2
      refine ⟨[enc b], h1, fun j u hj => ?_⟩
      cases j with
      | zero =>
        simp at hj
        subst hj
        rw [hs, Nat.mul_one, Nat.add_zero, List.getElem?_map, h2]
        simp [hds, hiy]
      | succ j => simp at hj
/-- the row of a value -/
theorem vec_cases {E : Enc α} {A : Av} {B T : Nat} {w : World} {u : Value} {xs : List α} (h : Vec E A B T w u xs) : (u = .slice none 0 0 ∧ xs = []) ∨ ∃ blk cap, u = .slice (some ⟨blk, 0, none⟩) xs.length cap ∧ blk < w.heap.size := by
  obtain ⟨cs, hown, _⟩ := h
  rcases hown.2 with ⟨e, h0⟩ | ⟨g, cap, cur, e, _, hg, _⟩
  · exact .inl ⟨e, List.eq_nil_of_length_eq_zero h0⟩
  · exact .inr ⟨g, cap, e, hg.lt⟩
end
theorem callsV_inj {f f' : FuncId} {c c' : List Value} (h : (Value.func (.func f) #[] c.toArray) = .func (.func f') #[] c'.toArray) : f = f' ∧ c = c' := by
  injection h with h1 h2 h3
  injection h1 with h1
  exact ⟨h1, by simpa using h3⟩
end Go.Proofs.YtcodfkieaoomnaaGreatDoor
/- ContainsAny, ReplaceAll, FieldsFunc over the library's laid contracts; the table of the letters' codes. No statement of the seat is proved here. -/
namespace Go.Proofs.YtcodfkieaoomnaaGreatDoor
open Go.RowKit
set_option linter.unusedVariables false

theorem rep_bs {A : Av} {w : World} {l : List UInt8} (h : l.length ≤ 4294967296) : Rep eStr A w (.string ⟨l.toArray⟩) l := ⟨_, rfl, ⟨l.toArray⟩, rfl, rfl, by show l.toArray.size ≤ maxLen; simp only [List.size_toArray]; exact Nat.le_trans h (by decide)⟩
/-! ### the table -/
theorem gSnd : Tryz.prog.globalNamed sndName = some 1 := by kernel_rfl
theorem GTab.sndAt {w : World} (h : GTab w) {i : Int} (hi : inR i sndL.length = true) {v : Value} (hv : v = .pointer (some ⟨1, i.toNat, none⟩)) : PRep (eInt .i64) (fun _ _ => False) w v (gtD sndL i) := by
  obtain ⟨i0, i1⟩ := inR_iff.1 hi
  have hlt : i.toNat < sndL.length := by omega
  have hc := var_cell h.snd gSnd (i := i.toNat) (v := .int .i64 (gtD sndL i)) (by
    rw [List.getElem?_toArray, List.getElem?_map, List.getElem?_eq_getElem hlt]
    simp only [Option.map_some, gtD, List.getD_eq_getElem?_getD, List.getElem?_eq_getElem hlt, Option.getD_some])
  refine ⟨_, _, hv, cell_lt' hc, [.int .i64 (gtD sndL i)], rfl, fun j u hj => ?_⟩
  cases j with
  | zero => simp at hj; subst hj; exact hc
  | succ j => simp at hj
/-! ### the bytes of a string in a row of our own -/
def bytL (l : List UInt8) : List Int := l.map fun b => (b.toNat : Int)
theorem fr_bytes (w : World) (e : TypeId) (s : ByteArray) : Fr w (Lib.bytesWorld w e s) :=
  ⟨⟨by simp [Lib.bytesWorld, World.freeze, World.alloc, World.drew, -World.alloc_eq, -World.drew_eq], by simp [Lib.bytesWorld, World.freeze, World.alloc, World.drew, -World.alloc_eq, -World.drew_eq], by simp [Lib.bytesWorld, World.freeze, World.alloc, World.drew, -World.alloc_eq, -World.drew_eq], by rw [Lib.bytesWorld_size]; omega, fun k hk => Lib.bytesWorld_at_old w e s k hk⟩, fun _ => by simp [Lib.bytesWorld, World.freeze, World.alloc, World.drew, -World.alloc_eq, -World.drew_eq]⟩
section
variable {P : Program} {R : Reg} {w : World}
theorem made_bytes {A A1 : Av} {B : Nat} {S D e : TypeId} {y : Operand} {l : List UInt8} {d : Option Nat} {t : TypeId} {p : String} {af : Array Edge} {g : Option (Nat × Bool)} (hx : Rep eStr A1 w (evalR R y) l) (hs : P.underlying S = some .string) (hd : P.underlying D = some (.slice e)) (he : P.underlying e = some (.int .u8)) (hT : e = tByte) (hl : lenOK l.length = true) (hB : B ≤ w.heap.size) :
    OpR P ⟨d, .convert S D y, t, p, af, g⟩ R w (Made A (.vec B e (eInt .u8) (bytL l)) (fun _ => .any) w) := by
  obtain ⟨_, hv, s, rfl, rfl, hsz⟩ := hx
  have hv' : evalR R y = .string s := hv
  have hl := lenOK_le hl
  have e1 : s.size = s.data.toList.length := Lib.size_eq s
  have hr := Lib.run_convert_string_bytes (P := P) w S D e s (u := .string) hs hd he
  have hge := grownCap_ge w s.size 0 e
  have hcm := grownCap_le_maxLen w s.size 0 e (by unfold maxLen; omega)
  have hcs : (Lib.bytesCells w e s).size = grownCap w s.size 0 e := by
    simp only [Lib.bytesCells, Array.size_append, Array.size_map, Array.size_replicate]
    have : s.data.size = s.size := rfl
    omega
  refine opr_val (v := .slice (some ⟨w.heap.size, 0, none⟩) s.size (grownCap w s.size 0 e)) (w' := Lib.bytesWorld w e s) (by simp [execOp, hv', hr]) ⟨fr_bytes w e s, fun k hk => by have : w.heap.size = k := hk; omega, ⟨s.data.toList.map fun b => .int .u8 b.toNat, ⟨?_, .inr ⟨w.heap.size, grownCap w s.size 0 e, Lib.bytesCells w e s, by rw [bytL, List.length_map, ← e1], hB, ⟨_, Lib.bytesWorld_at_new w e s, .inr ⟨hT, Nat.le_refl _⟩⟩, by rw [bytL, List.length_map, ← e1]; exact hge, hcm, by rw [hcs]; exact (Nat.mul_one _).symm, ?_⟩⟩, ?_, fun i x hx => ?_⟩, trivial⟩
  · rw [bytL, List.length_map, List.length_map]
    exact (Nat.mul_one _).symm
  · have e2 : (bytL s.data.toList).length * (eInt .u8).size = s.data.size := by
      rw [bytL, List.length_map]
      exact Nat.mul_one _
    rw [e2]
    simp only [Lib.bytesCells, Array.toList_append, Array.toList_map]
    rw [List.take_append_of_le_length (by simp), List.take_of_length_le (by simp)]
  · rw [bytL, List.length_map, List.length_map]
    exact (Nat.mul_one _).symm
  · rw [bytL, List.getElem?_map] at hx
    obtain ⟨b, hb, rfl⟩ := Option.map_eq_some_iff.1 hx
    refine ⟨[.int .u8 b.toNat], rfl, fun j dd hj => ?_⟩
    cases j with
    | zero =>
      simp at hj
      subst hj
      show (s.data.toList.map fun b => Value.int .u8 b.toNat)[i * 1 + 0]? = _
      rw [Nat.mul_one, Nat.add_zero, List.getElem?_map, hb]
      rfl
    | succ j => simp at hj
end
/-! ### ContainsAny -/
def M_containsAny (fu : Nat) (s c : List UInt8) : Option Bool := ck (decide (s.length < 4294967281) && decide (c.length < 4294967281) && s.all (fun b => decide (b.toNat < 128)) && c.all (fun b => decide (b.toNat < 128))) (some (Lib.containsAny s c))
theorem M_containsAny_ok {fu : Nat} {A0 : Av} {p0 p1 : List UInt8} {r : Bool} (hr : M_containsAny fu p0 p1 = some r) {w : World} {v0 v1 : Value} (hA : AvOK A0 w) (h0 : Rep eStr A0 w v0 p0) (h1 : Rep eStr A0 w v1 p1) :
    Calls Tryz.prog 213 #[v0, v1] w fun e w' => ∃ v, e = .returned v ∧ (v = .bool r ∧ Fr w w') := by
  obtain ⟨hb, hr⟩ := ck_some hr
  obtain rfl := Option.some.inj hr
  simp only [Bool.and_eq_true, decide_eq_true_eq, List.all_eq_true] at hb
  obtain ⟨⟨⟨h2, h3⟩, h4⟩, h5⟩ := hb
  obtain ⟨_, rfl, s, rfl, rfl, hs⟩ := h0
  obtain ⟨_, rfl, c, rfl, rfl, hs1⟩ := h1
  have e1 : s.size = s.data.toList.length := Lib.size_eq s
  have e2 : c.size = c.data.toList.length := Lib.size_eq c
  refine (Any.strings_ContainsAny_laid Tryz.laysCA (by kernel_rfl) s c w (by omega) (by omega) (fun j b hj => h4 b (List.mem_of_getElem? hj)) (fun j b hj => h5 b (List.mem_of_getElem? hj))).mono ?_
  rintro e w' ⟨he, hbel⟩
  exact ⟨_, he, rfl, fr_of_below hbel⟩
/-! ### ReplaceAll -/
def M_replaceAll (fu : Nat) (s old new : List UInt8) : Option (List UInt8) := ck (decide (s.length < 4294967281) && decide (0 < old.length) && decide (s.length + Lib.countB ⟨s.toArray⟩ ⟨old.toArray⟩ * new.length ≤ 140737488355328) && decide ((Lib.replaceAll s old new).length ≤ 4294967296)) (some (Lib.replaceAll s old new))
theorem M_replaceAll_ok {fu : Nat} {A0 : Av} {p0 p1 p2 r : List UInt8} (hr : M_replaceAll fu p0 p1 p2 = some r) {w : World} {v0 v1 v2 : Value} (hA : AvOK A0 w) (hG : GTab w) (h0 : Rep eStr A0 w v0 p0) (h1 : Rep eStr A0 w v1 p1) (h2 : Rep eStr A0 w v2 p2) :
    Calls Tryz.prog 292 #[v0, v1, v2] w fun e w' => ∃ v, e = .returned v ∧ (Rep eStr A0 w' v r ∧ Fr w w') := by
  obtain ⟨hb, hr⟩ := ck_some hr
  obtain rfl := Option.some.inj hr
  simp only [Bool.and_eq_true, decide_eq_true_eq] at hb
  obtain ⟨⟨⟨k1, k2⟩, k3⟩, k4⟩ := hb
  obtain ⟨_, rfl, s, rfl, rfl, hs⟩ := h0
  obtain ⟨_, rfl, o, rfl, rfl, hs1⟩ := h1
  obtain ⟨_, rfl, n, rfl, rfl, hs2⟩ := h2
  have e1 : s.size = s.data.toList.length := Lib.size_eq s
  have e2 : o.size = o.data.toList.length := Lib.size_eq o
  have e3 : n.size = n.data.toList.length := Lib.size_eq n
  have f1 : (⟨s.data.toList.toArray⟩ : ByteArray) = s := by rw [Array.toArray_toList]
  have f2 : (⟨o.data.toList.toArray⟩ : ByteArray) = o := by rw [Array.toArray_toList]
  rw [f1, f2] at k3
  obtain ⟨m, hm⟩ := hG.mx
  refine (Any.strings_ReplaceAll Tryz.laysRep Tryz.extraRep s o n m w (by omega) hm (by omega) (by rw [e1, e3]; exact k3)).mono ?_
  rintro e w' ⟨he, hbel⟩
  exact ⟨_, he, rep_bs k4, fr_of_below hbel⟩
/-! ### FieldsFunc -/
def runesOK (F : Int → Option Bool) (N : Nat) : Bool := (List.range N).all fun n => (F (n : Int)).isSome
theorem runesOK_at {F : Int → Option Bool} {N n : Nat} (h : runesOK F N = true) (hn : n < N) : (F (n : Int)).isSome = true := by
  unfold runesOK at h
  rw [List.all_eq_true] at h
  exact h n (List.mem_range.2 hn)
theorem runesOK_of {F : Int → Option Bool} {N : Nat} (h : ∀ n : Nat, n < N → (F (n : Int)).isSome = true) : runesOK F N = true := by
  unfold runesOK
  rw [List.all_eq_true]
  exact fun n hn => h n (List.mem_range.1 hn)
def M_fields (fu : Nat) (s : List UInt8) (F : Int → Option Bool) : Option (List (List UInt8)) :=
  ck (lenOK s.length) (ck (runesOK F 1114112) (some ((Lib.goFieldsP (fun n => (F (n : Int)).getD false) ⟨s.toArray⟩).map (·.data.toList))))
theorem M_fields_ok {fu : Nat} {A0 : Av} {p0 : List UInt8} {p1 : Int → Option Bool} {r : List (List UInt8)} (hr : M_fields fu p0 p1 = some r) {w : World} {v0 v1 : Value} (hA : AvOK A0 w) (h0 : Rep eStr A0 w v0 p0) (h1 : FnB1 Tryz.prog (eInt .i32) (fun r => .raw (.bool r)) A0 w v1 p1) :
    Calls Tryz.prog 250 #[v0, v1] w fun e w' => ∃ v, e = .returned v ∧ (Rep (eSl eStr) A0 w' v r ∧ Fr w w') := by
  unfold M_fields at hr
  obtain ⟨hc1, hr⟩ := ck_some hr
  obtain ⟨hc2, hr⟩ := ck_some hr
  have hc1 := lenOK_le hc1
  obtain rfl := Option.some.inj hr
  · skip
    obtain ⟨_, rfl, s, rfl, rfl, hs⟩ := h0
    have e1 : s.size = s.data.toList.length := Lib.size_eq s
    have f1 : (⟨s.data.toList.toArray⟩ : ByteArray) = s := by rw [Array.toArray_toList]
    have hsome : ∀ n : Nat, n ≤ 1114111 → p1 (n : Int) = some ((p1 (n : Int)).getD false) := fun n hn => by
      have := runesOK_at hc2 (show n < 1114112 by omega)
      cases h : p1 (n : Int) with
      | none => rw [h] at this; cases this
      | some b => rfl
    obtain ⟨g, cb, rfl, hg, _⟩ := h1 ((0 : Nat) : Int) _ (hsome 0 (by omega)) w (.int .i32 ((0 : Nat) : Int)) (Ch.refl _ _) hA ⟨_, rfl, rfl⟩
    have hp : PredGrows Tryz.prog g cb.toArray (fun n => (p1 (n : Int)).getD false) w := fun W x hx hb => by
      obtain ⟨g', cb', e, hg', hcl⟩ := h1 (x : Int) _ (hsome x hx) W (.int .i32 (x : Int)) ((fr_of_below hb).ch _) (hA.fr hb.size) ⟨_, rfl, rfl⟩
      obtain ⟨rfl, rfl⟩ := callsV_inj e
      have e2 : (#[encR x] ++ cb.toArray) = ([Value.int .i32 (x : Int)] ++ cb).toArray := by
        have : encR x = Value.int .i32 (x : Int) := rfl
        rw [this]; simp
      rw [e2]
      refine hcl.mono ?_
      rintro e w' ⟨u, he, hu, hfr⟩
      obtain rfl : u = .bool _ := hu
      exact ⟨he, hfr.toBelow⟩
    rw [f1]
    refine (Any.strings_FieldsFunc_grows Tryz.laysFF g cb.toArray hg (fun n => (p1 (n : Int)).getD false) s w (by omega) hp (by kernel_rfl) (by kernel_rfl)).mono ?_
    rintro e w' ⟨a, he, hage, hown, hbel⟩
    refine ⟨_, he, ?_, fr_of_below hbel⟩
    generalize hL : Lib.goFieldsP (fun n => (p1 (n : Int)).getD false) s = L at hown he
    have hmem : ∀ z ∈ L, z.size ≤ s.size := fun z hz => by
      rw [← hL] at hz
      unfold Lib.goFieldsP at hz
      obtain ⟨x, _, rfl⟩ := List.mem_map.1 hz
      rw [ByteArray.size_extract]
      omega
    have hcells := hown.cells (g := a) rfl
    have hcap : L.length ≤ maxLen := by
      rcases hown.2 with ⟨h, _⟩ | ⟨g2, cap, cur, h, _, _, h3, h4, _⟩
      · cases h
      · exact Nat.le_trans h3 h4
    refine ⟨_, rfl, some ⟨a, 0, none⟩, L.length, L.length, rfl, by rw [List.length_map], Nat.le_refl _, hcap, fun hpos => ⟨a, 0, rfl, ?_, fun i x hx => ?_⟩⟩
    · cases hz : L[0]? with
      | none => rw [List.getElem?_eq_none_iff] at hz; omega
      | some z => exact cell_lt' (hcells 0 (.string z) (by rw [List.getElem?_map, hz]; rfl))
    · rw [List.getElem?_map] at hx
      obtain ⟨z, hz, rfl⟩ := Option.map_eq_some_iff.1 hx
      refine ⟨⟨[.string z], ⟨z, rfl, rfl, Nat.le_trans (hmem z (List.mem_of_getElem? hz)) hs⟩, fun j u hj => ?_⟩, fun j _ ha => ?_⟩
      · cases j with
        | zero =>
          simp only [List.getElem?_cons_zero, Option.some.injEq] at hj
          subst hj
          have := hcells i (.string z) (by rw [List.getElem?_map, hz]; rfl)
          rw [addr_add] at this
          show w'.cell? ⟨a, 0 + i * 1 + 0, none⟩ = _
          rw [Nat.zero_add, Nat.mul_one, Nat.add_zero]
          rwa [Nat.zero_add] at this
        | succ j => simp at hj
      · have := hA _ _ ha
        omega
end Go.Proofs.YtcodfkieaoomnaaGreatDoor
/- Sorting a row of strings of our own, over the library's laid contracts. No statement of the seat is proved here. -/
namespace Go.Proofs.YtcodfkieaoomnaaGreatDoor
open Go.RowKit Go.Sort
set_option linter.unusedVariables false

theorem enc_str (b : List UInt8) (A : Av) (w : World) (cs : List Value) (h : eStr.rep A w b cs) : cs = [encStr b] := by
  obtain ⟨s, rfl, rfl, _⟩ := h
  rfl
def M_sortS (fu : Nat) (p0 : List (List UInt8)) : Option (List (List UInt8)) := ck (lenOK p0.length) (some (p0.mergeSort fun x y => decide (x ≤ y)))
theorem M_sortS_ok {fu : Nat} {A0 : Av} {p0 r : List (List UInt8)} (hr : M_sortS fu p0 = some r) {w : World} {v0 : Value} {B0 : Nat} (hA : AvOK A0 w) (hN : ∀ b o, A0 b o → ¬ ownsB v0 b) (h0 : (Res.vec B0 9 eStr p0).ok A0 v0 w) :
    Calls Tryz.prog 174 #[v0] w fun e w' => ∃ v, e = .returned v ∧ (v = .tuple #[] ∧ (Res.vec B0 9 eStr r).ok A0 v0 w' ∧ Ch (ownsB v0) w w') := by
  obtain ⟨hlen, hr⟩ := ck_some hr
  obtain rfl := Option.some.inj hr
  rcases vec_cases h0 with ⟨rfl, rfl⟩ | ⟨blk, cap, rfl, hb⟩
  · refine (Any.slices_Sort_string_none Tryz.laysSort none 0 w).mono ?_
    rintro e w' ⟨he, rfl⟩
    exact ⟨_, he, rfl, by rw [List.mergeSort_nil]; exact h0, Ch.refl _ _⟩
  · have hH : Holds encStr w blk 0 p0.toArray := vec_holds (E := eStr) (f := fun x => x) rfl (fun b A w cs h => enc_str b A w cs h) (by simp) h0
    refine (Any.slices_Sort_string Tryz.laysSort blk 0 cap p0 w hH hb (by have := lenOK_le hlen; omega)).mono ?_
    rintro e w' ⟨he, n, os, rfl⟩
    refine ⟨_, he, rfl, ?_, putRow_ch rfl⟩
    have := vec_put (E := eStr) (enc := encStr) (f := fun x => x) (n := n) (os := os) (ys := p0.mergeSort fun x y => decide (x ≤ y)) (d := (p0.mergeSort fun x y => decide (x ≤ y)).toArray) rfl (fun b A w cs h => enc_str b A w cs h) (fun _ _ _ _ _ _ h => h) (by simp) (by simp) (fun y hy => (List.mem_mergeSort.1 hy)) h0
    exact this
end Go.Proofs.YtcodfkieaoomnaaGreatDoor
/- Base of chains over tables. No statement of the seat is proved here. -/
/- Shorter forms for the printed texts. No statement of the seat is proved here. -/
namespace Go.Proofs.YtcodfkieaoomnaaGreatDoor
open Go.RowKit
set_option linter.unusedVariables false

abbrev eI {o : Oper} (n : Int) : Ent := ⟨o, true, .raw (.int .i64 n)⟩
abbrev eU {o : Oper} (n : Int) : Ent := ⟨o, true, .raw (.int .u8 n)⟩
abbrev eB {o : Oper} (b : Bool) : Ent := ⟨o, true, .raw (.bool b)⟩
abbrev eR {o : Oper} (v : Value) : Ent := ⟨o, true, .raw v⟩
abbrev eF {o : Oper} (f : Fact) : Ent := ⟨o, true, f⟩
abbrev eA {o : Oper} : Ent := ⟨o, true, .any⟩
abbrev gI {o : Oper} (g : Bool) (n : Int) : Ent := ⟨o, g, .raw (.int .i64 n)⟩
abbrev gU {o : Oper} (g : Bool) (n : Int) : Ent := ⟨o, g, .raw (.int .u8 n)⟩
abbrev gB {o : Oper} (g : Bool) (b : Bool) : Ent := ⟨o, g, .raw (.bool b)⟩
abbrev gR {o : Oper} (g : Bool) (v : Value) : Ent := ⟨o, g, .raw v⟩
abbrev gF {o : Oper} (g : Bool) (f : Fact) : Ent := ⟨o, g, f⟩
abbrev rI {o : Oper} (n : Int) : EntR := ⟨o, true, [], none, true, fun _ => .raw (.int .i64 n)⟩
abbrev rU {o : Oper} (n : Int) : EntR := ⟨o, true, [], none, true, fun _ => .raw (.int .u8 n)⟩
abbrev rB {o : Oper} (b : Bool) : EntR := ⟨o, true, [], none, true, fun _ => .raw (.bool b)⟩
abbrev rR {o : Oper} (v : Value) : EntR := ⟨o, true, [], none, true, fun _ => .raw v⟩
abbrev rF {o : Oper} (f : Av → Fact) : EntR := ⟨o, true, [], none, true, f⟩
abbrev rA {o : Oper} : EntR := ⟨o, true, [], none, true, fun _ => .any⟩
theorem ur {o : Oper} {g : Bool} {con : List Nat} {res : Option Res} {lk : Bool} {u : Value} {l : List EntR} (t : UAll l) : UAll (⟨o, g, con, res, lk, fun _ => .raw u⟩ :: l) := UAll.cons ust_raw t
theorem ua {o : Oper} {g : Bool} {con : List Nat} {res : Option Res} {lk : Bool} {l : List EntR} (t : UAll l) : UAll (⟨o, g, con, res, lk, fun _ => .any⟩ :: l) := UAll.cons ust_any t
theorem up {o : Oper} {g : Bool} {con : List Nat} {res : Option Res} {lk : Bool} {α : Type} {E : Enc α} {y : α} {l : List EntR} (t : UAll l) : UAll (⟨o, g, con, res, lk, fun A => .rep E A y⟩ :: l) := UAll.cons ust_rep t
section
variable {P : Program} {n : Nat} {Q : Exit → Reg → World → Prop} {id : Nat} {l : List Ent} {R R' : Reg} {w : World} {i : Nat} {rest : List Ent}
theorem HT.t (l : List Ent) (ho : Obls P l R w 0 l) (ha : ∀ R' w', Fr w w' → (∀ t, notDst l t = true → R' t = R t) → Facts R' w' l → Q .normal R' w') (hb : backFrom 0 (l.map (·.o)) = true := by kernel_rfl) (hd : distinct l = true := by kernel_rfl) (hs : dstOK n ((l.map fun x : Ent => x.o) ++ ([] : List Oper)) = true := by kernel_rfl) : HT P n (.region id ((l.map fun x : Ent => x.o) ++ ([] : List Oper)).toArray false) R w Q :=
  HT.text hb hd hs ho ha
theorem HT.u {w0 : World} {A : Av} (hA : AvOK A w) (hF : Fr w0 w) (l : List Ent) (ho : Obls P l R w 0 l) (ha : ∀ R' w', Fr w w' → (∀ t, notDst l t = true → R' t = R t) → Facts R' w' l → AvOK A w' → Fr w0 w' → Q .normal R' w') (hb : backFrom 0 (l.map (·.o)) = true := by kernel_rfl) (hd : distinct l = true := by kernel_rfl) (hs : dstOK n ((l.map fun x : Ent => x.o) ++ ([] : List Oper)) = true := by kernel_rfl) : HT P n (.region id ((l.map fun x : Ent => x.o) ++ ([] : List Oper)).toArray false) R w Q :=
  HT.text hb hd hs ho fun R' w' hw hs hf => ha R' w' hw hs hf (hA.fr hw.size) (hF.trans hw)
theorem Obls.m {d : Option Nat} {t : Nat} {ty : TypeId} {p : String} {af : Array Edge} {v : Value} (h : R t = v) (r : Obls P l R w (i + 1) rest) (hk : okRead l i t = true := by exact rfl) : Obls P l R w i (⟨⟨d, .move (.tmp t), ty, p, af, none⟩, true, .raw v⟩ :: rest) :=
  ⟨Obl.plain rfl rfl fun R' w' hw hs hd => of_move ((hs t hk).trans h), r⟩
theorem Obls.v {d : Option Nat} {t : Nat} {ty : TypeId} {p : String} {af : Array Edge} {v : Value} (r : Obls P l R w (i + 1) rest) (hd : depF l af.toList 0 = some (t, .raw v) := by exact rfl) : Obls P l R w i (⟨⟨d, .move (.tmp t), ty, p, af, none⟩, true, .raw v⟩ :: rest) :=
  ⟨Obl.plain rfl rfl fun R' w' hw hs h => of_move (h.g 0 hd), r⟩
theorem Obls.a {d : Option Nat} {t : Nat} {ty : TypeId} {p : String} {af : Array Edge} {v : Value} (r : Obls P l R w (i + 1) rest) (hd : depF l af.toList 0 = some (t, .raw v) := by exact rfl) : Obls P l R w i (⟨⟨d, .assign (.tmp t), ty, p, af, none⟩, true, .raw v⟩ :: rest) :=
  ⟨Obl.plain rfl rfl fun R' w' hw hs h => of_assign (h.g 0 hd), r⟩
def grdF (l : List Ent) (j : Nat) : Option (Bool × Bool) := match l[j]? with
  | none => none
  | some y => match y.o.dst with
    | none => none
    | some _ => match y.f with
      | .raw (.bool c) => some (y.g, c)
      | _ => none
theorem Obls.g {x : Ent} (j : Nat) (want : Bool) (h : x.g = true → ∀ R' w', Fr w w' → (∀ t, okRead l i t = true → R' t = R t) → Deps l R' w' x.o.after.toList → OpR P x.o R' w' fun v w'' => x.f.ok v w'' ∧ Fr w' w'') (r : Obls P l R w (i + 1) rest)
    (hg : x.o.guard = some (j, want) := by exact rfl) (hy : (grdF l j).map (fun p => p.1 && (p.2 == want)) = some x.g := by exact rfl) (ha : x.o.after.any (fun e => bnd e && Nat.beq e.on j) = true := by kernel_rfl) : Obls P l R w i (x :: rest) := by
  refine ⟨?_, r⟩
  unfold grdF at hy
  cases h1 : l[j]? with
  | none => rw [h1] at hy; cases hy
  | some y =>
    rw [h1] at hy
    dsimp only at hy
    cases h2 : y.o.dst with
    | none => rw [h2] at hy; cases hy
    | some d =>
      rw [h2] at hy
      dsimp only at hy
      split at hy
      · rename_i c hc
        exact Obl.grd j want y c d hg h1 h2 hc (Option.some.inj hy).symm ha h
      · cases hy
def depG (l : List Ent) (es : List Edge) (j : Nat) : Option (Nat × Fact × Bool) :=
  match es[j]? with
  | none => none
  | some e => bif bnd e then (match l[e.on]? with
    | none => none
    | some x => match x.o.dst with
      | none => none
      | some d => some (d, x.f, x.g)) else none
theorem Deps.h {es : List Edge} (h : Deps l R w es) (j : Nat) {d : Nat} {f : Fact} {g : Bool} (hg : g = true) (e : depG l es j = some (d, f, g)) : f.ok (R d) w := by
  unfold depG at e
  cases h1 : es[j]? with
  | none => rw [h1] at e; cases e
  | some a =>
    rw [h1] at e
    dsimp only at e
    cases h2 : bnd a
    · rw [h2] at e; cases e
    rw [h2, cond_true] at e
    cases h3 : l[a.on]? with
    | none => rw [h3] at e; cases e
    | some x =>
      rw [h3] at e
      dsimp only at e
      cases h4 : x.o.dst with
      | none => rw [h4] at e; cases e
      | some d' =>
        rw [h4] at e
        dsimp only at e
        obtain ⟨rfl, e2⟩ := Prod.mk.inj (Option.some.inj e)
        obtain ⟨rfl, rfl⟩ := Prod.mk.inj e2
        exact h j a x _ h1 h2 h3 h4 hg
def facR (l : List Ent) (i : Nat) : Option (Nat × Value) := match l[i]? with
  | none => none
  | some x => match x.o.dst with
    | none => none
    | some d => bif x.g then (match x.f with
      | .raw u => some (d, u)
      | _ => none) else none
theorem Facts.r (h : Facts R w l) (i : Nat) {d : Nat} {u : Value} (e : facR l i = some (d, u)) : R d = u := by
  unfold facR at e
  cases h1 : l[i]? with
  | none => rw [h1] at e; cases e
  | some x =>
    rw [h1] at e
    dsimp only at e
    cases h2 : x.o.dst with
    | none => rw [h2] at e; cases e
    | some d' =>
      rw [h2] at e
      dsimp only at e
      cases h3 : x.g
      · rw [h3] at e; cases e
      rw [h3, cond_true] at e
      split at e
      · rename_i u' hu
        obtain ⟨rfl, rfl⟩ := Prod.mk.inj (Option.some.inj e)
        have := h i x _ h1 h2 h3
        rw [hu] at this
        exact this
      · cases e
end
section
variable {P : Program} {ini : List Ob} {l : List EntR} {A : Av} {R R' : Reg} {w : World} {i : Nat} {rest : List EntR}
theorem OblsR.m {d : Option Nat} {t : Nat} {ty : TypeId} {p : String} {af : Array Edge} {v : Value} (h : R t = v) (r : OblsR P ini l A R w (i + 1) rest) (hk : okReadR l i t = true := by exact rfl) : OblsR P ini l A R w i (⟨⟨d, .move (.tmp t), ty, p, af, none⟩, true, [], none, true, fun _ => .raw v⟩ :: rest) :=
  ⟨OblR.plain rfl rfl rfl rfl fun A' R' w' ho hd => of_move ((ho.old t hk).trans h), r⟩
theorem OblsR.v {d : Option Nat} {t : Nat} {ty : TypeId} {p : String} {af : Array Edge} {v : Value} (r : OblsR P ini l A R w (i + 1) rest) (hd : depFR l af.toList 0 = some (t, fun _ => .raw v) := by exact rfl) : OblsR P ini l A R w i (⟨⟨d, .move (.tmp t), ty, p, af, none⟩, true, [], none, true, fun _ => .raw v⟩ :: rest) :=
  ⟨OblR.plain rfl rfl rfl rfl fun A' R' w' ho h => of_move (h.g 0 hd), r⟩
theorem OblsR.a {d : Option Nat} {t : Nat} {ty : TypeId} {p : String} {af : Array Edge} {v : Value} (r : OblsR P ini l A R w (i + 1) rest) (hd : depFR l af.toList 0 = some (t, fun _ => .raw v) := by exact rfl) : OblsR P ini l A R w i (⟨⟨d, .assign (.tmp t), ty, p, af, none⟩, true, [], none, true, fun _ => .raw v⟩ :: rest) :=
  ⟨OblR.plain rfl rfl rfl rfl fun A' R' w' ho h => of_assign (h.g 0 hd), r⟩
end
section
variable {q : Nat → Bool} {R R' : Reg} {a b c d e f g h : Nat} {s t u v x y z k : Value}
theorem k1 (hs : ∀ t, q t = true → R' t = R t) (h1 : R a = s) (p1 : q a = true := by exact rfl) : R' a = s := (hs a p1).trans h1
theorem k2 (hs : ∀ t, q t = true → R' t = R t) (h1 : R a = s) (h2 : R b = t) (p1 : q a = true := by exact rfl) (p2 : q b = true := by exact rfl) : R' a = s ∧ R' b = t := ⟨(hs a p1).trans h1, (hs b p2).trans h2⟩
theorem k3 (hs : ∀ t, q t = true → R' t = R t) (h1 : R a = s) (h2 : R b = t) (h3 : R c = u) (p1 : q a = true := by exact rfl) (p2 : q b = true := by exact rfl) (p3 : q c = true := by exact rfl) : R' a = s ∧ R' b = t ∧ R' c = u := ⟨(hs a p1).trans h1, (hs b p2).trans h2, (hs c p3).trans h3⟩
theorem k4 (hs : ∀ t, q t = true → R' t = R t) (h1 : R a = s) (h2 : R b = t) (h3 : R c = u) (h4 : R d = v) (p1 : q a = true := by exact rfl) (p2 : q b = true := by exact rfl) (p3 : q c = true := by exact rfl) (p4 : q d = true := by exact rfl) : R' a = s ∧ R' b = t ∧ R' c = u ∧ R' d = v := ⟨(hs a p1).trans h1, (hs b p2).trans h2, (hs c p3).trans h3, (hs d p4).trans h4⟩
theorem k5 (hs : ∀ t, q t = true → R' t = R t) (h1 : R a = s) (h2 : R b = t) (h3 : R c = u) (h4 : R d = v) (h5 : R e = x) (p1 : q a = true := by exact rfl) (p2 : q b = true := by exact rfl) (p3 : q c = true := by exact rfl) (p4 : q d = true := by exact rfl) (p5 : q e = true := by exact rfl) : R' a = s ∧ R' b = t ∧ R' c = u ∧ R' d = v ∧ R' e = x := ⟨(hs a p1).trans h1, (hs b p2).trans h2, (hs c p3).trans h3, (hs d p4).trans h4, (hs e p5).trans h5⟩
theorem k6 (hs : ∀ t, q t = true → R' t = R t) (h1 : R a = s) (h2 : R b = t) (h3 : R c = u) (h4 : R d = v) (h5 : R e = x) (h6 : R f = y) (p1 : q a = true := by exact rfl) (p2 : q b = true := by exact rfl) (p3 : q c = true := by exact rfl) (p4 : q d = true := by exact rfl) (p5 : q e = true := by exact rfl) (p6 : q f = true := by exact rfl) : R' a = s ∧ R' b = t ∧ R' c = u ∧ R' d = v ∧ R' e = x ∧ R' f = y := ⟨(hs a p1).trans h1, (hs b p2).trans h2, (hs c p3).trans h3, (hs d p4).trans h4, (hs e p5).trans h5, (hs f p6).trans h6⟩
end
section
variable {P : Program} {ini : List Ob} {l : List EntR} {A A' : Av} {R R' : Reg} {w w' : World} {done : Nat → Bool} {ρ : Nat → Value} {σ : Nat → Nat → Prop}
theorem InvR.rg (hI : InvR ini l A R w done ρ σ A' R' w') : ∀ t, notDstR l t = true → R' t = R t := fun _ h => hI.reg h
def facRR (l : List EntR) (i : Nat) : Option (Nat × (Av → Fact)) := match l[i]? with
  | none => none
  | some x => match x.o.dst with
    | none => none
    | some d => bif x.g then some (d, x.f) else none
theorem InvR.r (hI : InvR ini l A R w done ρ σ A' R' w') (hd : ∀ i, i < l.length → done i = true) (i : Nat) {d : Nat} {u : Value} (e : facRR l i = some (d, fun _ => .raw u)) : R' d = u := by
  unfold facRR at e
  cases h1 : l[i]? with
  | none => rw [h1] at e; cases e
  | some x =>
    rw [h1] at e
    dsimp only at e
    cases h2 : x.o.dst with
    | none => rw [h2] at e; cases e
    | some d' =>
      rw [h2] at e
      dsimp only at e
      cases h3 : x.g
      · rw [h3] at e; cases e
      rw [h3, cond_true] at e
      obtain ⟨rfl, hu⟩ := Prod.mk.inj (Option.some.inj e)
      have := hI.fact hd h1 h2 h3
      rw [hu] at this
      exact this
end
end Go.Proofs.YtcodfkieaoomnaaGreatDoor
/- Base of chains over tables. No statement of the seat is proved here. -/
