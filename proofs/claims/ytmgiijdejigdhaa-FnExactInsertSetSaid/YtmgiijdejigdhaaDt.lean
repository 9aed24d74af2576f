/- Trees: values with memory of their own, each block once (OE), and places in them (holes). No statement of the seat is proved here. -/
import Derived.Test.YtmgiijdejigdhaaDv
namespace Go.Proofs.Ytmgiijdejigdhaa
open Go.RowKit
set_option linter.unusedVariables false

/-- the cells read x; the blocks of S, and no others, are the value's own -/
structure OE (α : Type) where
  E : Enc α
  own : Av → World → (Nat → Prop) → α → List Value → Prop
  lt : ∀ {A w S x cs k}, own A w S x cs → S k → k < w.heap.size
  stab : ∀ {A A' w w' S x cs}, own A w S x cs → (∀ k, S k → w'.heap[k]? = w.heap[k]?) → Stp A A' w w' → own A' w' S x cs
  rep : ∀ {A A0 w S x cs}, own A w S x cs → (∀ b o, A0 b o → A b o) → (∀ k o, S k → ¬ A0 k o) → E.rep A0 w x cs
section
variable {α β γ : Type}
theorem OE.len (F : OE α) {A : Av} {w : World} {S : Nat → Prop} {x : α} {cs : List Value} (h : F.own A w S x cs) : cs.length = F.E.size :=
  F.E.len (F.rep (A0 := av0) h (fun _ _ h => h.elim) fun _ _ _ h => h)
theorem OE.oc (F : OE α) {A : Av} {w : World} {S : Nat → Prop} {x : α} {cs : List Value} (h : F.own A w S x cs) : ∀ c ∈ cs, c.oneCell' = true :=
  F.E.oc (F.rep (A0 := av0) h (fun _ _ h => h.elim) fun _ _ _ h => h)
/-- nothing of its own: it reads memory that stays -/
def oRd (E : Enc α) : OE α where
  E := E
  own := fun A w S x cs => (∀ k, ¬ S k) ∧ E.rep A w x cs
  lt := fun h hk => (h.1 _ hk).elim
  stab := fun h _ hs => ⟨h.1, E.stp hs h.2⟩
  rep := fun h hA _ => E.stp (stp_down hA) h.2
def oPr (F : OE α) (G : OE β) : OE (α × β) where
  E := ePr F.E G.E
  own := fun A w S x cs => ∃ c d S1 S2, cs = c ++ d ∧ F.own A w S1 x.1 c ∧ G.own A w S2 x.2 d ∧ (∀ k, S k ↔ S1 k ∨ S2 k) ∧ ∀ k, S1 k → ¬ S2 k
  lt := by
    rintro A w S x cs k ⟨c, d, S1, S2, rfl, h1, h2, h3, h4⟩ hk
    rcases (h3 k).1 hk with h | h
    · exact F.lt h1 h
    · exact G.lt h2 h
  stab := by
    rintro A A' w w' S x cs ⟨c, d, S1, S2, rfl, h1, h2, h3, h4⟩ hb hs
    exact ⟨c, d, S1, S2, rfl, F.stab h1 (fun k hk => hb k ((h3 k).2 (.inl hk))) hs, G.stab h2 (fun k hk => hb k ((h3 k).2 (.inr hk))) hs, h3, h4⟩
  rep := by
    rintro A A0 w S x cs ⟨c, d, S1, S2, rfl, h1, h2, h3, h4⟩ hA hn
    exact ⟨c, d, rfl, F.rep h1 hA fun k o hk => hn k o ((h3 k).2 (.inl hk)), G.rep h2 hA fun k o hk => hn k o ((h3 k).2 (.inr hk))⟩
/-- element i lies at cell i * size of the row, with blocks Si i -/
structure Els (F : OE α) (A : Av) (w : World) (S : Nat → Prop) (g : Nat) (arr : Array Value) (xs : List α) (Si : Nat → Nat → Prop) : Prop where
  el : ∀ (i : Nat) x, xs[i]? = some x → ∃ ds, F.own A w (Si i) x ds ∧ ∀ (j : Nat) u, ds[j]? = some u → arr[i * F.E.size + j]? = some u
  dis : ∀ i j k, i < xs.length → j < xs.length → i ≠ j → Si i k → ¬ Si j k
  out : ∀ i, i < xs.length → ¬ Si i g
  set : ∀ k, S k ↔ k = g ∨ ∃ i, i < xs.length ∧ Si i k
def oSl (T : TypeId) (F : OE α) : OE (List α) where
  E := eSl F.E
  own := fun A w S xs cs => (cs = [.slice none 0 0] ∧ xs = [] ∧ ∀ k, ¬ S k) ∨
    ∃ g c arr Si, cs = [.slice (some ⟨g, 0, none⟩) xs.length c] ∧ Blk w g T arr ∧ xs.length ≤ c ∧ c ≤ maxLen ∧ arr.size = c * F.E.size ∧ Els F A w S g arr xs Si
  lt := by
    rintro A w S xs cs k (⟨_, _, h⟩ | ⟨g, c, arr, Si, rfl, h1, h2, h3, h4, h5⟩) hk
    · exact (h k hk).elim
    · rcases (h5.set k).1 hk with rfl | ⟨i, hi, hk⟩
      · exact h1.lt
      · obtain ⟨ds, h6, _⟩ := h5.el i _ (List.getElem?_eq_getElem hi)
        exact F.lt h6 hk
  stab := by
    rintro A A' w w' S xs cs (⟨h0, h0', h⟩ | ⟨g, c, arr, Si, rfl, h1, h2, h3, h4, h5⟩) hb hs
    · exact .inl ⟨h0, h0', h⟩
    · refine .inr ⟨g, c, arr, Si, rfl, (hb g ((h5.set g).2 (.inl rfl))).trans h1, h2, h3, h4, ⟨fun i x hx => ?_, h5.dis, h5.out, h5.set⟩⟩
      obtain ⟨ds, h6, h7⟩ := h5.el i x hx
      exact ⟨ds, F.stab h6 (fun k hk => hb k ((h5.set k).2 (.inr ⟨i, (List.getElem?_eq_some_iff.1 hx).1, hk⟩))) hs, h7⟩
  rep := by
    rintro A A0 w S xs cs (⟨rfl, rfl, h⟩ | ⟨g, c, arr, Si, rfl, h1, h2, h3, h4, h5⟩) hA hn
    · exact rep1_nil
    · refine ⟨some ⟨g, 0, none⟩, xs.length, c, rfl, rfl, h2, h3, fun _ => ⟨g, 0, rfl, h1.lt, fun i x hx => ?_⟩⟩
      obtain ⟨ds, h6, h7⟩ := h5.el i x hx
      refine ⟨⟨ds, F.rep h6 hA fun k o hk => hn k o ((h5.set k).2 (.inr ⟨i, (List.getElem?_eq_some_iff.1 hx).1, hk⟩)), fun j u hj => ?_⟩, fun j hj => hn g _ ((h5.set g).2 (.inl rfl))⟩
      rw [h1.cell, Nat.zero_add]
      exact h7 j u hj
/-- an address of a variable of its own -/
def ePt (E : Enc α) : Enc α where
  size := 1
  agg := false
  rep := fun A w x cs => ∃ b, cs = [.pointer (some ⟨b, 0, none⟩)] ∧ b < w.heap.size ∧ QAt E A w b 0 x
  len := by rintro A w x cs ⟨b, rfl, _⟩; rfl
  one := fun _ => rfl
  oc := by rintro A w x cs ⟨b, rfl, _⟩ c hc; simp at hc; subst hc; rfl
  stp := by
    rintro A A' w w' x cs hs ⟨b, rfl, h1, h2⟩
    exact ⟨b, rfl, Nat.lt_of_lt_of_le h1 hs.size, h2.stp h1 hs⟩
def oPt (T : TypeId) (F : OE α) : OE α where
  E := ePt F.E
  own := fun A w S x cs => ∃ b ds S1, cs = [.pointer (some ⟨b, 0, none⟩)] ∧ Blk w b T ds.toArray ∧ F.own A w S1 x ds ∧ ¬ S1 b ∧ ∀ k, S k ↔ k = b ∨ S1 k
  lt := by
    rintro A w S x cs k ⟨b, ds, S1, rfl, h1, h2, h3, h4⟩ hk
    rcases (h4 k).1 hk with rfl | h
    · exact h1.lt
    · exact F.lt h2 h
  stab := by
    rintro A A' w w' S x cs ⟨b, ds, S1, rfl, h1, h2, h3, h4⟩ hb hs
    exact ⟨b, ds, S1, rfl, (hb b ((h4 b).2 (.inl rfl))).trans h1, F.stab h2 (fun k hk => hb k ((h4 k).2 (.inr hk))) hs, h3, h4⟩
  rep := by
    rintro A A0 w S x cs ⟨b, ds, S1, rfl, h1, h2, h3, h4⟩ hA hn
    refine ⟨b, rfl, h1.lt, ⟨ds, F.rep h2 hA fun k o hk => hn k o ((h4 k).2 (.inr hk)), fun j u hj => ?_⟩, fun j hj => hn b _ ((h4 b).2 (.inl rfl))⟩
    rw [h1.cell, Nat.zero_add]
    simpa using hj

/-! ### holes -/
abbrev Pw := Av → World → (Nat → Prop) → Prop
/-- block b has changed between off and off + n at most -/
def Up (b off n : Nat) (w w' : World) : Prop := ∃ arr arr' T, Blk w b T arr ∧ Blk w' b T arr' ∧ arr'.size = arr.size ∧ ∀ j, (j < off ∨ off + n ≤ j) → arr'[j]? = arr[j]?
/-- a place of memory: if what lies there is replaced, Q holds of it -/
structure Hole (F : OE β) (A : Av) (w : World) (S : Nat → Prop) (b off : Nat) (y : β) (S1 : Nat → Prop) (cs : List Value) (Q : β → Pw) : Prop where
  own : F.own A w S1 y cs
  at' : ∀ (j : Nat) u, cs[j]? = some u → w.cell? ⟨b, off + j, none⟩ = some u
  inb : S b
  out : ¬ S1 b
  sub : ∀ k, S1 k → S k
  blk : ∃ arr T, Blk w b T arr ∧ off + F.E.size ≤ arr.size
  put : ∀ A' w' S1' y' ds, F.own A' w' S1' y' ds → (∀ (j : Nat) u, ds[j]? = some u → w'.cell? ⟨b, off + j, none⟩ = some u) → Up b off F.E.size w w' → (∀ k, S k → ¬ S1 k → k ≠ b → w'.heap[k]? = w.heap[k]?) → Stp A A' w w' → (∀ k, S1' k → S k → S1 k) → Q y' A' w' (fun k => (S k ∧ ¬ S1 k) ∨ S1' k)
/-- a value: if what hangs at it is changed, Q holds of it -/
structure VHole (F : OE β) (A : Av) (w : World) (S : Nat → Prop) (cs : List Value) (y : β) (S1 : Nat → Prop) (Q : β → Pw) : Prop where
  own : F.own A w S1 y cs
  sub : ∀ k, S1 k → S k
  put : ∀ A' w' S1' y', F.own A' w' S1' y' cs → (∀ k, S k → ¬ S1 k → w'.heap[k]? = w.heap[k]?) → Stp A A' w w' → (∀ k, S1' k → S k → S1 k) → Q y' A' w' (fun k => (S k ∧ ¬ S1 k) ∨ S1' k)
/-- the same, at an address or a value as they stand in registers -/
def HoleA (F : OE β) (A : Av) (w : World) (S : Nat → Prop) (a : Value) (y : β) (Q : β → Pw) : Prop := ∃ b off S1 cs, a = .pointer (some ⟨b, off, none⟩) ∧ Hole F A w S b off y S1 cs Q
def VHoleA (F : OE β) (A : Av) (w : World) (S : Nat → Prop) (v : Value) (y : β) (Q : β → Pw) : Prop := ∃ S1 cs, v = F.E.val cs ∧ VHole F A w S cs y S1 Q
theorem set_eq {S S1 Sa Sb Sa' : Nat → Prop} (h : ∀ k, S1 k ↔ Sa k ∨ Sb k) (hs : ∀ k, S1 k → S k) (hd : ∀ k, Sa k → ¬ Sb k) : (fun k => (S k ∧ ¬ S1 k) ∨ (Sa' k ∨ Sb k)) = fun k => (S k ∧ ¬ Sa k) ∨ Sa' k := by
  funext k
  rw [eq_iff_iff]
  have h1 := h k
  have h2 := hs k
  have h3 := hd k
  constructor
  · rintro (⟨a, b⟩ | a | a)
    · exact .inl ⟨a, fun h => b (h1.2 (.inl h))⟩
    · exact .inr a
    · exact .inl ⟨h2 (h1.2 (.inr a)), fun h => h3 h a⟩
  · rintro (⟨a, b⟩ | a)
    · by_cases hb : Sb k
      · exact .inr (.inr hb)
      · exact .inl ⟨a, fun h => (h1.1 h).elim b hb⟩
    · exact .inr (.inl a)
section
variable {F : OE α} {G : OE β} {A : Av} {w : World} {S : Nat → Prop}
theorem VHole.root {cs : List Value} {x : α} (h : F.own A w S x cs) : VHole F A w S cs x S (fun z A' w' S' => F.own A' w' S' z cs) :=
  ⟨h, fun _ h => h, fun A' w' S1' y' h1 _ _ _ => by
    have : (fun k => (S k ∧ ¬ S k) ∨ S1' k) = S1' := by
      funext k
      rw [eq_iff_iff]
      exact ⟨fun h => h.elim (fun h => absurd h.1 h.2) id, .inr⟩
    rw [this]
    exact h1⟩
theorem cell_keep {w' : World} {b o : Nat} {u : Value} (hb : w'.heap[b]? = w.heap[b]?) (h : w.cell? ⟨b, o, none⟩ = some u) : w'.cell? ⟨b, o, none⟩ = some u := (World.cell?_of_block (w := w) hb).trans h
/-- what is read at a place, as a value -/
theorem Hole.v {b off : Nat} {y : α} {S1 : Nat → Prop} {cs : List Value} {Q : α → Pw} (h : Hole F A w S b off y S1 cs Q) : VHole F A w S cs y S1 Q := by
  refine ⟨h.own, h.sub, fun A' w' S1' y' h1 h2 h3 h4 => ?_⟩
  have hb := h2 b h.inb h.out
  obtain ⟨arr, T, h5, h6⟩ := h.blk
  exact h.put A' w' S1' y' cs h1 (fun j u hj => cell_keep hb (h.at' j u hj)) ⟨arr, arr, T, h5, hb.trans h5, rfl, fun _ _ => rfl⟩ (fun k h1 h2' _ => h2 k h1 h2') h3 h4
theorem Hole.fst {b off : Nat} {y : α × β} {S1 : Nat → Prop} {cs : List Value} {Q : α × β → Pw} (h : Hole (oPr F G) A w S b off y S1 cs Q) : ∃ Sa ca, Hole F A w S b off y.1 Sa ca (fun z => Q (z, y.2)) := by
  obtain ⟨c, d, Sa, Sb, rfl, h1, h2, h3, h4⟩ := h.own
  have hlc := F.len h1
  have hld := G.len h2
  refine ⟨Sa, c, h1, fun j u hj => h.at' j u (by rw [List.getElem?_append_left (List.getElem?_eq_some_iff.1 hj).1]; exact hj), h.inb, fun hb => h.out ((h3 b).2 (.inl hb)), fun k hk => h.sub k ((h3 k).2 (.inl hk)), ?_, fun A' w' S1' y' ds k1 k2 k3 k4 k5 k6 => ?_⟩
  · obtain ⟨arr, T, h5, h6⟩ := h.blk
    have h6 : off + (F.E.size + G.E.size) ≤ arr.size := h6
    exact ⟨arr, T, h5, by omega⟩
  · obtain ⟨arr, arr', T, k7, k8, k9, k10⟩ := k3
    have hSb : ∀ k, Sb k → S k := fun k hk => h.sub k ((h3 k).2 (.inr hk))
    have hbb : ∀ k, Sb k → k ≠ b := fun k hk e => h.out ((h3 b).2 (.inr (e ▸ hk)))
    have hG : G.own A' w' Sb y.2 d := G.stab h2 (fun k hk => k4 k (hSb k hk) (fun ha => h4 k ha hk) (hbb k hk)) k5
    have hldd := F.len k1
    have := h.put A' w' (fun k => S1' k ∨ Sb k) (y', y.2) (ds ++ d) ⟨ds, d, S1', Sb, rfl, k1, hG, fun k => Iff.rfl, fun k hk hb => h4 k (k6 k hk (hSb k hb)) hb⟩ (fun j u hj => ?_) ⟨arr, arr', T, k7, k8, k9, fun j hj => k10 j ?_⟩ (fun k a1 a2 a3 => k4 k a1 (fun ha => a2 ((h3 k).2 (.inl ha))) a3) k5 (fun k a1 a2 => a1.elim (fun a => (h3 k).2 (.inl (k6 k a a2))) fun a => (h3 k).2 (.inr a))
    · rw [set_eq h3 h.sub h4] at this
      exact this
    · by_cases hjl : j < ds.length
      · rw [List.getElem?_append_left hjl] at hj
        exact k2 j u hj
      · rw [List.getElem?_append_right (by omega)] at hj
        have hc := h.at' j u (by rw [List.getElem?_append_right (by omega), hlc, ← hldd]; exact hj)
        rw [k7.cell] at hc
        rw [k8.cell, k10 (off + j) (.inr (by omega))]
        exact hc
    · have hj : j < off ∨ off + (F.E.size + G.E.size) ≤ j := hj
      omega
theorem Hole.snd {b off : Nat} {y : α × β} {S1 : Nat → Prop} {cs : List Value} {Q : α × β → Pw} (h : Hole (oPr F G) A w S b off y S1 cs Q) : ∃ Sb cb, Hole G A w S b (off + F.E.size) y.2 Sb cb (fun z => Q (y.1, z)) := by
  obtain ⟨c, d, Sa, Sb, rfl, h1, h2, h3, h4⟩ := h.own
  have hlc := F.len h1
  have hld := G.len h2
  refine ⟨Sb, d, h2, fun j u hj => ?_, h.inb, fun hb => h.out ((h3 b).2 (.inr hb)), fun k hk => h.sub k ((h3 k).2 (.inr hk)), ?_, fun A' w' S1' y' ds k1 k2 k3 k4 k5 k6 => ?_⟩
  · have := h.at' (F.E.size + j) u (by rw [List.getElem?_append_right (by omega), hlc, Nat.add_sub_cancel_left]; exact hj)
    rwa [← Nat.add_assoc] at this
  · obtain ⟨arr, T, h5, h6⟩ := h.blk
    have h6 : off + (F.E.size + G.E.size) ≤ arr.size := h6
    exact ⟨arr, T, h5, by omega⟩
  · obtain ⟨arr, arr', T, k7, k8, k9, k10⟩ := k3
    have hSa : ∀ k, Sa k → S k := fun k hk => h.sub k ((h3 k).2 (.inl hk))
    have hba : ∀ k, Sa k → k ≠ b := fun k hk e => h.out ((h3 b).2 (.inl (e ▸ hk)))
    have hF : F.own A' w' Sa y.1 c := F.stab h1 (fun k hk => k4 k (hSa k hk) (fun hb => h4 k hk hb) (hba k hk)) k5
    have hldd := G.len k1
    have := h.put A' w' (fun k => S1' k ∨ Sa k) (y.1, y') (c ++ ds) ⟨c, ds, Sa, S1', rfl, hF, k1, fun k => Or.comm, fun k hk hb => h4 k hk (k6 k hb (hSa k hk))⟩ (fun j u hj => ?_) ⟨arr, arr', T, k7, k8, k9, fun j hj => k10 j ?_⟩ (fun k a1 a2 a3 => k4 k a1 (fun ha => a2 ((h3 k).2 (.inr ha))) a3) k5 (fun k a1 a2 => a1.elim (fun a => (h3 k).2 (.inr (k6 k a a2))) fun a => (h3 k).2 (.inl a))
    · rw [set_eq (fun k => (h3 k).trans Or.comm) h.sub (fun k a b => h4 k b a)] at this
      exact this
    · by_cases hjl : j < c.length
      · rw [List.getElem?_append_left hjl] at hj
        have hc := h.at' j u (by rw [List.getElem?_append_left hjl]; exact hj)
        rw [k7.cell] at hc
        rw [k8.cell, k10 (off + j) (.inl (by omega))]
        exact hc
      · rw [List.getElem?_append_right (by omega)] at hj
        have := k2 (j - c.length) u hj
        rwa [show off + F.E.size + (j - c.length) = off + j by omega] at this
    · have hj : j < off ∨ off + (F.E.size + G.E.size) ≤ j := hj
      omega
theorem VHole.elem {T : TypeId} {xs : List α} {S1 : Nat → Prop} {cs : List Value} {Q : List α → Pw} (h : VHole (oSl T F) A w S cs xs S1 Q) {i : Nat} {x : α} (hx : xs[i]? = some x) :
    ∃ g n c S2 ds, cs = [.slice (some ⟨g, 0, none⟩) n c] ∧ Hole F A w S g (i * F.E.size) x S2 ds (fun z => Q (xs.set i z)) := by
  have hi := (List.getElem?_eq_some_iff.1 hx).1
  rcases h.own with ⟨_, rfl, _⟩ | ⟨g, c, arr, Si, rfl, h1, h2, h3, h4, h5⟩
  · simp at hi
  · obtain ⟨ds, h6, h7⟩ := h5.el i x hx
    have hSi : ∀ j k, j < xs.length → Si j k → S1 k := fun j k hj hk => (h5.set k).2 (.inr ⟨j, hj, hk⟩)
    have hgS : S1 g := (h5.set g).2 (.inl rfl)
    have hrow : ∀ j, j < xs.length → j * F.E.size + F.E.size ≤ arr.size := fun j hj => by
      rw [h4]
      have := Nat.mul_le_mul_right F.E.size (show j + 1 ≤ c by omega)
      rwa [Nat.add_mul, Nat.one_mul] at this
    refine ⟨g, xs.length, c, Si i, ds, rfl, h6, fun j u hj => ?_, h.sub g hgS, h5.out i hi, fun k hk => h.sub k (hSi i k hi hk), ⟨arr, T, h1, hrow i hi⟩, fun A' w' S1' y' es k1 k2 k3 k4 k5 k6 => ?_⟩
    · rw [h1.cell]
      exact h7 j u hj
    · obtain ⟨arr0, arr', T', k7, k8, k9, k10⟩ := k3
      obtain ⟨rfl, rfl⟩ : arr = arr0 ∧ T = T' := by
        have := h1.symm.trans k7
        injection this with this
        injection this with e1 e2
        exact ⟨e1, e2⟩
      have hes := F.len k1
      let Sj : Nat → Nat → Prop := fun j => if j = i then S1' else Si j
      have hset : (fun k => (S k ∧ ¬ Si i k) ∨ S1' k) = fun k => (S k ∧ ¬ S1 k) ∨ (k = g ∨ ∃ j, j < xs.length ∧ Sj j k) := by
        funext k
        rw [eq_iff_iff]
        constructor
        · rintro (⟨a, b⟩ | a)
          · by_cases hs1 : S1 k
            · rcases (h5.set k).1 hs1 with e | ⟨j, hj, hk⟩
              · exact .inr (.inl e)
              · have hne : j ≠ i := fun e => b (e ▸ hk)
                exact .inr (.inr ⟨j, hj, by simp only [Sj, if_neg hne]; exact hk⟩)
            · exact .inl ⟨a, hs1⟩
          · exact .inr (.inr ⟨i, hi, by simp only [Sj, if_pos]; exact a⟩)
        · rintro (⟨a, b⟩ | a | ⟨j, hj, a⟩)
          · exact .inl ⟨a, fun hk => b (hSi i k hi hk)⟩
          · exact .inl ⟨a ▸ h.sub g hgS, fun hk => h5.out i hi (a ▸ hk)⟩
          · by_cases e : j = i
            · simp only [Sj, if_pos e] at a
              exact .inr a
            · simp only [Sj, if_neg e] at a
              exact .inl ⟨h.sub k (hSi j k hj a), fun hk => h5.dis j i k hj hi e a hk⟩
      rw [hset]
      refine h.put A' w' _ (xs.set i y') (.inr ⟨g, c, arr', Sj, by rw [List.length_set], k8, by rw [List.length_set]; exact h2, h3, by rw [k9]; exact h4, ⟨fun j z hz => ?_, fun j j' k hj hj' hne a b => ?_, fun j hj => ?_, fun k => ?_⟩⟩) (fun k a b => ?_) k5 (fun k a b => ?_)
      · have hj : j < xs.length := by have := (List.getElem?_eq_some_iff.1 hz).1; rwa [List.length_set] at this
        by_cases e : j = i
        · subst e
          rw [List.getElem?_set_self hi] at hz
          injection hz with hz
          subst hz
          refine ⟨es, by simp only [Sj, if_pos]; exact k1, fun q u hq => ?_⟩
          have := k2 q u hq
          rwa [k8.cell] at this
        · rw [List.getElem?_set_ne (Ne.symm e)] at hz
          obtain ⟨fs, a1, a2⟩ := h5.el j z hz
          have hfs := F.len a1
          refine ⟨fs, ?_, fun q u hq => ?_⟩
          · simp only [Sj, if_neg e]
            refine F.stab a1 (fun k hk => k4 k (h.sub k (hSi j k hj hk)) (fun hk' => h5.dis j i k hj hi e hk hk') fun e' => h5.out j hj (e' ▸ hk)) k5
          · have hq' := (List.getElem?_eq_some_iff.1 hq).1
            rw [k10 _ ?_]
            · exact a2 q u hq
            · rcases Nat.lt_or_ge j i with hlt | hge
              · left
                have := Nat.mul_le_mul_right F.E.size (show j + 1 ≤ i by omega)
                rw [Nat.add_mul, Nat.one_mul] at this
                omega
              · right
                have := Nat.mul_le_mul_right F.E.size (show i + 1 ≤ j by omega)
                rw [Nat.add_mul, Nat.one_mul] at this
                omega
      · rw [List.length_set] at hj hj'
        simp only [Sj] at a b
        split at a <;> split at b
        · omega
        · rename_i e1 e2
          exact h5.dis j' i k hj' hi e2 b (k6 k a (h.sub k (hSi j' k hj' b)))
        · rename_i e1 e2
          exact h5.dis j i k hj hi e1 a (k6 k b (h.sub k (hSi j k hj a)))
        · exact h5.dis j j' k hj hj' hne a b
      · rw [List.length_set] at hj
        simp only [Sj]
        split
        · exact fun hg => h5.out i hi (k6 g hg (h.sub g hgS))
        · exact h5.out j hj
      · rw [List.length_set]
      · exact k4 k a (fun hk => b (hSi i k hi hk)) fun e => b (e ▸ hgS)
      · rcases a with rfl | ⟨j, hj, a⟩
        · exact hgS
        · simp only [Sj] at a
          split at a
          · exact hSi i k hi (k6 k a b)
          · exact hSi j k hj a
theorem VHole.ptr {T : TypeId} {x : α} {S1 : Nat → Prop} {cs : List Value} {Q : α → Pw} (h : VHole (oPt T F) A w S cs x S1 Q) :
    ∃ b S2 ds, cs = [.pointer (some ⟨b, 0, none⟩)] ∧ Hole F A w S b 0 x S2 ds Q := by
  obtain ⟨b, ds, S2, rfl, h1, h2, h3, h4⟩ := h.own
  have hl := F.len h2
  have hb1 : S1 b := (h4 b).2 (.inl rfl)
  refine ⟨b, S2, ds, rfl, h2, fun j u hj => ?_, h.sub b hb1, h3, fun k hk => h.sub k ((h4 k).2 (.inr hk)), ⟨_, T, h1, by simp [hl]⟩, fun A' w' S1' y' es k1 k2 k3 k4 k5 k6 => ?_⟩
  · rw [h1.cell, Nat.zero_add]
    simpa using hj
  · obtain ⟨arr0, arr', T', k7, k8, k9, k10⟩ := k3
    obtain ⟨e1, rfl⟩ : ds.toArray = arr0 ∧ T = T' := by
      have := h1.symm.trans k7
      injection this with this
      injection this with e1 e2
      exact ⟨e1, e2⟩
    subst e1
    have hes := F.len k1
    have harr : arr' = es.toArray := by
      apply Array.ext_getElem?
      intro j
      by_cases hj : j < es.length
      · have := k2 j _ (List.getElem?_eq_getElem hj)
        rw [k8.cell, Nat.zero_add] at this
        rw [this]
        simp [hj]
      · rw [Array.getElem?_eq_none (by rw [k9]; simp; omega), Array.getElem?_eq_none (by simp; omega)]
    have hset : (fun k => (S k ∧ ¬ S2 k) ∨ S1' k) = fun k => (S k ∧ ¬ S1 k) ∨ (k = b ∨ S1' k) := by
      funext k
      rw [eq_iff_iff]
      constructor
      · rintro (⟨a, c⟩ | a)
        · by_cases e : k = b
          · exact .inr (.inl e)
          · exact .inl ⟨a, fun h => ((h4 k).1 h).elim e c⟩
        · exact .inr (.inr a)
      · rintro (⟨a, c⟩ | a | a)
        · exact .inl ⟨a, fun h => c ((h4 k).2 (.inr h))⟩
        · exact .inl ⟨a ▸ h.sub b hb1, fun h => h3 (a ▸ h)⟩
        · exact .inr a
    rw [hset]
    refine h.put A' w' _ y' ⟨b, es, S1', rfl, harr ▸ k8, k1, fun hb => h3 (k6 b hb (h.sub b hb1)), fun k => Iff.rfl⟩ (fun k a c => k4 k a (fun hk => c ((h4 k).2 (.inr hk))) fun e => c (e ▸ hb1)) k5 (fun k a c => ?_)
    rcases a with rfl | a
    · exact hb1
    · exact (h4 k).2 (.inr (k6 k a c))
end
end
end Go.Proofs.Ytmgiijdejigdhaa
