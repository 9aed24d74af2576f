/- A small logic over the walk's rules: typed readings of memory (Enc), registers as functions (HT), regions whose operations may come in any order. No statement of the seat is proved here. -/
import Derived.Test.YtmgiijdejigdhaaBase
import Derived.Test.YtmgiijdejigdhaaDk
import Derived.Orders
import Derived.Deep.Draws
namespace Go.Proofs.Ytmgiijdejigdhaa
open Go.RowKit
set_option linter.unusedVariables false

/-! ### worlds -/
/-- no draw is taken back (where that is kept: text Dk) -/
abbrev DLe (w w' : World) : Prop := DK → w.drawn ≤ w'.drawn
theorem DLe.refl (w : World) : DLe w w := fun _ => Nat.le_refl _
theorem DLe.trans {a b c : World} (h : DLe a b) (k : DLe b c) : DLe a c := fun d => Nat.le_trans (h d) (k d)
/-- w' is w and new blocks; no draw is taken back -/
structure Fr (w w' : World) : Prop extends Below w.heap.size w w' where
  drawn : DLe w w'
theorem Fr.cell {w w' : World} (h : Fr w w') {p : Addr} (hp : p.block < w.heap.size) : w'.cell? p = w.cell? p := h.toBelow.cell hp
theorem Fr.refl (w : World) : Fr w w := ⟨Below.refl _ _, DLe.refl _⟩
theorem Fr.trans {a b c : World} (h : Fr a b) (k : Fr b c) : Fr a c := ⟨Below.trans h.toBelow (k.toBelow.mono h.size), DLe.trans h.drawn k.drawn⟩
theorem Fr.under {B : Nat} {a b c : World} (h : Below B a b) (k : Fr b c) (hB : B ≤ b.heap.size) : Below B a c := h.trans (k.toBelow.mono hB)
theorem Fr.alloc (w : World) (o : Obj) : Fr w (w.alloc o) := ⟨(Below.refl _ _).alloc (Nat.le_refl _) o, DLe.refl _⟩
theorem Fr.drew (w : World) : Fr w { w with drawn := w.drawn + 1 } := ⟨⟨rfl, rfl, rfl, Nat.le_refl _, fun _ _ => rfl⟩, fun _ => Nat.le_succ _⟩

/-- cells that a reading must not rest on -/
abbrev Av := Nat → Nat → Prop
abbrev av0 : Av := fun _ _ => False
def AvOK (A : Av) (w : World) : Prop := ∀ b o, A b o → b < w.heap.size
theorem AvOK.fr {A : Av} {w w' : World} (h : AvOK A w) (hf : w.heap.size ≤ w'.heap.size) : AvOK A w' := fun b o hb => Nat.lt_of_lt_of_le (h b o hb) hf

/-- from (A, w) to (A', w'): what is not avoided stays; of the old blocks no more is avoided than before -/
structure Stp (A A' : Av) (w w' : World) : Prop where
  size : w.heap.size ≤ w'.heap.size
  cell : ∀ b o v, w.cell? ⟨b, o, none⟩ = some v → ¬ A b o → w'.cell? ⟨b, o, none⟩ = some v
  av : ∀ b o, b < w.heap.size → A' b o → A b o
theorem cell_lt' {w : World} {b o : Nat} {s : Option Nat} {v : Value} (h : w.cell? ⟨b, o, s⟩ = some v) : b < w.heap.size := by
  rcases Nat.lt_or_ge b w.heap.size with hlt | hge
  · exact hlt
  · unfold World.cell? at h
    rw [Array.getElem?_eq_none hge] at h
    cases h
theorem Fr.stp {w w' : World} (A : Av) (h : Fr w w') : Stp A A w w' :=
  ⟨h.size, fun b o v hv _ => (h.cell (p := ⟨b, o, none⟩) (cell_lt' hv)).trans hv, fun _ _ _ h => h⟩
theorem Stp.trans {A A' A'' : Av} {a b c : World} (h : Stp A A' a b) (k : Stp A' A'' b c) : Stp A A'' a c :=
  ⟨Nat.le_trans h.size k.size, fun x o v hv hn => k.cell x o v (h.cell x o v hv hn) fun hA => hn (h.av x o (cell_lt' hv) hA),
   fun x o hx hA => h.av x o hx (k.av x o (Nat.lt_of_lt_of_le hx h.size) hA)⟩

/-! ### typed readings -/
structure Enc (α : Type) where
  size : Nat
  agg : Bool
  rep : Av → World → α → List Value → Prop
  len : ∀ {A w x cs}, rep A w x cs → cs.length = size
  one : agg = false → size = 1
  oc : ∀ {A w x cs}, rep A w x cs → ∀ c ∈ cs, c.oneCell' = true
  stp : ∀ {A A' w w' x cs}, Stp A A' w w' → rep A w x cs → rep A' w' x cs

section
variable {α β : Type}
def Enc.val (E : Enc α) (cs : List Value) : Value := if E.agg then .agg cs.toArray else cs.headD undef
def Rep (E : Enc α) (A : Av) (w : World) (v : Value) (x : α) : Prop := ∃ cs, v = E.val cs ∧ E.rep A w x cs
/-- the cells from (b, o) on read x -/
def PAt (E : Enc α) (A : Av) (w : World) (b o : Nat) (x : α) : Prop := ∃ cs, E.rep A w x cs ∧ ∀ j u, cs[j]? = some u → w.cell? ⟨b, o + j, none⟩ = some u
/-- the same, and none of them is avoided -/
def QAt (E : Enc α) (A : Av) (w : World) (b o : Nat) (x : α) : Prop := PAt E A w b o x ∧ ∀ j, j < E.size → ¬ A b (o + j)
/-- v is an address at which x is read -/
def PRep (E : Enc α) (A : Av) (w : World) (v : Value) (x : α) : Prop := ∃ b o, v = .pointer (some ⟨b, o, none⟩) ∧ b < w.heap.size ∧ PAt E A w b o x

/-- v is an address in memory that stays, x is read there -/
def QRep (E : Enc α) (A : Av) (w : World) (v : Value) (x : α) : Prop := ∃ b o, v = .pointer (some ⟨b, o, none⟩) ∧ b < w.heap.size ∧ QAt E A w b o x

theorem Rep.stp {E : Enc α} {A A' : Av} {w w' : World} {v : Value} {x : α} (h : Rep E A w v x) (hs : Stp A A' w w') : Rep E A' w' v x :=
  let ⟨cs, h1, h2⟩ := h; ⟨cs, h1, E.stp hs h2⟩
theorem Rep.fr {E : Enc α} {A : Av} {w w' : World} {v : Value} {x : α} (h : Rep E A w v x) (hs : Fr w w') : Rep E A w' v x := h.stp (hs.stp A)
theorem PAt.fr {E : Enc α} {A : Av} {w w' : World} {b o : Nat} {x : α} (h : PAt E A w b o x) (hb : b < w.heap.size) (hs : Fr w w') : PAt E A w' b o x :=
  let ⟨cs, h1, h2⟩ := h; ⟨cs, E.stp (hs.stp A) h1, fun j u hu => (hs.cell (p := ⟨b, o + j, none⟩) hb).trans (h2 j u hu)⟩
theorem PRep.fr {E : Enc α} {A : Av} {w w' : World} {v : Value} {x : α} (h : PRep E A w v x) (hs : Fr w w') : PRep E A w' v x :=
  let ⟨b, o, h1, h2, h3⟩ := h; ⟨b, o, h1, Nat.lt_of_lt_of_le h2 hs.size, h3.fr h2 hs⟩
theorem QAt.stp {E : Enc α} {A A' : Av} {w w' : World} {b o : Nat} {x : α} (h : QAt E A w b o x) (hb : b < w.heap.size) (hs : Stp A A' w w') : QAt E A' w' b o x := by
  obtain ⟨⟨cs, h1, h2⟩, h3⟩ := h
  refine ⟨⟨cs, E.stp hs h1, fun j u hu => hs.cell _ _ _ (h2 j u hu) (h3 j ?_)⟩, fun j hj hA => h3 j hj (hs.av _ _ hb hA)⟩
  rw [← E.len h1]
  exact (List.getElem?_eq_some_iff.1 hu).1

theorem QRep.stp {E : Enc α} {A A' : Av} {w w' : World} {v : Value} {x : α} (h : QRep E A w v x) (hs : Stp A A' w w') : QRep E A' w' v x :=
  let ⟨b, o, h1, h2, h3⟩ := h; ⟨b, o, h1, Nat.lt_of_lt_of_le h2 hs.size, h3.stp h2 hs⟩
theorem QRep.ptr {E : Enc α} {A : Av} {w : World} {v : Value} {x : α} (h : QRep E A w v x) : PRep E A w v x := let ⟨b, o, h1, h2, h3, _⟩ := h; ⟨b, o, h1, h2, h3⟩
def eInt (k : IntKind) : Enc Int where
  size := 1
  agg := false
  rep := fun _ _ x cs => cs = [.int k x]
  len := by intro A w x cs h; subst h; rfl
  one := fun _ => rfl
  oc := by intro A w x cs h c hc; subst h; simp at hc; subst hc; rfl
  stp := fun _ h => h
def eBool : Enc Bool where
  size := 1
  agg := false
  rep := fun _ _ x cs => cs = [.bool x]
  len := by intro A w x cs h; subst h; rfl
  one := fun _ => rfl
  oc := by intro A w x cs h c hc; subst h; simp at hc; subst hc; rfl
  stp := fun _ h => h
/-- a string, read as the list of its bytes -/
def eStr : Enc (List UInt8) where
  size := 1
  agg := false
  rep := fun _ _ x cs => ∃ s : ByteArray, cs = [.string s] ∧ s.data.toList = x ∧ s.size ≤ maxLen
  len := by rintro A w x cs ⟨s, rfl, _⟩; rfl
  one := fun _ => rfl
  oc := by rintro A w x cs ⟨s, rfl, _⟩ c hc; simp at hc; subst hc; rfl
  stp := fun _ h => h
/-- a slice whose elements read as the list -/
def eSl (E : Enc α) : Enc (List α) where
  size := 1
  agg := false
  rep := fun A w xs cs => ∃ (a : Option Addr) (n c : Nat), cs = [.slice a n c] ∧ xs.length = n ∧ n ≤ c ∧ c ≤ maxLen ∧
    (0 < n → ∃ b off, a = some ⟨b, off, none⟩ ∧ b < w.heap.size ∧ ∀ i x, xs[i]? = some x → QAt E A w b (off + i * E.size) x)
  len := by rintro A w x cs ⟨a, n, c, rfl, _⟩; rfl
  one := fun _ => rfl
  oc := by rintro A w x cs ⟨a, n, c, rfl, _⟩ c hc; simp at hc; subst hc; rfl
  stp := by
    rintro A A' w w' x cs hs ⟨a, n, c, rfl, h1, h2, h3, h4⟩
    refine ⟨a, n, c, rfl, h1, h2, h3, fun hn => ?_⟩
    obtain ⟨b, off, e, hb, h⟩ := h4 hn
    exact ⟨b, off, e, Nat.lt_of_lt_of_le hb hs.size, fun i y hy => (h i y hy).stp hb hs⟩
/-- two parts, one behind the other -/
def ePr (E : Enc α) (F : Enc β) : Enc (α × β) where
  size := E.size + F.size
  agg := true
  rep := fun A w x cs => ∃ c d, cs = c ++ d ∧ E.rep A w x.1 c ∧ F.rep A w x.2 d
  len := by rintro A w x cs ⟨c, d, rfl, h1, h2⟩; rw [List.length_append, E.len h1, F.len h2]
  one := fun h => by cases h
  oc := by
    rintro A w x cs ⟨c, d, rfl, h1, h2⟩ v hv
    rcases List.mem_append.1 hv with h | h
    · exact E.oc h1 v h
    · exact F.oc h2 v h
  stp := by
    rintro A A' w w' x cs hs ⟨c, d, rfl, h1, h2⟩
    exact ⟨c, d, rfl, E.stp hs h1, F.stp hs h2⟩
/-- the part of E from cell off on reads as F through p -/
structure Fld (E : Enc α) (off : Nat) (F : Enc β) (p : α → β) : Prop where
  le : off + F.size ≤ E.size
  get : ∀ {A w x cs}, E.rep A w x cs → F.rep A w (p x) ((cs.drop off).take F.size)
theorem Fld.id (E : Enc α) : Fld E 0 E fun x => x := ⟨by simp, fun {A w x cs} h => by rw [List.drop_zero, List.take_of_length_le (by rw [E.len h]; exact Nat.le_refl _)]; exact h⟩
theorem Fld.fst {E : Enc α} {F : Enc β} : Fld (ePr E F) 0 E Prod.fst :=
  ⟨by simp [ePr], by rintro A w x cs ⟨c, d, rfl, h1, h2⟩; rw [List.drop_zero, ← E.len h1, List.take_left']; · exact h1
                     · rfl⟩
theorem Fld.snd {γ : Type} {E : Enc α} {F : Enc β} {G : Enc γ} {o : Nat} {p : β → γ} (h : Fld F o G p) : Fld (ePr E F) (E.size + o) G fun x => p x.2 :=
  ⟨by have := h.le; simp [ePr]; omega, by
    rintro A w x cs ⟨c, d, rfl, h1, h2⟩
    have e : (c ++ d).drop (E.size + o) = d.drop o := by
      rw [← E.len h1, List.drop_append, List.drop_eq_nil_of_le (by omega), List.nil_append]
      congr 1
      omega
    rw [e]
    exact h.get h2⟩
end
end Go.Proofs.Ytmgiijdejigdhaa
