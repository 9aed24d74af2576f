/- Regions whose operations make and write memory of their own, in whatever order: each such operation takes a resource (a variable, a row) from one operation and hands it on to another. No statement of the seat is proved here. -/
import Derived.Test.YtmgiijdejigdhaaDo
namespace Go.Proofs.Ytmgiijdejigdhaa
open Go.RowKit
set_option linter.unusedVariables false

/-- the block that a value leads to -/
def ownsB : Value → Nat → Prop
  | .pointer (some a), k => a.block = k
  | .slice (some a) _ _, k => a.block = k
  | _, _ => False
/-- the cells cs read as the list xs -/
def Flat {α : Type} (E : Enc α) (A : Av) (w : World) (cs : List Value) (xs : List α) : Prop :=
  cs.length = xs.length * E.size ∧ ∀ (i : Nat) x, xs[i]? = some x → ∃ ds, E.rep A w x ds ∧ ∀ (j : Nat) d, ds[j]? = some d → cs[i * E.size + j]? = some d
/-- the byte type -/
def tByte : TypeId := 5
/-- no cell of a row of n cells is frozen; a row of bytes may bear a mark behind its cells -/
def MarkOK (t : TypeId) (n : Nat) (fz : Nat × Nat) : Prop := fz = (0, 0) ∨ (t = tByte ∧ n ≤ fz.1)
def BlkM (w : World) (g : Nat) (t : TypeId) (cs : Array Value) : Prop := ∃ fz, w.heap[g]? = some (.cells cs t fz) ∧ MarkOK t cs.size fz
theorem BlkM.of {w : World} {g : Nat} {t : TypeId} {cs : Array Value} (h : Blk w g t cs) : BlkM w g t cs := ⟨_, h, .inl rfl⟩
theorem BlkM.plain {w : World} {g : Nat} {t : TypeId} {cs : Array Value} (h : BlkM w g t cs) (ht : t ≠ tByte) : Blk w g t cs := by
  obtain ⟨fz, h1, rfl | h2⟩ := h
  · exact h1
  · exact absurd h2.1 ht
theorem BlkM.lt {w : World} {g : Nat} {t : TypeId} {cs : Array Value} (h : BlkM w g t cs) : g < w.heap.size := by
  obtain ⟨fz, h1, _⟩ := h
  exact (Array.getElem?_eq_some_iff.1 h1).1
theorem BlkM.stay {w w' : World} {g : Nat} {t : TypeId} {cs : Array Value} (h : BlkM w g t cs) (he : w'.heap[g]? = w.heap[g]?) : BlkM w' g t cs := by
  obtain ⟨fz, h1, h2⟩ := h
  exact ⟨fz, he.trans h1, h2⟩
theorem BlkM.cell {w : World} {g : Nat} {t : TypeId} {cs : Array Value} (h : BlkM w g t cs) (i : Nat) : w.cell? ⟨g, i, none⟩ = cs[i]? := by
  obtain ⟨fz, h1, _⟩ := h
  exact cell_of_row w g i cs t fz h1
theorem BlkM.frozen {w : World} {g : Nat} {t : TypeId} {cs : Array Value} (h : BlkM w g t cs) (i : Nat) (hi : i < cs.size) : w.frozen? ⟨g, i, none⟩ = false := by
  obtain ⟨fz, h1, rfl | h2⟩ := h
  · exact Blk.frozen h1 i
  · obtain ⟨lo, hi'⟩ := fz
    have h3 : cs.size ≤ lo := h2.2
    simp only [World.frozen?, h1, Bool.and_eq_false_iff, decide_eq_false_iff_not]
    left
    omega
theorem BlkM.put {w : World} {g : Nat} {t : TypeId} {cs : Array Value} (h : BlkM w g t cs) (i : Nat) (u : Value) : BlkM (w.setCell ⟨g, i, none⟩ u) g t (cs.setIfInBounds i u) := by
  obtain ⟨fz, h1, h2⟩ := h
  refine ⟨fz, ?_, by rwa [Array.size_setIfInBounds]⟩
  simp only [World.setCell]
  rw [Array.getElem?_modify, if_pos rfl, h1]
  rfl
/-- the value u is a row of n elements of the call's own, with the cells cs -/
def RowM (w : World) (B : Nat) (T : TypeId) (size : Nat) (u : Value) (n : Nat) (cs : List Value) : Prop :=
  cs.length = n * size ∧ ((u = .slice none 0 0 ∧ n = 0) ∨ ∃ g cap cur, u = .slice (some ⟨g, 0, none⟩) n cap ∧ B ≤ g ∧ BlkM w g T cur ∧ n ≤ cap ∧ cap ≤ maxLen ∧ cur.size = cap * size ∧ cur.toList.take (n * size) = cs)
theorem RowM.of {w : World} {B : Nat} {T : TypeId} {size : Nat} {u : Value} {n : Nat} {cs : List Value} (h : w.ownsRow B T size u n cs) : RowM w B T size u n cs := by
  refine ⟨h.1, ?_⟩
  rcases h.2 with h | ⟨g, cap, cur, h1, h2, h3, h4⟩
  · exact .inl h
  · exact .inr ⟨g, cap, cur, h1, h2, BlkM.of h3, h4⟩
theorem RowM.cells {w : World} {B : Nat} {T : TypeId} {size : Nat} {u : Value} {n : Nat} {cs : List Value} (h : RowM w B T size u n cs) {g : Nat} (hg : u.ownBlock = some g) : ∀ j v, cs[j]? = some v → w.cell? ((⟨g, 0, none⟩ : Addr).add j) = some v := by
  intro j v hv
  rcases h.2 with ⟨rfl, _⟩ | ⟨g', cap, cur, rfl, _, hgg, _, _, _, htk⟩
  · cases hg
  · injection hg with hg
    subst hg
    have hadd : (⟨g', 0, none⟩ : Addr).add j = ⟨g', j, none⟩ := by unfold Addr.add; split <;> simp_all
    rw [hadd, hgg.cell]
    rw [← htk, List.getElem?_take] at hv
    split at hv
    · simpa using hv
    · cases hv
/-- a row of the call's own, read as the list xs -/
def Vec {α : Type} (E : Enc α) (A : Av) (B : Nat) (T : TypeId) (w : World) (u : Value) (xs : List α) : Prop :=
  ∃ cs, RowM w B T E.size u xs.length cs ∧ Flat E A w cs xs
/-- what holds of a value and of blocks of its own, as long as these stay and nothing that it reads beside them changes -/
structure SP where
  P : Av → World → (Nat → Prop) → Value → Prop
  lt : ∀ {A w S u k}, P A w S u → S k → k < w.heap.size
  stab : ∀ {A A' w w' S u}, P A w S u → (∀ k, S k → w'.heap[k]? = w.heap[k]?) → Stp A A' w w' → P A' w' S u
inductive Res : Type 1
  | box {α : Type} (B : Nat) (T : TypeId) (E : Enc α) (x : α)
  | vec {α : Type} (B : Nat) (T : TypeId) (E : Enc α) (xs : List α)
  | gen (K : Nat → Prop) (p : SP)
  | nul
/-- which blocks a resource owns -/
def Res.own : Res → Av → Value → (Nat → Prop) → World → Prop
  | .gen K p, A, u, S, w => (∀ k, S k → K k) ∧ p.P A w S u
  | .nul, _, _, S, _ => S = fun _ => False
  | .box .., _, u, S, _ => S = ownsB u
  | .vec .., _, u, S, _ => S = ownsB u
/-- a resource of one block, to be found by its value -/
def Res.isB : Res → Bool
  | .gen .. => false
  | .nul => false
  | _ => true
def Res.ok : Res → Av → Value → World → Prop
  | .box B T E x, A, u, w => ∃ b, u = .pointer (some ⟨b, 0, none⟩) ∧ B ≤ b ∧ BoxAt E A w b T x
  | .vec B T E xs, A, u, w => Vec E A B T w u xs
  | .gen .., _, _, _ => True
  | .nul, _, _, _ => True
theorem Res.own_iff {r : Res} (h : r.isB = true) {A : Av} {u : Value} {S : Nat → Prop} {w : World} : r.own A u S w ↔ S = ownsB u := by
  cases r <;> first | exact Iff.rfl | cases h
theorem Res.own_mk {r : Res} (h : r.isB = true) {A : Av} {u : Value} {w : World} : r.own A u (ownsB u) w := (Res.own_iff h).2 rfl
theorem Flat.stp {α : Type} {E : Enc α} {A A' : Av} {w w' : World} {cs : List Value} {xs : List α} (h : Flat E A w cs xs) (hs : Stp A A' w w') : Flat E A' w' cs xs :=
  ⟨h.1, fun i x hx => let ⟨ds, h1, h2⟩ := h.2 i x hx; ⟨ds, E.stp hs h1, h2⟩⟩
theorem Res.lt {r : Res} {A : Av} {u : Value} {w : World} (h : r.ok A u w) (hB : r.isB = true) {k : Nat} (hk : ownsB u k) : k < w.heap.size := by
  cases r with
  | gen B p => cases hB
  | nul => cases hB
  | box B T E x =>
    obtain ⟨b, rfl, _, h⟩ := h
    have : b = k := hk
    subst this
    exact h.lt
  | vec B T E xs =>
    obtain ⟨cs, ⟨_, h⟩, _⟩ := h
    rcases h with ⟨rfl, _⟩ | ⟨b, c, cur, rfl, _, h, _⟩
    · exact hk.elim
    · have : b = k := hk
      subst this
      exact h.lt
theorem Res.ltS {r : Res} {A : Av} {u : Value} {S : Nat → Prop} {w : World} (h : r.ok A u w) (ho : r.own A u S w) {k : Nat} (hk : S k) : k < w.heap.size := by
  cases r with
  | gen B p => exact p.lt ho.2 hk
  | nul => obtain rfl := ho; exact hk.elim
  | box B T E x => obtain rfl := ho; exact Res.lt h rfl hk
  | vec B T E xs => obtain rfl := ho; exact Res.lt h rfl hk
theorem Res.stab {r : Res} {A A' : Av} {u : Value} {w w' : World} (h : r.ok A u w) (hb : ∀ k, ownsB u k → w'.heap[k]? = w.heap[k]?) (hs : Stp A A' w w') : r.ok A' u w' := by
  cases r with
  | gen B p => trivial
  | nul => trivial
  | box B T E x =>
    obtain ⟨b, rfl, h1, cs, h2, h3⟩ := h
    exact ⟨b, rfl, h1, cs, (hb b rfl).trans h2, E.stp hs h3⟩
  | vec B T E xs =>
    obtain ⟨cs, ⟨h0, h⟩, hf⟩ := h
    rcases h with ⟨rfl, h⟩ | ⟨b, c, cur, rfl, h1, h2, h3⟩
    · exact ⟨cs, ⟨h0, .inl ⟨rfl, h⟩⟩, hf.stp hs⟩
    · exact ⟨cs, ⟨h0, .inr ⟨b, c, cur, rfl, h1, h2.stay (hb b rfl), h3⟩⟩, hf.stp hs⟩

theorem Res.stabS {r : Res} {A A' : Av} {u : Value} {S : Nat → Prop} {w w' : World} (h : r.ok A u w) (ho : r.own A u S w) (hb : ∀ k, S k → w'.heap[k]? = w.heap[k]?) (hs : Stp A A' w w') : r.ok A' u w' ∧ r.own A' u S w' := by
  cases r with
  | gen B p => exact ⟨trivial, ho.1, p.stab ho.2 hb hs⟩
  | nul => exact ⟨trivial, ho⟩
  | box B T E x => obtain rfl := ho; exact ⟨Res.stab h hb hs, rfl⟩
  | vec B T E xs => obtain rfl := ho; exact ⟨Res.stab h hb hs, rfl⟩

/-- w' is w but for the blocks in K and new ones -/
structure Ch (K : Nat → Prop) (w w' : World) : Prop where
  os : w'.os = w.os
  tape : w'.tape = w.tape
  output : w'.output = w.output
  size : w.heap.size ≤ w'.heap.size
  block : ∀ k, k < w.heap.size → ¬ K k → w'.heap[k]? = w.heap[k]?
  drawn : DLe w w'
theorem Ch.refl (K : Nat → Prop) (w : World) : Ch K w w := ⟨rfl, rfl, rfl, Nat.le_refl _, fun _ _ _ => rfl, DLe.refl _⟩
theorem Fr.ch {w w' : World} (h : Fr w w') (K : Nat → Prop) : Ch K w w' := ⟨h.os, h.tape, h.output, h.size, fun k hk _ => h.block k hk, h.drawn⟩
theorem Wr.ch {b : Nat} {w w' : World} (h : Wr b w w') : Ch (fun k => b = k) w w' := ⟨h.os, h.tape, h.output, by rw [h.size]; exact Nat.le_refl _, fun k _ hn => h.block k (fun e => hn e.symm), h.drawn⟩
theorem Ch.trans {K K' : Nat → Prop} {a b c : World} (h : Ch K a b) (k : Ch K' b c) (hK : ∀ i, i < a.heap.size → K' i → K i) : Ch K a c :=
  ⟨k.os.trans h.os, k.tape.trans h.tape, k.output.trans h.output, Nat.le_trans h.size k.size, fun i hi hn => (k.block i (Nat.lt_of_lt_of_le hi h.size) fun h' => hn (hK i hi h')).trans (h.block i hi hn), DLe.trans h.drawn k.drawn⟩
theorem Ch.below {K : Nat → Prop} {B : Nat} {w w' : World} (h : Ch K w w') (hB : B ≤ w.heap.size) (hK : ∀ k, K k → B ≤ k) : Below B w w' :=
  ⟨h.os, h.tape, h.output, h.size, fun k hk => h.block k (by omega) fun h' => by have := hK k h'; omega⟩
theorem Fr.tr {K : Nat → Prop} {a b c : World} (h : Fr a b) (k : Ch K b c) (hK : ∀ i, K i → a.heap.size ≤ i) : Fr a c := ⟨Below.trans h.toBelow (k.below h.size hK), DLe.trans h.drawn k.drawn⟩
theorem Ch.tr {K K' : Nat → Prop} {a b c : World} (h : Ch K a b) (k : Ch K' b c) (hK : ∀ i, K' i → a.heap.size ≤ i ∨ K i) : Ch K a c := h.trans k fun i hi hk => (hK i hk).resolve_left (by omega)

/-- an object: its value, its blocks, what it holds -/
structure Ob where
  u : Value
  S : Nat → Prop
  r : Res
/-- an object of one block -/
abbrev ob (u : Value) (r : Res) : Ob := ⟨u, ownsB u, r⟩
structure EntR where
  o : Oper
  g : Bool
  con : List Nat
  res : Option Res
  lk : Bool
  f : Av → Fact
def EntR.isDst (x : EntR) (t : Nat) : Bool := match x.o.dst with | some d => Nat.beq d t | none => false
def okReadFromR (i t : Nat) : Nat → List EntR → Bool
  | _, [] => true
  | j, x :: l => (!x.isDst t || Nat.beq j i || x.o.after.toList.any (fun e => bnd e && Nat.beq e.on i)) && okReadFromR i t (j + 1) l
def okReadR (l : List EntR) (i t : Nat) : Bool := okReadFromR i t 0 l
def notDstR (l : List EntR) (t : Nat) : Bool := l.all fun x => !x.isDst t
def DepsR (l : List EntR) (A : Av) (R : Reg) (w : World) (es : List Edge) : Prop :=
  ∀ (i : Nat) e x d, es[i]? = some e → bnd e = true → l[e.on]? = some x → x.o.dst = some d → x.g = true → (x.f A).ok (R d) w
def GuardR (l : List EntR) (x : EntR) : Prop := match x.o.guard with
  | none => x.g = true
  | some (j, want) => x.con = [] ∧ x.res = none ∧ ∃ y c d, l[j]? = some y ∧ y.o.dst = some d ∧ (∀ A, y.f A = .raw (.bool c)) ∧ x.g = (y.g && (c == want)) ∧ x.o.after.toList.any (fun e => bnd e && Nat.beq e.on j) = true
/-- which resources there are at first, and from the operations -/
def resAt (ini : List Ob) (l : List EntR) (id : Nat) : Option Res := match ini[id]? with
  | some p => some p.r
  | none => (l[id - ini.length]?).bind (·.res)
def isIni (ini : List Ob) (k : Nat) : Prop := ∃ (i : Nat) (p : Ob), ini[i]? = some p ∧ p.S k
/-- what stays: the avoided cells without u's, and those of u' -/
abbrev swapS (A : Av) (S S' : Nat → Prop) : Av := fun b o => (A b o ∧ ¬ S b) ∨ S' b
abbrev addS (A : Av) (S : Nat → Prop) : Av := fun b o => A b o ∨ S b
abbrev swapA (A : Av) (u u' : Value) : Av := swapS A (ownsB u) (ownsB u')
abbrev addA (A : Av) (u : Value) : Av := addS A (ownsB u)
/-- resource id of the start has not been taken when operation i comes -/
def readOK (l : List EntR) (i id : Nat) : Bool := l.all fun y => (y.con.all fun c => !Nat.beq c id) || y.o.after.toList.any (fun e => bnd e && Nat.beq e.on i)
/-- the object of the start that an operation's object is, where none of the operations between gave another value -/
def rootOf (ini : List Ob) (l : List EntR) : Nat → Nat → Option Nat
  | 0, _ => none
  | n + 1, id => match ini[id]? with
    | some _ => some id
    | none => match l[id - ini.length]? with
      | some y => bif y.lk || !y.res.isSome then none else (match y.con with
        | c :: _ => rootOf ini l n c
        | [] => none)
      | none => none
/-- what an operation that takes a resource must show -/
def Took (A : Av) (lk : Bool) (u : Value) (r : Res) (f : Av → Fact) (w : World) (v : Value) (w'' : World) : Prop :=
  ∃ u'', (match lk with | true => u'' = v | false => u'' = u) ∧ Ch (ownsB u) w w'' ∧ (∀ k, k < w.heap.size → ownsB u'' k → ownsB u k) ∧ Stp A (swapA A u u'') w w'' ∧ r.ok (swapA A u u'') u'' w'' ∧ (f (swapA A u u'')).ok v w''
/-- what an operation that makes a resource must show -/
def Made (A : Av) (r : Res) (f : Av → Fact) (w : World) (v : Value) (w'' : World) : Prop := Fr w w'' ∧ (∀ k, ownsB v k → w.heap.size ≤ k) ∧ r.ok (addA A v) v w'' ∧ (f (addA A v)).ok v w''
/-- the same, of whatever blocks -/
def TookS (A : Av) (lk : Bool) (u : Value) (S : Nat → Prop) (r : Res) (f : Av → Fact) (w : World) (v : Value) (w'' : World) : Prop :=
  ∃ u'' S'', (match lk with | true => u'' = v | false => u'' = u) ∧ Ch S w w'' ∧ (∀ k, k < w.heap.size → S'' k → S k) ∧ Stp A (swapS A S S'') w w'' ∧ r.ok (swapS A S S'') u'' w'' ∧ r.own (swapS A S S'') u'' S'' w'' ∧ (f (swapS A S S'')).ok v w''
def MadeS (A : Av) (r : Res) (f : Av → Fact) (w : World) (v : Value) (w'' : World) : Prop :=
  ∃ S, Fr w w'' ∧ (∀ k, S k → w.heap.size ≤ k) ∧ r.ok (addS A S) v w'' ∧ r.own (addS A S) v S w'' ∧ (f (addS A S)).ok v w''
theorem Took.toS {A : Av} {lk : Bool} {u : Value} {r : Res} {f : Av → Fact} {w : World} {v : Value} {w'' : World} (h : Took A lk u r f w v w'') (hB : r.isB = true) : TookS A lk u (ownsB u) r f w v w'' :=
  by obtain ⟨u'', h1, h2, h3, h4, h5, h6⟩ := h; cases lk <;> exact ⟨u'', ownsB u'', h1, h2, h3, h4, h5, Res.own_mk hB, h6⟩
theorem Made.toS {A : Av} {r : Res} {f : Av → Fact} {w : World} {v : Value} {w'' : World} (h : Made A r f w v w'') (hB : r.isB = true) : MadeS A r f w v w'' :=
  let ⟨h1, h2, h3, h4⟩ := h; ⟨ownsB v, h1, h2, h3, Res.own_mk hB, h4⟩
def OblR (P : Program) (ini : List Ob) (l : List EntR) (A : Av) (R : Reg) (w : World) (i : Nat) (x : EntR) : Prop :=
  GuardR l x ∧ (x.g = true → ∀ A' R' w', Ch (isIni ini) w w' → Stp A A' w w' → AvOK A' w' → (∀ t, okReadR l i t = true → R' t = R t) → DepsR l A' R' w' x.o.after.toList → (∀ (id : Nat) p, ini[id]? = some p → readOK l i id = true → p.r.ok A' p.u w' ∧ p.r.own A' p.u p.S w') → (∀ b o, A b o → ¬ isIni ini b → A' b o) →
    match x.con, x.res with
    | [], none => OpR P x.o R' w' fun v w'' => (x.f A').ok v w'' ∧ Fr w' w''
    | [], some r => OpR P x.o R' w' (MadeS A' r x.f w')
    | c :: cs, some r => ∀ (ρ : Nat → Value) (σ : Nat → Nat → Prop), (∀ d, d ∈ c :: cs → ∀ rc, resAt ini l d = some rc → rc.ok A' (ρ d) w' ∧ rc.own A' (ρ d) (σ d) w') → (∀ d, d ∈ c :: cs → ∀ k, σ d k → ∀ o, A' k o) → (∀ d, d ∈ c :: cs → ∀ p, ini[d]? = some p → ρ d = p.u ∧ σ d = p.S) →
        (∀ d, d ∈ c :: cs → ∀ y t, ini[d]? = none → l[d - ini.length]? = some y → y.lk = true → y.o.dst = some t → ρ d = R' t) → (∀ d, d ∈ c :: cs → ∀ (id : Nat) p, ini[id]? = some p → id ≠ d → readOK l i id = true → ∀ k, σ d k → ¬ p.S k) → (∀ d d', d ∈ c :: cs → d' ∈ c :: cs → d ≠ d' → ∀ k, σ d k → ¬ σ d' k) → (∀ d, d ∈ c :: cs → ∀ (n r : Nat) p, rootOf ini l n d = some r → ini[r]? = some p → ρ d = p.u) →
        OpR P x.o R' w' (TookS A' x.lk (ρ c) (fun k => ∃ d, d ∈ c :: cs ∧ σ d k) r x.f w')
    | _ :: _, none => False)
def OblsR (P : Program) (ini : List Ob) (l : List EntR) (A : Av) (R : Reg) (w : World) : Nat → List EntR → Prop
  | _, [] => True
  | i, x :: r => OblR P ini l A R w i x ∧ OblsR P ini l A R w (i + 1) r
theorem OblsR.at {P : Program} {ini : List Ob} {l : List EntR} {A : Av} {R : Reg} {w : World} : ∀ (r : List EntR) (k : Nat), OblsR P ini l A R w k r → ∀ i x, r[i]? = some x → OblR P ini l A R w (k + i) x
  | [], _, _, i, x, hx => by simp at hx
  | y :: r, k, h, 0, x, hx => by simp at hx; subst hx; exact h.1
  | y :: r, k, h, i + 1, x, hx => by
    have := OblsR.at r (k + 1) h.2 i x (by simpa using hx)
    rwa [show k + 1 + i = k + (i + 1) by omega] at this

def Live (ini : List Ob) (l : List EntR) (done : Nat → Bool) (id : Nat) : Prop :=
  (id < ini.length ∨ done (id - ini.length) = true) ∧ ∀ (j : Nat) y, l[j]? = some y → id ∈ y.con → done j = false
structure InvR (ini : List Ob) (l : List EntR) (A : Av) (R : Reg) (w : World) (done : Nat → Bool) (ρ : Nat → Value) (σ : Nat → Nat → Prop) (A' : Av) (R' : Reg) (w' : World) : Prop where
  ch : Ch (isIni ini) w w'
  stp : Stp A A' w w'
  avok : AvOK A' w'
  av0 : AvOK A w
  low : ∀ b o, A b o → ¬ isIni ini b → A' b o
  old : ∀ t, (∀ i x, l[i]? = some x → x.isDst t = true → done i = false) → R' t = R t
  yes : ∀ i x d, l[i]? = some x → done i = true → x.o.dst = some d → x.g = true → (x.f A').ok (R' d) w'
  no : ∀ i x d, l[i]? = some x → done i = true → x.o.dst = some d → x.g = false → R' d = undef
  own : ∀ id r, resAt ini l id = some r → Live ini l done id → r.ok A' (ρ id) w' ∧ r.own A' (ρ id) (σ id) w'
  av : ∀ id r, resAt ini l id = some r → Live ini l done id → ∀ k, σ id k → ∀ o, A' k o
  dis : ∀ id id' r r', resAt ini l id = some r → resAt ini l id' = some r' → Live ini l done id → Live ini l done id' → id ≠ id' → ∀ k, σ id k → ¬ σ id' k
  was : ∀ id r, resAt ini l id = some r → Live ini l done id → ∀ k, k < w.heap.size → σ id k → isIni ini k
  iniv : ∀ id p, ini[id]? = some p → ρ id = p.u ∧ σ id = p.S
  opv : ∀ i x d, l[i]? = some x → done i = true → x.res ≠ none → x.lk = true → x.o.dst = some d → ρ (ini.length + i) = R' d
  opn : ∀ i x c, l[i]? = some x → done i = true → x.res ≠ none → x.lk = false → x.con.head? = some c → ρ (ini.length + i) = ρ c
  root : ∀ (n id r : Nat) p, (id < ini.length ∨ done (id - ini.length) = true) → rootOf ini l n id = some r → ini[r]? = some p → ρ id = p.u

def distinctR : List EntR → Bool
  | [] => true
  | x :: r => (match x.o.dst with | some d => r.all (fun y => !y.isDst d) | none => true) && distinctR r
theorem isDstR_iff {x : EntR} {t : Nat} : x.isDst t = true ↔ x.o.dst = some t := by
  unfold EntR.isDst
  cases x.o.dst <;> simp
theorem distinctR_spec : ∀ (l : List EntR), distinctR l = true → ∀ (i j : Nat) x y d, l[i]? = some x → l[j]? = some y → x.o.dst = some d → y.o.dst = some d → i = j
  | [], _, i, _, x, _, _, hx, _, _, _ => by simp at hx
  | z :: l, h, i, j, x, y, d, hx, hy, hd, hd' => by
    simp only [distinctR, Bool.and_eq_true] at h
    obtain ⟨h1, h2⟩ := h
    have key : ∀ (k : Nat) (y : EntR), l[k]? = some y → y.o.dst = some d → z.o.dst = some d → False := fun k y hy hd' hz => by
      rw [hz] at h1
      simp only [List.all_eq_true] at h1
      have := h1 y (List.mem_of_getElem? hy)
      rw [Bool.not_eq_true', Bool.eq_false_iff] at this
      exact this (isDstR_iff.2 hd')
    cases i with
    | zero =>
      cases j with
      | zero => rfl
      | succ j =>
        simp at hx hy
        subst hx
        exact (key j y hy hd' hd).elim
    | succ i =>
      cases j with
      | zero =>
        simp at hx hy
        subst hy
        exact (key i x hx hd hd').elim
      | succ j =>
        simp at hx hy
        rw [distinctR_spec l h2 i j x y d hx hy hd hd']
theorem okReadFromR_spec {i t : Nat} : ∀ (l : List EntR) (k : Nat), okReadFromR i t k l = true → ∀ j x, l[j]? = some x → x.isDst t = true → k + j = i ∨ ∃ e ∈ x.o.after, bnd e = true ∧ e.on = i
  | [], _, _, j, x, hx, _ => by simp at hx
  | y :: l, k, h, j, x, hx, ht => by
    simp only [okReadFromR, Bool.and_eq_true] at h
    cases j with
    | zero =>
      simp at hx
      subst hx
      rw [ht] at h
      simp at h
      rcases h.1 with h | h
      · left; omega
      · right
        obtain ⟨m, hm, h2, h3⟩ := h
        exact ⟨_, Array.getElem_mem hm, h2, h3⟩
    | succ j =>
      rcases okReadFromR_spec l (k + 1) h.2 j x (by simpa using hx) ht with h | h
      · left; omega
      · right; exact h
/-- a fact that holds wherever A is -/
def UStab (f : Av → Fact) : Prop := ∀ A A' w w' v, Stp A A' w w' → (f A).ok v w → (f A').ok v w'
/-- what the list of operations must keep -/
structure Wf (ini : List Ob) (l : List EntR) : Prop where
  dist : distinctR l = true
  ust : ∀ (i : Nat) x, l[i]? = some x → UStab x.f
  con : ∀ (j : Nat) y c, l[j]? = some y → c ∈ y.con → y.o.guard = none ∧ (∃ rc, resAt ini l c = some rc) ∧ (c < ini.length ∨ ∃ e ∈ y.o.after, bnd e = true ∧ e.on = c - ini.length)
  one : ∀ (j j' : Nat) y y' c, l[j]? = some y → l[j']? = some y' → c ∈ y.con → c ∈ y'.con → j = j'
  dst : ∀ (j : Nat) y, l[j]? = some y → y.con = [] → y.res ≠ none → y.lk = true
section
variable {ini : List Ob} {l : List EntR} {A : Av} {R : Reg} {w : World}
theorem Live.back {done : Nat → Bool} {i : Nat} {x : EntR} (hx : l[i]? = some x) {id : Nat} (hid : id ≠ ini.length + i) (h : Live ini l (setB done i) id) : Live ini l done id := by
  refine ⟨?_, fun j y hj hy => ?_⟩
  · rcases h.1 with h1 | h1
    · exact .inl h1
    · by_cases e : id < ini.length
      · exact .inl e
      · right
        rwa [setB_ne _ (by omega)] at h1
  · have := h.2 j y hj hy
    by_cases e : j = i
    · subst e; rw [setB_same] at this; cases this
    · rwa [setB_ne _ e] at this
theorem resAt_op {i : Nat} {x : EntR} (hx : l[i]? = some x) : resAt ini l (ini.length + i) = x.res := by
  unfold resAt
  rw [List.getElem?_eq_none (by omega)]
  simp only [Nat.add_sub_cancel_left, hx]
  rfl
theorem resAt_ini {id : Nat} (h : id < ini.length) : ∃ p, ini[id]? = some p ∧ resAt ini l id = some p.r := by
  refine ⟨ini[id], List.getElem?_eq_getElem h, ?_⟩
  unfold resAt
  rw [List.getElem?_eq_getElem h]
theorem Fr.stp_addS {w' w'' : World} {A' : Av} {S : Nat → Prop} (h : Fr w' w'') (hv : ∀ k, S k → w'.heap.size ≤ k) : Stp A' (addS A' S) w' w'' :=
  ⟨h.size, fun b o u hu _ => (h.cell (p := ⟨b, o, none⟩) (cell_lt' hu)).trans hu, fun b o hb ha => ha.elim id fun h' => by have := hv b h'; omega⟩
theorem Fr.stp_add {w' w'' : World} {A' : Av} {v : Value} (h : Fr w' w'') (hv : ∀ k, ownsB v k → w'.heap.size ≤ k) : Stp A' (addA A' v) w' w'' := h.stp_addS hv
theorem InvR.put {P : Program} (hw : Wf ini l) {done : Nat → Bool} {ρ : Nat → Value} {σ : Nat → Nat → Prop} {A' A'' : Av} {R' : Reg} {w' w'' : World} (h : InvR ini l A R w done ρ σ A' R' w') {i : Nat} {x : EntR} (hx : l[i]? = some x) (hnd : done i = false)
    {v : Value} {u'' : Value} {S'' : Nat → Prop} (hs : Stp A' A'' w' w'') (hch : Ch (fun k => ∃ c, c ∈ x.con ∧ σ c k) w' w'') (hav : AvOK A'' w'') (hy : x.g = true → (x.f A'').ok v w'') (hn : x.g = false → v = undef)
    (hlc : ∀ c, c ∈ x.con → Live ini l done c)
    (hA : ∀ k o, A' k o → (∀ c, c ∈ x.con → ¬ σ c k) → A'' k o)
    (hr : ∀ r, x.res = some r → (r.ok A'' u'' w'' ∧ r.own A'' u'' S'' w'') ∧ (∀ k, S'' k → ∀ o, A'' k o) ∧ (∀ k, k < w'.heap.size → S'' k → ∃ c, c ∈ x.con ∧ σ c k) ∧ (∀ d, x.lk = true → x.o.dst = some d → u'' = v) ∧ (∀ c, x.lk = false → x.con.head? = some c → u'' = ρ c))
    (hxr : ∀ c, c ∈ x.con → x.res ≠ none) (hco : ∀ (j : Nat) y c, l[j]? = some y → done j = true → c ∈ y.con → c ≠ ini.length + i) :
    InvR ini l A R w (setB done i) (fun id => if id = ini.length + i then u'' else ρ id) (fun id => if id = ini.length + i then S'' else σ id) A'' (updO R' x.o.dst v) w'' := by
  have hsame : ∀ (j : Nat) y d, l[j]? = some y → y.o.dst = some d → j ≠ i → updO R' x.o.dst v d = R' d := fun j y d hj hyd e => by
    cases hxd : x.o.dst with
    | none => rfl
    | some d' => exact upd_ne _ _ _ _ fun e' => e (distinctR_spec l hw.dist j i y x d hj hx hyd (by rw [hxd, e']))
  have hself : ∀ d, x.o.dst = some d → updO R' x.o.dst v d = v := fun d hd => by rw [hd]; exact upd_same _ _ _
  have heq : ∀ (y : EntR), l[i]? = some y → y = x := fun y hy' => by rw [hx] at hy'; injection hy' with e; exact e.symm
  have hcdone : ∀ c, c ∈ x.con → Live ini l (setB done i) c → False := fun c hc hl => by
    have := hl.2 i x hx hc
    rw [setB_same] at this
    cases this
  have hcold : ∀ c, c ∈ x.con → c ≠ ini.length + i := fun c hc e => by
    rcases (hlc c hc).1 with h1 | h1
    · omega
    · rw [e, Nat.add_sub_cancel_left, hnd] at h1
      cases h1
  have hlt : ∀ id r, resAt ini l id = some r → Live ini l done id → ∀ k, σ id k → k < w'.heap.size := fun id r hr' hl k hk => Res.ltS (h.own id r hr' hl).1 (h.own id r hr' hl).2 hk
  have hblk : ∀ id r, resAt ini l id = some r → Live ini l done id → (∀ c, c ∈ x.con → id ≠ c) → ∀ k, σ id k → w''.heap[k]? = w'.heap[k]? := fun id r hr' hl hne k hk =>
    hch.block k (hlt id r hr' hl k hk) fun ⟨c, hc, hk'⟩ => by
      obtain ⟨_, ⟨rc, hrc⟩, _⟩ := hw.con i x c hx hc
      exact h.dis id c r rc hr' hrc hl (hlc c hc) (hne c hc) k hk hk'
  refine ⟨h.ch.trans hch ?_, h.stp.trans hs, hav, h.av0, fun b o hb hn => hA b o (h.low b o hb hn) fun c hc hk' => ?_, fun t ht => ?_, fun j y d hj hdn hyd hg => ?_, fun j y d hj hdn hyd hg => ?_, fun id r hr' hl => ?_, fun id r hr' hl k hk o => ?_, fun id id' r r' hr1 hr2 hl1 hl2 hne k hk => ?_, fun id r hr' hl k hk hown => ?_, fun id p hp => ?_, fun j y d hj hdn hres hlk hyd => ?_, fun j y c hj hdn hres hyd hc => ?_, fun n id r p hd hrt hp => ?_⟩
  · rintro k hk ⟨c, hc, hk'⟩
    obtain ⟨_, ⟨rc, hrc⟩, _⟩ := hw.con i x c hx hc
    exact h.was c rc hrc (hlc c hc) k hk hk'
  · obtain ⟨_, ⟨rc, hrc⟩, _⟩ := hw.con i x c hx hc
    exact hn (h.was c rc hrc (hlc c hc) b (h.av0 b o hb) hk')
  · have h1 : x.o.dst ≠ some t := fun e => by
      have := ht i x hx (isDstR_iff.2 e)
      rw [setB_same] at this
      cases this
    have h2 : updO R' x.o.dst v t = R' t := by
      cases hxd : x.o.dst with
      | none => rfl
      | some d => exact upd_ne _ _ _ _ fun e => h1 (by rw [hxd, e])
    rw [h2]
    refine h.old t fun j y hj hy => ?_
    have := ht j y hj hy
    by_cases e : j = i
    · subst e; rw [setB_same] at this; cases this
    · rwa [setB_ne _ e] at this
  · by_cases e : j = i
    · subst e
      obtain rfl := heq y hj
      rw [hself d hyd]
      exact hy hg
    · rw [setB_ne _ e] at hdn
      rw [hsame j y d hj hyd e]
      exact hw.ust j y hj _ _ _ _ _ hs (h.yes j y d hj hdn hyd hg)
  · by_cases e : j = i
    · subst e
      obtain rfl := heq y hj
      rw [hself d hyd]
      exact hn hg
    · rw [setB_ne _ e] at hdn
      rw [hsame j y d hj hyd e]
      exact h.no j y d hj hdn hyd hg
  · by_cases e : id = ini.length + i
    · rw [if_pos e, if_pos e]
      rw [e, resAt_op hx] at hr'
      exact (hr r hr').1
    · rw [if_neg e, if_neg e]
      have hl' := hl.back hx e
      exact Res.stabS (h.own id r hr' hl').1 (h.own id r hr' hl').2 (hblk id r hr' hl' fun c hc e' => hcdone c hc (e' ▸ hl)) hs
  · by_cases e : id = ini.length + i
    · rw [if_pos e] at hk
      rw [e, resAt_op hx] at hr'
      exact (hr r hr').2.1 k hk o
    · rw [if_neg e] at hk
      have hl' := hl.back hx e
      refine hA k o (h.av id r hr' hl' k hk o) fun c hc hk' => ?_
      obtain ⟨_, ⟨rc, hrc⟩, _⟩ := hw.con i x c hx hc
      exact h.dis id c r rc hr' hrc hl' (hlc c hc) (fun e' => hcdone c hc (e' ▸ hl)) k hk hk'
  · have key : ∀ (id' : Nat) r', resAt ini l id' = some r' → Live ini l (setB done i) id' → id' ≠ ini.length + i → x.res ≠ none → ∀ k, S'' k → σ id' k → False := fun id' r' hr2 hl2 e2 hxn k hk hk2 => by
      obtain ⟨r0, hr0⟩ := Option.ne_none_iff_exists'.1 hxn
      have hl' := hl2.back hx e2
      have hlt2 := hlt id' r' hr2 hl' k hk2
      obtain ⟨c, hc, hk3⟩ := (hr r0 hr0).2.2.1 k hlt2 hk
      obtain ⟨_, ⟨rc, hrc⟩, _⟩ := hw.con i x c hx hc
      exact h.dis id' c r' rc hr2 hrc hl' (hlc c hc) (fun e' => hcdone c hc (e' ▸ hl2)) k hk2 hk3
    by_cases e1 : id = ini.length + i
    · have e2 : id' ≠ ini.length + i := fun e => hne (e1.trans e.symm)
      rw [if_pos e1] at hk
      rw [if_neg e2]
      intro hk2
      rw [e1, resAt_op hx] at hr1
      exact key id' r' hr2 hl2 e2 (by rw [hr1]; simp) k hk hk2
    · rw [if_neg e1] at hk
      by_cases e2 : id' = ini.length + i
      · rw [if_pos e2]
        intro hk2
        rw [e2, resAt_op hx] at hr2
        exact key id r hr1 hl1 e1 (by rw [hr2]; simp) k hk2 hk
      · rw [if_neg e2]
        exact h.dis id id' r r' hr1 hr2 (hl1.back hx e1) (hl2.back hx e2) hne k hk
  · by_cases e : id = ini.length + i
    · rw [if_pos e] at hown
      rw [e, resAt_op hx] at hr'
      obtain ⟨c, hc, hk3⟩ := (hr r hr').2.2.1 k (Nat.lt_of_lt_of_le hk h.ch.size) hown
      obtain ⟨_, ⟨rc, hrc⟩, _⟩ := hw.con i x c hx hc
      exact h.was c rc hrc (hlc c hc) k hk hk3
    · rw [if_neg e] at hown
      exact h.was id r hr' (hl.back hx e) k hk hown
  · have : id < ini.length := (List.getElem?_eq_some_iff.1 hp).1
    rw [if_neg (by omega), if_neg (by omega)]
    exact h.iniv id p hp
  · by_cases e : j = i
    · subst e
      obtain rfl := heq y hj
      rw [if_pos rfl, hself d hyd]
      obtain ⟨r0, hr0⟩ := Option.ne_none_iff_exists'.1 hres
      exact (hr r0 hr0).2.2.2.1 d hlk hyd
    · rw [setB_ne _ e] at hdn
      rw [if_neg (by omega), hsame j y d hj hyd e]
      exact h.opv j y d hj hdn hres hlk hyd
  · by_cases e : j = i
    · subst e
      obtain rfl := heq y hj
      rw [if_pos rfl, if_neg (hcold c (List.mem_of_head? hc))]
      obtain ⟨r0, hr0⟩ := Option.ne_none_iff_exists'.1 hres
      exact (hr r0 hr0).2.2.2.2 c hyd hc
    · rw [setB_ne _ e] at hdn
      have hcc : c ≠ ini.length + i := hco j y c hj hdn (List.mem_of_head? hc)
      rw [if_neg (by omega), if_neg hcc]
      exact h.opn j y c hj hdn hres hyd hc
  · by_cases e : id = ini.length + i
    · rw [if_pos e]
      subst e
      cases n with
      | zero => cases hrt
      | succ n =>
        unfold rootOf at hrt
        rw [List.getElem?_eq_none (Nat.le_add_right _ _)] at hrt
        simp only [Nat.add_sub_cancel_left, hx] at hrt
        cases hlk : x.lk with
        | true => rw [hlk] at hrt; cases hrt
        | false =>
          cases hres : x.res with
          | none => rw [hlk, hres] at hrt; cases hrt
          | some r0 =>
            cases hcn : x.con with
            | nil => rw [hlk, hres, hcn] at hrt; cases hrt
            | cons c cs =>
              rw [hlk, hres, hcn] at hrt
              have hm : c ∈ x.con := by rw [hcn]; exact .head _
              rw [(hr r0 hres).2.2.2.2 c hlk (by rw [hcn]; rfl)]
              exact h.root n c r p (hlc c hm).1 hrt hp
    · rw [if_neg e]
      refine h.root n id r p ?_ hrt hp
      rcases hd with hd | hd
      · exact .inl hd
      · by_cases hl : id < ini.length
        · exact .inl hl
        · exact .inr (by rwa [setB_ne _ (by omega)] at hd)

theorem depsR_of {R : Reg} {w : World} {A : Av} (es : List Edge) (h : ∀ e ∈ es, bnd e = true → ∀ x d, l[e.on]? = some x → x.o.dst = some d → x.g = true → (x.f A).ok (R d) w) : DepsR l A R w es :=
  fun i e x d he hb => h e (List.mem_of_getElem? he) hb x d

/-- one operation of the region, whatever has come before -/
theorem step_anyR1 {P : Program} {n : Nat} {ops : Array Oper} (hw : Wf ini l) (hops : ∀ (i : Nat) x, l[i]? = some x → ops[i]? = some x.o)
    (hsz : ∀ (i : Nat) x d, l[i]? = some x → x.o.dst = some d → d < n) {done : Nat → Bool} {i : Nat} {x : EntR} (hx : l[i]? = some x) (hob : OblR P ini l A R w i x) (hnd : done i = false)
    (hdep : ∀ e ∈ x.o.after, bnd e = true → done e.on = true) (hlate : ∀ (j : Nat) y, l[j]? = some y → (∃ e ∈ y.o.after, bnd e = true ∧ e.on = i) → done j = false)
    {a : Act} {ρ : Nat → Value} {σ : Nat → Nat → Prop} {A' : Av} {w' : World} (ha : Pl n a) (hI : InvR ini l A R w done ρ σ A' (regs a) w') {Q : Exit → Act → World → Prop} {K : Act → World → Prop}
    (hK : ∀ a' ρ' σ' A'' w'', Pl n a' → InvR ini l A R w (setB done i) ρ' σ' A'' (regs a') w'' → K a' w'') : wpOp P ops Q i K a w' := by
  unfold wpOp
  rw [hops i x hx]
  dsimp only
  obtain ⟨hg, hob⟩ := hob
  have hco : ∀ (j : Nat) y c, l[j]? = some y → done j = true → c ∈ y.con → c ≠ ini.length + i := fun j y c hj hdn hc e => by
    obtain ⟨_, _, h3⟩ := hw.con j y c hj hc
    rcases h3 with h3 | ⟨e', he', hb', hon⟩
    · omega
    · have := hlate j y hj ⟨e', he', hb', by omega⟩
      rw [hdn] at this
      cases this
  have hlc : ∀ c, c ∈ x.con → Live ini l done c := fun c hc => by
    obtain ⟨_, _, h3⟩ := hw.con i x c hx hc
    refine ⟨?_, fun j y hj hy => ?_⟩
    · rcases h3 with h3 | ⟨e, he, hb, hon⟩
      · exact .inl h3
      · right
        rw [← hon]
        exact hdep e he hb
    · rw [hw.one j i y x c hj hx hy hc]
      exact hnd
  have hput : ∀ (v u'' : Value) (S'' : Nat → Prop) (A'' : Av) (w'' : World), Stp A' A'' w' w'' → Ch (fun k => ∃ c, c ∈ x.con ∧ σ c k) w' w'' → AvOK A'' w'' → (x.g = true → (x.f A'').ok v w'') → (x.g = false → v = undef) →
      (∀ k o, A' k o → (∀ c, c ∈ x.con → ¬ σ c k) → A'' k o) →
      (∀ r, x.res = some r → (r.ok A'' u'' w'' ∧ r.own A'' u'' S'' w'') ∧ (∀ k, S'' k → ∀ o, A'' k o) ∧ (∀ k, k < w'.heap.size → S'' k → ∃ c, c ∈ x.con ∧ σ c k) ∧ (∀ d, x.lk = true → x.o.dst = some d → u'' = v) ∧ (∀ c, x.lk = false → x.con.head? = some c → u'' = ρ c)) →
      (∀ c, c ∈ x.con → x.res ≠ none) → K (a.put x.o.dst v) w'' := fun v u'' S'' A'' w'' h1 h2 h3 h4 h5 h6 h7 h8 => by
    refine hK (a.put x.o.dst v) (fun id => if id = ini.length + i then u'' else ρ id) (fun id => if id = ini.length + i then S'' else σ id) A'' w'' ⟨by rw [put_defers']; exact ha.1, by rw [put_size]; exact ha.2⟩ ?_
    rw [regs_put _ _ _ fun d hdd => Nat.lt_of_lt_of_le (hsz i x d hx hdd) ha.2]
    exact hI.put (P := P) hw hx hnd h1 h2 h3 h4 h5 hlc h6 h7 h8 hco
  have hskip : x.g = false → x.con = [] → x.res = none → K (a.put x.o.dst undef) w' := fun h1 h2 h3 =>
    hput undef undef (fun _ => False) A' w' ((Fr.refl _).stp A') (Ch.refl _ _) hI.avok (fun h => by rw [h1] at h; cases h) (fun _ => rfl) (fun k o h _ => h) (fun r hr => by rw [h3] at hr; cases hr) (fun c hc => by rw [h2] at hc; cases hc)
  have hrun : x.g = true → x.o.wp P a w' K Q := fun hgt => by
    have h1 := hob hgt A' (regs a) w' hI.ch hI.stp hI.avok (fun t ht => hI.old t fun j y hj hy => by
      rcases okReadFromR_spec l 0 ht j y hj hy with h | h
      · rw [Nat.zero_add] at h
        rw [h]
        exact hnd
      · exact hlate j y hj h) (depsR_of _ fun e he hb y d hy hyd hyg => hI.yes e.on y d hy (hdep e (Array.mem_toList_iff.1 he) hb) hyd hyg) (fun id q hq hrk => by
      have hid : id < ini.length := (List.getElem?_eq_some_iff.1 hq).1
      obtain ⟨q', hq', hr⟩ := resAt_ini (l := l) hid
      rw [hq] at hq'
      injection hq' with hq'
      subst hq'
      have := hI.own id q.r hr ⟨.inl hid, fun j y hj hy => ?_⟩
      · rwa [(hI.iniv id q hq).1, (hI.iniv id q hq).2] at this
      · simp only [readOK, List.all_eq_true] at hrk
        have h2 := hrk y (List.mem_of_getElem? hj)
        rw [Bool.or_eq_true] at h2
        rcases h2 with h2 | h2
        · have h3 := List.all_eq_true.1 h2 id hy
          simp at h3
        · simp at h2
          obtain ⟨m, hm, h3, h4⟩ := h2
          exact hlate j y hj ⟨_, Array.getElem_mem hm, h3, h4⟩) hI.low
    have hfin : ∀ (C : Value → World → Prop), OpR P x.o (regs a) w' C → (∀ v w'', C v w'' → K (a.put x.o.dst v) w'') → x.o.wp P a w' K Q := fun C hC hk => by
      unfold Oper.wp
      rw [eval_regs]
      refine OpK.elim (C := Oper.upon P x.o a K Q) hC (fun v w'' h1 => ?_) (fun w'' h1 => ?_) fun f args w'' h1 => ?_
      · rw [Oper.upon_value]
        exact hk _ _ h1
      · rw [Oper.upon_skip]
        exact hk _ _ h1
      · rw [Oper.upon_enter]
        refine Calls.mono h1 ?_
        rintro e w3 ⟨v, rfl, h2⟩
        exact hk _ _ h2
    cases hc : x.con with
    | nil =>
      cases hr : x.res with
      | none =>
        rw [hc, hr] at h1
        refine hfin _ h1 fun v w'' ⟨h2, h3⟩ => hput v undef (fun _ => False) A' w'' (h3.stp A') (h3.ch _) (hI.avok.fr h3.size) (fun _ => h2) (fun h => by rw [hgt] at h; cases h) (fun k o h _ => h) (fun r hr' => by rw [hr] at hr'; cases hr') (fun c hc' => by rw [hc] at hc'; cases hc')
      | some r =>
        rw [hc, hr] at h1
        refine hfin _ h1 fun v w'' ⟨S, h2, h3, h4, h4', h5⟩ => hput v v S (addS A' S) w'' (h2.stp_addS h3) (h2.ch _) (fun b o hb => hb.elim (fun h => Nat.lt_of_lt_of_le (hI.avok b o h) h2.size) fun h => Res.ltS h4 h4' h) (fun _ => h5) (fun h => by rw [hgt] at h; cases h) (fun k o h _ => .inl h) (fun r' hr' => ?_) (fun c hc' => by rw [hc] at hc'; cases hc')
        rw [hr] at hr'
        injection hr' with hr'
        subst hr'
        exact ⟨⟨h4, h4'⟩, fun k hk o => .inr hk, fun k hk hk' => by have := h3 k hk'; omega, fun _ _ _ => rfl, fun c _ hc' => by rw [hc] at hc'; cases hc'⟩
    | cons c cs =>
      have hin : ∀ d, d ∈ c :: cs → d ∈ x.con := fun d hd => by rw [hc]; exact hd
      have hres : ∀ d, d ∈ c :: cs → ∃ rc, resAt ini l d = some rc := fun d hd => (hw.con i x d hx (hin d hd)).2.1
      cases hr : x.res with
      | none =>
        rw [hc, hr] at h1
        exact h1.elim
      | some r =>
        rw [hc, hr] at h1
        have hset : (fun k => ∃ d, d ∈ x.con ∧ σ d k) = fun k => ∃ d, d ∈ c :: cs ∧ σ d k := by rw [hc]
        refine hfin _ (h1 ρ σ (fun d hd rc hrc => hI.own d rc hrc (hlc d (hin d hd))) (fun d hd k hk o => ?_) (fun d hd p hp => hI.iniv d p hp) (fun d hd y t hci hy hlk hyd => ?_) (fun d hd id p hp hne hrk k hk hk' => ?_) (fun d d' hd hd' hne k hk hk' => ?_) (fun d hd n r p hrt hp => hI.root n d r p (hlc d (hin d hd)).1 hrt hp)) fun v w'' ⟨u'', S'', h2, h3, h4, h5, h6, h6', h7⟩ => hput v u'' S'' (swapS A' (fun k => ∃ d, d ∈ c :: cs ∧ σ d k) S'') w'' h5 (by rw [hset]; exact h3) (fun b o hb => hb.elim (fun h => Nat.lt_of_lt_of_le (hI.avok b o h.1) h3.size) fun h => Res.ltS h6 h6' h) (fun _ => h7) (fun h => by rw [hgt] at h; cases h) (fun k o h hn => .inl ⟨h, fun ⟨d, hd, hk⟩ => hn d (hin d hd) hk⟩) (fun r' hr' => ?_) (fun c' _ => by rw [hr]; simp)
        · obtain ⟨rc, hrc⟩ := hres d hd
          exact hI.av d rc hrc (hlc d (hin d hd)) k hk o
        · obtain ⟨rc, hrc⟩ := hres d hd
          have hge : ini.length ≤ d := by
            rcases Nat.lt_or_ge d ini.length with h | h
            · rw [List.getElem?_eq_getElem h] at hci; cases hci
            · exact h
          have hd' : done (d - ini.length) = true := (hlc d (hin d hd)).1.resolve_left (by omega)
          have := hI.opv (d - ini.length) y t hy hd' (by
            unfold resAt at hrc
            rw [hci] at hrc
            simp only [hy] at hrc
            intro e
            rw [Option.bind_some, e] at hrc
            cases hrc) hlk hyd
          rwa [show ini.length + (d - ini.length) = d by omega] at this
        · obtain ⟨rc, hrc⟩ := hres d hd
          have hid : id < ini.length := (List.getElem?_eq_some_iff.1 hp).1
          obtain ⟨q', hq', hrq⟩ := resAt_ini (l := l) hid
          rw [hp] at hq'
          injection hq' with hq'
          subst hq'
          have hlv : Live ini l done id := ⟨.inl hid, fun j y hj hy => by
            simp only [readOK, List.all_eq_true] at hrk
            have h2 := hrk y (List.mem_of_getElem? hj)
            rw [Bool.or_eq_true] at h2
            rcases h2 with h2 | h2
            · have h3 := List.all_eq_true.1 h2 id hy
              simp at h3
            · simp at h2
              obtain ⟨m, hm, h3, h4⟩ := h2
              exact hlate j y hj ⟨_, Array.getElem_mem hm, h3, h4⟩⟩
          refine hI.dis d id rc p.r hrc hrq (hlc d (hin d hd)) hlv (Ne.symm hne) k hk ?_
          rw [(hI.iniv id p hp).2]
          exact hk'
        · obtain ⟨rc, hrc⟩ := hres d hd
          obtain ⟨rc', hrc'⟩ := hres d' hd'
          exact hI.dis d d' rc rc' hrc hrc' (hlc d (hin d hd)) (hlc d' (hin d' hd')) hne k hk hk'
        · rw [hr] at hr'
          injection hr' with hr'
          subst hr'
          refine ⟨⟨h6, h6'⟩, fun k hk o => .inr hk, fun k hk hk' => ?_, fun d hd _ => ?_, fun c' hd hc' => ?_⟩
          · obtain ⟨d, hd, h⟩ := h4 k hk hk'
            exact ⟨d, hin d hd, h⟩
          · rw [hd] at h2; exact h2
          · rw [hc] at hc'
            injection hc' with hc'
            subst hc'
            rw [hd] at h2
            exact h2
  unfold GuardR at hg
  cases hgd : x.o.guard with
  | none =>
    rw [hgd] at hg
    rw [if_pos (by simp [Region.wanted, hgd])]
    exact .inl (hrun hg)
  | some p =>
    obtain ⟨j, want⟩ := p
    rw [hgd] at hg
    obtain ⟨hcn, hrn, y, c, d, hy, hyd, hyf, hxg, haf⟩ := hg
    simp only [List.any_eq_true, Bool.and_eq_true] at haf
    obtain ⟨e0, he0, hb, hon⟩ := haf
    have hdone : done j = true := by
      have := hdep e0 (Array.mem_toList_iff.1 he0) hb
      rwa [Nat.eq_of_beq_eq_true hon] at this
    have hyo := hops j y hy
    have hyl : yielded ops a.tmps j = (match regs a d with | .bool b => some b | _ => none) := by
      simp only [yielded, hyo, regs]
      simp [hyd]
      cases a.tmps[d]? with
      | none => rfl
      | some v => cases v <;> rfl
    cases hyg : y.g with
    | true =>
      have h1 := hI.yes j y d hy hdone hyd hyg
      rw [hyf] at h1
      have h2 : regs a d = .bool c := h1
      rw [h2] at hyl
      rw [hyg, Bool.true_and] at hxg
      by_cases hcw : c = want
      · subst hcw
        rw [if_pos (by simp [Region.wanted, hgd, hyl])]
        exact .inl (hrun (by rw [hxg]; simp))
      · rw [if_neg (by simp [Region.wanted, hgd, hyl, hcw])]
        exact hskip (by rw [hxg]; simpa using hcw) hcn hrn
    | false =>
      have h1 := hI.no j y d hy hdone hyd hyg
      rw [h1] at hyl
      rw [hyg, Bool.false_and] at hxg
      rw [if_neg (by simp [Region.wanted, hgd, hyl, undef])]
      exact hskip hxg hcn hrn

theorem step_anyR {P : Program} {n : Nat} {ops : Array Oper} (hw : Wf ini l) (hops : ∀ (i : Nat) x, l[i]? = some x → ops[i]? = some x.o)
    (hsz : ∀ (i : Nat) x d, l[i]? = some x → x.o.dst = some d → d < n) (ho : OblsR P ini l A R w 0 l) {done : Nat → Bool} {i : Nat} {x : EntR} (hx : l[i]? = some x) (hnd : done i = false)
    (hdep : ∀ e ∈ x.o.after, bnd e = true → done e.on = true) (hlate : ∀ (j : Nat) y, l[j]? = some y → (∃ e ∈ y.o.after, bnd e = true ∧ e.on = i) → done j = false)
    {a : Act} {ρ : Nat → Value} {σ : Nat → Nat → Prop} {A' : Av} {w' : World} (ha : Pl n a) (hI : InvR ini l A R w done ρ σ A' (regs a) w') {Q : Exit → Act → World → Prop} {K : Act → World → Prop}
    (hK : ∀ a' ρ' σ' A'' w'', Pl n a' → InvR ini l A R w (setB done i) ρ' σ' A'' (regs a') w'' → K a' w'') : wpOp P ops Q i K a w' :=
  step_anyR1 hw hops hsz hx (by have := OblsR.at l 0 ho i x hx; rwa [Nat.zero_add] at this) hnd hdep hlate ha hI hK
/-- the resources at the start -/
structure IniOK (ini : List Ob) (A : Av) (w : World) : Prop where
  ok : ∀ (i : Nat) p, ini[i]? = some p → p.r.ok A p.u w ∧ ∀ k, p.S k → ∀ o, A k o
  own : ∀ (i : Nat) p, ini[i]? = some p → p.r.own A p.u p.S w
  dis : ∀ (i j : Nat) p q, ini[i]? = some p → ini[j]? = some q → i ≠ j → ∀ k, p.S k → ¬ q.S k
theorem InvR.start (hi : IniOK ini A w) (hA : AvOK A w) {w1 : World} (hf : Fr w w1) : InvR ini l A R w (fun _ => false) (fun id => ((ini[id]?).map (·.u)).getD undef) (fun id => ((ini[id]?).map (·.S)).getD fun _ => False) A R w1 := by
  have hlive : ∀ id, Live ini l (fun _ => false) id → id < ini.length := fun id h => h.1.resolve_right Bool.false_ne_true
  have key : ∀ id r, resAt ini l id = some r → Live ini l (fun _ => false) id → ∃ p, ini[id]? = some p ∧ p.r = r ∧ ((ini[id]?).map (·.u)).getD undef = p.u ∧ (((ini[id]?).map (·.S)).getD fun _ => False) = p.S := fun id r hr hl => by
    obtain ⟨p, hp, hr'⟩ := resAt_ini (l := l) (hlive id hl)
    rw [hr'] at hr
    injection hr with hr
    exact ⟨p, hp, hr, by rw [hp]; rfl, by rw [hp]; rfl⟩
  refine ⟨hf.ch _, hf.stp A, hA.fr hf.size, hA, fun _ _ h _ => h, fun _ _ => rfl, fun i x d _ h => absurd h Bool.false_ne_true, fun i x d _ h => absurd h Bool.false_ne_true, fun id r hr hl => ?_, fun id r hr hl k hk o => ?_, fun id id' r r' hr hr' hl hl' hne k hk => ?_, fun id r hr hl k _ hk => ?_, fun id p hp => (by rw [hp]; exact ⟨rfl, rfl⟩), fun i x d _ h => absurd h Bool.false_ne_true, fun i x c _ h => absurd h Bool.false_ne_true, fun n id r p hd hrt hp => ?_⟩
  · obtain ⟨p, hp, rfl, he, hs⟩ := key id r hr hl
    rw [he, hs]
    exact Res.stabS (hi.ok id p hp).1 (hi.own id p hp) (fun k hk => hf.block k (Res.ltS (hi.ok id p hp).1 (hi.own id p hp) hk)) (hf.stp A)
  · obtain ⟨p, hp, rfl, he, hs⟩ := key id r hr hl
    rw [hs] at hk
    exact (hi.ok id p hp).2 k hk o
  · obtain ⟨p, hp, rfl, he, hs⟩ := key id r hr hl
    obtain ⟨q, hq, rfl, he', hs'⟩ := key id' r' hr' hl'
    rw [hs] at hk
    rw [hs']
    exact hi.dis id id' p q hp hq hne k hk
  · obtain ⟨p, hp, rfl, he, hs⟩ := key id r hr hl
    rw [hs] at hk
    exact ⟨id, p, hp, hk⟩
  · have hl : id < ini.length := hd.resolve_right Bool.false_ne_true
    cases n with
    | zero => cases hrt
    | succ n =>
      unfold rootOf at hrt
      rw [List.getElem?_eq_getElem hl] at hrt
      obtain rfl : id = r := Option.some.inj hrt
      rw [hp]
      rfl
def AfterR (ini : List Ob) (l : List EntR) (A : Av) (R : Reg) (w : World) (K : Reg → World → Prop) : Prop :=
  ∀ done ρ σ A' R' w', (∀ i, i < l.length → done i = true) → InvR ini l A R w done ρ σ A' R' w' → K R' w'
theorem HT.textR {P : Program} {n : Nat} {Q : Exit → Reg → World → Prop} {id : Nat} (ini : List Ob) (l : List EntR) (hb : backFrom 0 (l.map (·.o)) = true) (hs : dstOK n (l.map (·.o)) = true) (hw : Wf ini l) (hi : IniOK ini A w) (hA : AvOK A w)
    (ho : OblsR P ini l A R w 0 l) (ha : AfterR ini l A R w (fun R w => Q .normal R w)) : HT P n (.region id (l.map (·.o)).toArray false) R w Q := fun a hpl hR => by
  refine wp_region ?_
  have hsize : (l.map (·.o)).toArray.size = l.length := by simp
  rw [hsize, List.range_eq_range']
  have hops : ∀ (i : Nat) x, l[i]? = some x → (l.map (·.o)).toArray[i]? = some x.o := fun i x hx => by
    simp only [List.getElem?_toArray, List.getElem?_map, hx]
    rfl
  have hmap : ∀ (i : Nat) x, l[i]? = some x → (l.map (·.o))[i]? = some x.o := fun i x hx => by
    rw [List.getElem?_map, hx]
    rfl
  have key : ∀ m k, m + k = l.length → ∀ (a : Act) (ρ : Nat → Value) (σ : Nat → Nat → Prop) (A' : Av) (w' : World), Pl n a → InvR ini l A R w (fun i => Nat.blt i k) ρ σ A' (regs a) w' →
      wpOps P (l.map (·.o)).toArray (PQ n Q) (List.range' k m) a w' := by
    intro m
    induction m with
    | zero =>
      intro k hk a ρ σ A' w' hpl hI
      simp only [List.range'_zero, wpOps]
      exact ⟨hpl, ha _ ρ σ A' _ _ (fun i hi => by simpa using (by omega : i < k)) hI⟩
    | succ m ih =>
      intro k hk a ρ σ A' w' hpl hI
      rw [List.range'_succ, wpOps_cons]
      have hkl : k < l.length := by omega
      have hx : l[k]? = some l[k] := List.getElem?_eq_getElem hkl
      refine step_anyR (done := fun i => Nat.blt i k) hw hops (fun i x d hx hdd => dstOK_spec hs (hmap i x hx) hdd) ho hx (nblt_no (Nat.le_refl k)) (fun e he hbe => ?_) (fun j y hy hex => ?_) hpl hI (fun a' ρ' σ' A'' w'' hpl' hI' => ih (k + 1) (by omega) a' ρ' σ' A'' w'' hpl' ?_)
      · have := backFrom_spec _ 0 hb k _ (hmap k _ hx) e he hbe
        show Nat.blt e.on k = true
        simpa using this
      · obtain ⟨e, he, hbe, hon⟩ := hex
        have := backFrom_spec _ 0 hb j _ (hmap j _ hy) e he hbe
        exact nblt_no (by omega)
      · have : setB (fun i => Nat.blt i k) k = fun i => Nat.blt i (k + 1) := by
          funext i
          by_cases e : i = k
          · subst e; rw [setB_same]; simp
          · rw [setB_ne _ e, Bool.eq_iff_iff]; simp; omega
        rw [← this]
        exact hI'
  have h0 := InvR.start (l := l) (R := R) hi hA (Fr.refl w)
  rw [← hR] at h0 ha ho key
  refine key l.length 0 (by omega) a (fun id => ((ini[id]?).map (·.u)).getD undef) (fun id => ((ini[id]?).map (·.S)).getD fun _ => False) A w hpl ?_
  have : (fun i => Nat.blt i 0) = fun _ => false := by
    funext i
    exact nblt_no (Nat.zero_le i)
  rw [this]
  exact h0
theorem HT.drawR {P : Program} {n : Nat} {Q : Exit → Reg → World → Prop} {id : Nat} (ini : List Ob) (l : List EntR) (hm : P.follows .mixedOrders = true) (hb : backFrom 0 (l.map (·.o)) = true) (hs : dstOK n (l.map (·.o)) = true) (hw : Wf ini l) (hi : IniOK ini A w) (hA : AvOK A w)
    (ho : OblsR P ini l A R w 0 l) (ha : AfterR ini l A R w (fun R w => Q .normal R w)) : HT P n (.region id (l.map (·.o)).toArray true) R w Q := fun a hpl hR => by
  refine wp_region_any hm ?_
  have hsize : (l.map (·.o)).toArray.size = l.length := by simp
  have hmap : ∀ (i : Nat) x, l[i]? = some x → (l.map (·.o))[i]? = some x.o := fun i x hx => by
    rw [List.getElem?_map, hx]
    rfl
  have hbs := backFrom_spec _ 0 hb
  have hopsl : ∀ (i : Nat) x, l[i]? = some x → (l.map (·.o)).toArray[i]? = some x.o := fun i x hx => by
    simp only [List.getElem?_toArray]
    exact hmap i x hx
  generalize hops : (l.map (·.o)).toArray = ops at *
  have key : ∀ f (listed : Array Bool) (a : Act) (ρ : Nat → Value) (σ : Nat → Nat → Prop) (A' : Av) (w' : World), listed.size = ops.size → left listed l.length = f → (∀ (k : Nat) y, l[k]? = some y → listed.getD k false = true → ∀ e ∈ y.o.after, bnd e = true → listed.getD e.on false = true) → Pl n a →
      InvR ini l A R w (fun i => listed.getD i false) ρ σ A' (regs a) w' → wpAny P .any ops (PQ n Q) f listed a w' := by
    intro f
    induction f with
    | zero =>
      intro listed a ρ σ A' w' hls hf hcl hpl hI
      have hall := left_zero _ hf
      refine ⟨?_, hpl, ha _ ρ σ A' _ _ hall hI⟩
      cases hr : Region.ready .any ops listed with
      | nil => rfl
      | cons j r =>
        have hj : j ∈ Region.ready .any ops listed := by rw [hr]; simp
        obtain ⟨h1, o, ho', _⟩ := mem_ready.1 hj
        have hlt : j < ops.size := (Array.getElem?_eq_some_iff.1 ho').1
        have h2 := hall j (by omega)
        simp [hls ▸ hlt] at h1 h2
        rw [h1] at h2
        cases h2
    | succ f ih =>
      intro listed a ρ σ A' w' hls hf hcl hpl hI
      obtain ⟨i, hi', hi0, hmin⟩ := left_pos (listed := listed) l.length (by omega)
      have hmem : i ∈ Region.ready .any ops listed := by
        have hx : l[i]? = some l[i] := List.getElem?_eq_getElem hi'
        refine mem_ready.2 ⟨?_, _, hopsl i _ hx, fun e he hbe => ?_⟩
        · have : i < listed.size := by omega
          simp [this] at hi0 ⊢
          exact hi0
        · have := hbs i _ (hmap i _ hx) e he hbe
          exact hmin e.on (by omega)
      refine ⟨fun hr => (by rw [hr] at hmem; cases hmem), fun j hj => ?_⟩
      obtain ⟨hj0, o, hoj, hall⟩ := mem_ready.1 hj
      have hjs : j < ops.size := (Array.getElem?_eq_some_iff.1 hoj).1
      have hj0' : listed.getD j false = false := by
        simp [hls ▸ hjs] at hj0 ⊢
        exact hj0
      have hjl : j < l.length := by omega
      have hx : l[j]? = some l[j] := List.getElem?_eq_getElem hjl
      have hoe : o = l[j].o := by
        have := hopsl j _ hx
        rw [hoj] at this
        injection this
      subst hoe
      refine step_anyR (done := fun i => listed.getD i false) hw hopsl (fun i x d hx hdd => dstOK_spec hs (hmap i x hx) hdd) ho hx hj0' hall (fun k y hy hex => ?_) hpl hI (fun a' ρ' σ' A'' w'' hpl' hI' => ih (listed.setIfInBounds j true) a' ρ' σ' A'' w'' (by simpa using hls) ?_ (fun k y hy hk e he hbe => ?_) hpl' ?_)
      · obtain ⟨e, he, hbe, hon⟩ := hex
        cases hk : listed.getD k false
        · rfl
        · have := hcl k y hy hk e he hbe
          rw [hon, hj0'] at this
          cases this
      · have := left_set (i := j) (by omega) hj0' l.length
        rw [if_pos hjl] at this
        omega
      · by_cases e2 : k = j
        · subst e2
          rw [hx] at hy
          injection hy with hy
          subst hy
          exact getD_set_true (hall e he hbe)
        · rw [getD_set_ne false (Ne.symm e2)] at hk
          exact getD_set_true (hcl k y hy hk e he hbe)
      · have : setB (fun i => listed.getD i false) j = fun i => (listed.setIfInBounds j true).getD i false := by
          funext k
          by_cases e : k = j
          · subst e; rw [setB_same, getD_set_self (by omega)]
          · rw [setB_ne _ e, getD_set_ne false (Ne.symm e)]
        rw [← this]
        exact hI'
  have hrep : ∀ j, (Array.replicate ops.size false).getD j false = false := fun j => by
    by_cases h : j < ops.size <;> simp [h]
  have h0 := InvR.start (l := l) (R := R) hi hA (Fr.drew w)
  rw [← hR] at h0 key
  rw [hsize]
  rw [hsize] at hrep key
  refine key l.length (Array.replicate l.length false) a (fun id => ((ini[id]?).map (·.u)).getD undef) (fun id => ((ini[id]?).map (·.S)).getD fun _ => False) A _ (by simp) (left_new _ _ (by omega)) (fun k y _ hk => absurd ((hrep k).symm.trans hk) Bool.false_ne_true) hpl ?_
  have : (fun i => (Array.replicate l.length false).getD i false) = fun _ => false := funext hrep
  rw [this]
  exact h0
end
end Go.Proofs.Ytmgiijdejigdhaa
