/- A small logic over the walk's rules: triples over registers (HT), regions whose operations may come in any order. No statement of the seat is proved here. -/
import Derived.Test.YtmgiijdejigdhaaDc
import Derived.Deep.LoopGhost
namespace Go.Proofs.Ytmgiijdejigdhaa
open Go.RowKit
set_option linter.unusedVariables false

abbrev Reg := Nat → Value
def evalR (R : Reg) : Operand → Value
  | .tmp t => R t
  | .const v => v
  | .global g => .pointer (some ⟨g, 0, none⟩)
  | .func f => .func (.func f) #[] #[]
def upd (R : Reg) (d : Nat) (v : Value) : Reg := fun t => bif Nat.beq t d then v else R t
def updO (R : Reg) : Option Nat → Value → Reg
  | some d, v => upd R d v
  | none, _ => R
theorem nbeq_ne {a b : Nat} (h : a ≠ b) : Nat.beq a b = false := by
  cases hb : Nat.beq a b
  · rfl
  · exact absurd (Nat.eq_of_beq_eq_true hb) h
theorem nblt_no {a b : Nat} (h : b ≤ a) : Nat.blt a b = false := by
  cases hb : Nat.blt a b
  · rfl
  · have := Nat.blt_eq ▸ hb
    omega
theorem upd_same (R : Reg) (d : Nat) (v : Value) : upd R d v d = v := by simp [upd]
theorem upd_ne (R : Reg) (d : Nat) (v : Value) (t : Nat) (h : t ≠ d) : upd R d v t = R t := by
  have : Nat.beq t d = false := nbeq_ne h
  simp [upd, this]

/-- what one operation yields -/
def OpK (P : Program) (K : Value → World → Prop) : Result Next → Prop
  | .ok (.value v) w' => K v w'
  | .ok .skip w' => K undef w'
  | .ok (.enter f args) w' => Calls P f args w' fun e w'' => ∃ v, e = .returned v ∧ K v w''
  | _ => False
theorem OpK.elim {P : Program} {K : Value → World → Prop} {C : Result Next → Prop} {r : Result Next} (h : OpK P K r) (c1 : ∀ v w', K v w' → C (.ok (.value v) w')) (c2 : ∀ w', K undef w' → C (.ok .skip w'))
    (c3 : ∀ f args w', (Calls P f args w' fun e w'' => ∃ v, e = .returned v ∧ K v w'') → C (.ok (.enter f args) w')) : C r := by
  cases r with
  | ok n w' =>
    cases n
    case value v => exact c1 _ _ h
    case skip => exact c2 _ h
    case enter f args => exact c3 _ _ _ h
    all_goals exact False.elim h
  | halt x w' => exact False.elim h
def OpR (P : Program) (o : Oper) (R : Reg) (w : World) (K : Value → World → Prop) : Prop := OpK P K ((execOp (evalR R) o).run P w)
theorem OpR.mono {P : Program} {o : Oper} {R : Reg} {w : World} {K K' : Value → World → Prop} (h : OpR P o R w K) (hk : ∀ v w', K v w' → K' v w') : OpR P o R w K' :=
  OpK.elim (C := OpK P K') h (fun v w' h => hk v w' h) (fun w' h => hk _ _ h) fun f args w' h => Calls.mono h fun e w'' ⟨v, he, hK⟩ => ⟨v, he, hk _ _ hK⟩

def regs (a : Act) : Reg := fun t => a.tmps.getD t undef
theorem eval_regs (a : Act) : a.eval = evalR (regs a) := by
  funext x
  cases x <;> rfl
theorem regs_put (a : Act) (dst : Option Nat) (v : Value) (h : ∀ d, dst = some d → d < a.tmps.size) : regs (a.put dst v) = updO (regs a) dst v := by
  cases dst with
  | none => rfl
  | some d =>
    funext t
    have hd := h d rfl
    by_cases e : t = d
    · subst e
      simp [regs, Act.put, updO, upd, hd]
    · have : Nat.beq t d = false := nbeq_ne e
      simp [regs, Act.put, updO, upd, this, Array.getElem?_setIfInBounds_ne (Ne.symm e)]
theorem put_size (a : Act) (dst : Option Nat) (v : Value) : (a.put dst v).tmps.size = a.tmps.size := by
  cases dst <;> simp [Act.put]
theorem put_defers' (a : Act) (dst : Option Nat) (v : Value) : (a.put dst v).defers = a.defers := by
  cases dst <;> rfl

/-- the frame is plain: no deferred calls, n registers -/
def Pl (n : Nat) (a : Act) : Prop := a.defers = [] ∧ n ≤ a.tmps.size
def PQ (n : Nat) (Q : Exit → Reg → World → Prop) : Exit → Act → World → Prop := fun e a w => Pl n a ∧ Q e (regs a) w
def HT (P : Program) (n : Nat) (c : Code) (R : Reg) (w : World) (Q : Exit → Reg → World → Prop) : Prop :=
  ∀ a : Act, Pl n a → regs a = R → c.wp P (PQ n Q) a w

section
variable {P : Program} {n : Nat} {R : Reg} {w : World} {Q : Exit → Reg → World → Prop}
theorem HT.mono {c : Code} {Q' : Exit → Reg → World → Prop} (h : HT P n c R w Q) (hq : ∀ e R w, Q e R w → Q' e R w) : HT P n c R w Q' :=
  fun a ha hR => wp_mono (h a ha hR) fun e a' w' ⟨h1, h2⟩ => ⟨h1, hq _ _ _ h2⟩
def thn (next : Reg → World → Prop) (Q : Exit → Reg → World → Prop) : Exit → Reg → World → Prop
  | .normal, R, w => next R w
  | e, R, w => Q e R w
def blk (id : Nat) (Q : Exit → Reg → World → Prop) : Exit → Reg → World → Prop
  | .exit id', R, w => bif Nat.beq id' id then Q .normal R w else Q (.exit id') R w
  | e, R, w => Q e R w
theorem HT.seq {x y : Code} (h : HT P n x R w (thn (fun R' w' => HT P n y R' w' Q) Q)) : HT P n (.seq x y) R w Q := fun a ha hR =>
  wp_seq (wp_mono (h a ha hR) fun e a' w' ⟨h1, h2⟩ => by
    cases e <;> first | exact h2 a' h1 rfl | exact ⟨h1, h2⟩)
/-- the rest behind a cut -/
theorem HT.cut {x y : Code} (M : Reg → World → Prop) (h : HT P n x R w (thn M Q)) (k : ∀ R' w', M R' w' → HT P n y R' w' Q) : HT P n (.seq x y) R w Q :=
  HT.seq (h.mono fun e R' w' hq => by cases e <;> first | exact k _ _ hq | exact hq)
theorem HT.skip (h : Q .normal R w) : HT P n .skip R w Q := fun a ha hR => wp_skip ⟨ha, hR ▸ h⟩
theorem HT.ret (h : Q .ret R w) : HT P n .ret R w Q := fun a ha hR => wp_ret ⟨ha, hR ▸ h⟩
theorem HT.exit {id : Nat} (h : Q (.exit id) R w) : HT P n (.exit id) R w Q := fun a ha hR => wp_exit ⟨ha, hR ▸ h⟩
theorem HT.cond {c : Operand} {x y : Code} (b : Bool) (hb : evalR R c = .bool b) (h : b = true → HT P n x R w Q) (h' : b = false → HT P n y R w Q) : HT P n (.cond c x y) R w Q := fun a ha hR => by
  have : a.eval c = .bool b := by rw [eval_regs, hR, hb]
  exact wp_cond_split this (fun e => h e a ha hR) (fun e => h' e a ha hR)
theorem HT.block {id : Nat} {c : Code} (h : HT P n c R w (blk id Q)) : HT P n (.block id c) R w Q := fun a ha hR =>
  wp_block (wp_mono (h a ha hR) fun e a' w' ⟨h1, h2⟩ => by
    cases e <;> first
      | exact ⟨h1, h2⟩
      | (simp only [Exit.inBlock]
         simp only [blk] at h2
         split
         · rename_i h; subst h; simp at h2; exact ⟨h1, h2⟩
         · rename_i h; rw [nbeq_ne h] at h2; exact ⟨h1, h2⟩))
/-- a loop: k falls in every round -/
theorem HT.loop {c : Code} (I : Nat → Reg → World → Prop) (k : Nat) (h : I k R w) (round : ∀ k R w, I k R w → HT P n c R w (thn (fun R' w' => ∃ k', k' < k ∧ I k' R' w') Q)) : HT P n (.loop c) R w Q := fun a ha hR =>
  wp_loop_ghost (fun k a w => Pl n a ∧ I k (regs a) w) k ⟨ha, hR ▸ h⟩ fun k a w ⟨ha, hI⟩ =>
    wp_mono (round k _ w hI a ha rfl) fun e a' w' ⟨h1, h2⟩ => by
      cases e <;> first
        | exact ⟨h1, h2⟩
        | (obtain ⟨k', hk, hI'⟩ := h2
           exact ⟨k', hk, h1, hI'⟩)
end

/-! ### regions -/
/-- block b is a variable of type T that holds x -/
def BoxAt {α : Type} (E : Enc α) (A : Av) (w : World) (b : Nat) (T : TypeId) (x : α) : Prop := ∃ cs, Blk w b T cs.toArray ∧ E.rep A w x cs
section
variable {α : Type} {E : Enc α} {A : Av} {w w' : World} {b : Nat} {T : TypeId} {x : α}
theorem BoxAt.lt (h : BoxAt E A w b T x) : b < w.heap.size := let ⟨_, h1, _⟩ := h; h1.lt
theorem BoxAt.fr (h : BoxAt E A w b T x) (hf : Fr w w') : BoxAt E A w' b T x := let ⟨cs, h1, h2⟩ := h; ⟨cs, h1.below hf.toBelow h1.lt, E.stp (hf.stp A) h2⟩
theorem BoxAt.at (h : BoxAt E A w b T x) : PAt E A w b 0 x := by
  obtain ⟨cs, h1, h2⟩ := h
  refine ⟨cs, h2, fun j u hu => ?_⟩
  rw [h1.cell, Nat.zero_add]
  simpa using hu
theorem BoxAt.ptr (h : BoxAt E A w b T x) {v : Value} (hv : v = .pointer (some ⟨b, 0, none⟩)) : PRep E A w v x := ⟨b, 0, hv, h.lt, h.at⟩
theorem Rep.cells {v : Value} (h : Rep E A w v x) : E.rep A w x v.cells.toList := by
  obtain ⟨cs, rfl, h⟩ := h
  have hl := E.len h
  cases ha : E.agg with
  | true => simpa [Enc.val, ha, Value.cells] using h
  | false =>
    have h1 := E.one ha
    rw [h1] at hl
    match cs, hl, h with
    | [c], _, h =>
      have h2 := E.oc h c (by simp)
      have : (Enc.val E [c]).cells = #[c] := by
        simp only [Enc.val, ha]
        cases c <;> first | rfl | cases h2
      rw [this]
      exact h
theorem BoxAt.new {v : Value} (h : Rep E A w v x) : BoxAt E A (w.alloc (.cells v.cells T)) w.heap.size T x := by
  refine ⟨v.cells.toList, ?_, E.stp ((Fr.alloc w _).stp A) h.cells⟩
  have := Blk.new w T v.cells
  simpa using this
end
inductive Fact : Type 1
  | any
  | raw (u : Value)
  | rep {α : Type} (E : Enc α) (A : Av) (x : α)
  | ptr {α : Type} (E : Enc α) (A : Av) (x : α)
  | qtr {α : Type} (E : Enc α) (A : Av) (x : α)
  | tup2 (f g : Fact)
  | tup3 (f g h : Fact)
  | tup4 (f g h k : Fact)
  | box {α : Type} (B : Nat) (T : TypeId) (E : Enc α) (A : Av) (x : α)
def Fact.ok : Fact → Value → World → Prop
  | .any, _, _ => True
  | .raw u, v, _ => v = u
  | .rep E A x, v, w => Rep E A w v x
  | .ptr E A x, v, w => PRep E A w v x
  | .qtr E A x, v, w => QRep E A w v x
  | .tup2 f g, v, w => ∃ a b, v = .tuple #[a, b] ∧ f.ok a w ∧ g.ok b w
  | .tup3 f g h, v, w => ∃ a b c, v = .tuple #[a, b, c] ∧ f.ok a w ∧ g.ok b w ∧ h.ok c w
  | .tup4 f g h k, v, w => ∃ a b c d, v = .tuple #[a, b, c, d] ∧ f.ok a w ∧ g.ok b w ∧ h.ok c w ∧ k.ok d w
  | .box B T E A x, v, w => ∃ b, v = .pointer (some ⟨b, 0, none⟩) ∧ B ≤ b ∧ BoxAt E A w b T x
theorem Fact.fr {f : Fact} {v : Value} {w w' : World} (h : f.ok v w) (hf : Fr w w') : f.ok v w' := by
  induction f generalizing v with
  | any => trivial
  | raw u => exact h
  | rep E A x => exact Rep.fr h hf
  | ptr E A x => exact PRep.fr h hf
  | qtr E A x => exact QRep.stp h (hf.stp A)
  | tup2 f g hf' hg => obtain ⟨a, b, h1, h2, h3⟩ := h; exact ⟨a, b, h1, hf' h2, hg h3⟩
  | tup3 f g k hf' hg hk => obtain ⟨a, b, c, h1, h2, h3, h4⟩ := h; exact ⟨a, b, c, h1, hf' h2, hg h3, hk h4⟩
  | tup4 f g k l hf' hg hk hl => obtain ⟨a, b, c, d, h1, h2, h3, h4, h5⟩ := h; exact ⟨a, b, c, d, h1, hf' h2, hg h3, hk h4, hl h5⟩
  | box B T E A x => obtain ⟨b, h1, h2, h3⟩ := h; exact ⟨b, h1, h2, h3.fr hf⟩
structure Ent where
  o : Oper
  g : Bool
  f : Fact
def Ent.isDst (x : Ent) (t : Nat) : Bool := match x.o.dst with | some d => Nat.beq d t | none => false
def bnd (e : Edge) : Bool := Region.binds .any e
/-- may t be read at operation i? No operation that writes t can have come before -/
def okReadFrom (i t : Nat) : Nat → List Ent → Bool
  | _, [] => true
  | j, x :: l => (!x.isDst t || Nat.beq j i || x.o.after.toList.any (fun e => bnd e && Nat.beq e.on i)) && okReadFrom i t (j + 1) l
def okRead (l : List Ent) (i t : Nat) : Bool := okReadFrom i t 0 l
def notDst (l : List Ent) (t : Nat) : Bool := l.all fun x => !x.isDst t
def Deps (l : List Ent) (R : Reg) (w : World) (es : List Edge) : Prop :=
  ∀ (i : Nat) e x d, es[i]? = some e → bnd e = true → l[e.on]? = some x → x.o.dst = some d → x.g = true → x.f.ok (R d) w
def Guard (l : List Ent) (x : Ent) : Prop := match x.o.guard with
  | none => x.g = true
  | some (j, want) => ∃ y c d, l[j]? = some y ∧ y.o.dst = some d ∧ y.f = .raw (.bool c) ∧ x.g = (y.g && (c == want)) ∧ x.o.after.any (fun e => bnd e && Nat.beq e.on j) = true
def Obl (P : Program) (l : List Ent) (R : Reg) (w : World) (i : Nat) (x : Ent) : Prop :=
  Guard l x ∧ (x.g = true → ∀ R' w', Fr w w' → (∀ t, okRead l i t = true → R' t = R t) → Deps l R' w' x.o.after.toList → OpR P x.o R' w' fun v w'' => x.f.ok v w'' ∧ Fr w' w'')
def Obls (P : Program) (l : List Ent) (R : Reg) (w : World) : Nat → List Ent → Prop
  | _, [] => True
  | i, x :: r => Obl P l R w i x ∧ Obls P l R w (i + 1) r
def Facts (R : Reg) (w : World) (l : List Ent) : Prop := ∀ (i : Nat) x d, l[i]? = some x → x.o.dst = some d → x.g = true → x.f.ok (R d) w
/-- operations one after another, in the text's order, no guard -/
def seqR (P : Program) : List Oper → Reg → World → (Reg → World → Prop) → Prop
  | [], R, w, K => K R w
  | o :: os, R, w, K => o.guard = none ∧ OpR P o R w fun v w' => seqR P os (updO R o.dst v) w' K

theorem Obls.at {P : Program} {l : List Ent} {R : Reg} {w : World} : ∀ (r : List Ent) (k : Nat), Obls P l R w k r → ∀ i x, r[i]? = some x → Obl P l R w (k + i) x
  | [], _, _, i, x, hx => by simp at hx
  | y :: r, k, h, 0, x, hx => by simp at hx; subst hx; exact h.1
  | y :: r, k, h, i + 1, x, hx => by
    have := Obls.at r (k + 1) h.2 i x (by simpa using hx)
    rwa [show k + 1 + i = k + (i + 1) by omega] at this

/-- what is known when the operations of done have come -/
structure Inv (l : List Ent) (R : Reg) (w : World) (done : Nat → Bool) (R' : Reg) (w' : World) : Prop where
  fr : Fr w w'
  old : ∀ t, (∀ i x, l[i]? = some x → x.isDst t = true → done i = false) → R' t = R t
  yes : ∀ i x d, l[i]? = some x → done i = true → x.o.dst = some d → x.g = true → x.f.ok (R' d) w'
  no : ∀ i x d, l[i]? = some x → done i = true → x.o.dst = some d → x.g = false → R' d = undef
def setB (f : Nat → Bool) (i : Nat) : Nat → Bool := fun j => bif Nat.beq j i then true else f j
theorem setB_same (f : Nat → Bool) (i : Nat) : setB f i i = true := by simp [setB]
theorem setB_ne (f : Nat → Bool) {i j : Nat} (h : j ≠ i) : setB f i j = f j := by
  have : Nat.beq j i = false := nbeq_ne h
  simp [setB, this]
/-- no register is written twice -/
def distinct : List Ent → Bool
  | [] => true
  | x :: r => (match x.o.dst with | some d => r.all (fun y => !y.isDst d) | none => true) && distinct r
theorem isDst_iff {x : Ent} {t : Nat} : x.isDst t = true ↔ x.o.dst = some t := by
  unfold Ent.isDst
  cases x.o.dst <;> simp
theorem distinct_spec : ∀ (l : List Ent), distinct l = true → ∀ (i j : Nat) x y d, l[i]? = some x → l[j]? = some y → x.o.dst = some d → y.o.dst = some d → i = j
  | [], _, i, _, x, _, _, hx, _, _, _ => by simp at hx
  | z :: l, h, i, j, x, y, d, hx, hy, hd, hd' => by
    simp only [distinct, Bool.and_eq_true] at h
    obtain ⟨h1, h2⟩ := h
    have key : ∀ (k : Nat) (y : Ent), l[k]? = some y → y.o.dst = some d → z.o.dst = some d → False := fun k y hy hd' hz => by
      rw [hz] at h1
      simp only [List.all_eq_true] at h1
      have := h1 y (List.mem_of_getElem? hy)
      rw [Bool.not_eq_true', Bool.eq_false_iff] at this
      exact this (isDst_iff.2 hd')
    cases i with
    | zero =>
      cases j with
      | zero => rfl
      | succ j =>
        simp at hx hy
        subst hx
        exact (key j y hy hd' hd).elim
    | succ i =>
      cases j with
      | zero =>
        simp at hx hy
        subst hy
        exact (key i x hx hd hd').elim
      | succ j =>
        simp at hx hy
        rw [distinct_spec l h2 i j x y d hx hy hd hd']
theorem Inv.put {l : List Ent} (hd : distinct l = true) {R R' : Reg} {w w' w'' : World} {done : Nat → Bool} (h : Inv l R w done R' w') {i : Nat} {x : Ent} (hx : l[i]? = some x)
    (hf : Fr w' w'') {v : Value} (hy : x.g = true → x.f.ok v w'') (hn : x.g = false → v = undef) : Inv l R w (setB done i) (updO R' x.o.dst v) w'' := by
  refine ⟨h.fr.trans hf, fun t ht => ?_, fun j y d hj hdn hyd hg => ?_, fun j y d hj hdn hyd hg => ?_⟩
  · have h1 : x.o.dst ≠ some t := fun e => by
      have := ht i x hx (isDst_iff.2 e)
      rw [setB_same] at this
      cases this
    have h2 : updO R' x.o.dst v t = R' t := by
      cases hxd : x.o.dst with
      | none => rfl
      | some d => exact upd_ne _ _ _ _ fun e => h1 (by rw [hxd, e])
    rw [h2]
    refine h.old t fun j y hj hy => ?_
    have := ht j y hj hy
    by_cases e : j = i
    · subst e; rw [setB_same] at this; cases this
    · rwa [setB_ne _ e] at this
  · by_cases e : j = i
    · subst e
      rw [hx] at hj
      injection hj with hj
      subst hj
      rw [hyd]
      show x.f.ok (upd R' d v d) w''
      rw [upd_same]
      exact hy hg
    · rw [setB_ne _ e] at hdn
      have h1 : updO R' x.o.dst v d = R' d := by
        cases hxd : x.o.dst with
        | none => rfl
        | some d' => exact upd_ne _ _ _ _ fun e' => e (distinct_spec l hd j i y x d hj hx hyd (by rw [hxd, e']))
      rw [h1]
      exact Fact.fr (h.yes j y d hj hdn hyd hg) hf
  · by_cases e : j = i
    · subst e
      rw [hx] at hj
      injection hj with hj
      subst hj
      rw [hyd]
      show upd R' d v d = undef
      rw [upd_same]
      exact hn hg
    · rw [setB_ne _ e] at hdn
      have h1 : updO R' x.o.dst v d = R' d := by
        cases hxd : x.o.dst with
        | none => rfl
        | some d' => exact upd_ne _ _ _ _ fun e' => e (distinct_spec l hd j i y x d hj hx hyd (by rw [hxd, e']))
      rw [h1]
      exact h.no j y d hj hdn hyd hg
theorem okReadFrom_spec {i t : Nat} : ∀ (l : List Ent) (k : Nat), okReadFrom i t k l = true → ∀ j x, l[j]? = some x → x.isDst t = true → k + j = i ∨ ∃ e ∈ x.o.after, bnd e = true ∧ e.on = i
  | [], _, _, j, x, hx, _ => by simp at hx
  | y :: l, k, h, j, x, hx, ht => by
    simp only [okReadFrom, Bool.and_eq_true] at h
    cases j with
    | zero =>
      simp at hx
      subst hx
      rw [ht] at h
      simp at h
      rcases h.1 with h | h
      · left; omega
      · right
        obtain ⟨m, hm, h2, h3⟩ := h
        exact ⟨_, Array.getElem_mem hm, h2, h3⟩
    | succ j =>
      rcases okReadFrom_spec l (k + 1) h.2 j x (by simpa using hx) ht with h | h
      · left; omega
      · right; exact h
theorem deps_of {l : List Ent} {R : Reg} {w : World} (es : List Edge) (h : ∀ e ∈ es, bnd e = true → ∀ x d, l[e.on]? = some x → x.o.dst = some d → x.g = true → x.f.ok (R d) w) : Deps l R w es :=
  fun i e x d he hb => h e (List.mem_of_getElem? he) hb x d
/-- one operation of the region, whatever has come before -/
theorem step_any {P : Program} {n : Nat} {l : List Ent} {ops : Array Oper} {R : Reg} {w : World} (hops : ∀ (i : Nat) x, l[i]? = some x → ops[i]? = some x.o) (hd : distinct l = true)
    (hsz : ∀ (i : Nat) x d, l[i]? = some x → x.o.dst = some d → d < n) (ho : Obls P l R w 0 l) {done : Nat → Bool} {i : Nat} {x : Ent} (hx : l[i]? = some x) (hnd : done i = false)
    (hdep : ∀ e ∈ x.o.after, bnd e = true → done e.on = true) (hlate : ∀ (j : Nat) y, l[j]? = some y → (∃ e ∈ y.o.after, bnd e = true ∧ e.on = i) → done j = false)
    {a : Act} {w' : World} (ha : Pl n a) (hI : Inv l R w done (regs a) w') {Q : Exit → Act → World → Prop} {K : Act → World → Prop}
    (hK : ∀ a' w'', Pl n a' → Inv l R w (setB done i) (regs a') w'' → K a' w'') : wpOp P ops Q i K a w' := by
  unfold wpOp
  rw [hops i x hx]
  dsimp only
  have hob := Obls.at l 0 ho i x hx
  rw [Nat.zero_add] at hob
  obtain ⟨hg, hob⟩ := hob
  have hput : ∀ (v : Value) (w'' : World), Fr w' w'' → (x.g = true → x.f.ok v w'') → (x.g = false → v = undef) → K (a.put x.o.dst v) w'' := fun v w'' hf h1 h2 => by
    refine hK _ _ ⟨by rw [put_defers']; exact ha.1, by rw [put_size]; exact ha.2⟩ ?_
    rw [regs_put _ _ _ fun d hdd => Nat.lt_of_lt_of_le (hsz i x d hx hdd) ha.2]
    exact hI.put hd hx hf h1 h2
  have hrun : x.g = true → x.o.wp P a w' K Q := fun hgt => by
    have h1 := hob hgt (regs a) w' hI.fr (fun t ht => hI.old t fun j y hj hy => by
      rcases okReadFrom_spec l 0 ht j y hj hy with h | h
      · rw [Nat.zero_add] at h
        rw [h]
        exact hnd
      · exact hlate j y hj h) (deps_of _ fun e he hb y d hy hyd hyg => hI.yes e.on y d hy (hdep e (Array.mem_toList_iff.1 he) hb) hyd hyg)
    unfold Oper.wp
    rw [eval_regs]
    refine OpK.elim (C := Oper.upon P x.o a K Q) h1 (fun v w'' h1 => ?_) (fun w'' h1 => ?_) fun f args w'' h1 => ?_
    · rw [Oper.upon_value]
      exact hput v w'' h1.2 (fun _ => h1.1) (fun h => by simp [hgt] at h)
    · rw [Oper.upon_skip]
      exact hput undef w'' h1.2 (fun _ => h1.1) fun _ => rfl
    · rw [Oper.upon_enter]
      refine Calls.mono h1 ?_
      rintro e w3 ⟨v, rfl, hf, hfr⟩
      exact hput v w3 hfr (fun _ => hf) (fun h => by simp [hgt] at h)
  unfold Guard at hg
  cases hgd : x.o.guard with
  | none =>
    rw [hgd] at hg
    rw [if_pos (by simp [Region.wanted, hgd])]
    exact .inl (hrun hg)
  | some p =>
    obtain ⟨j, want⟩ := p
    rw [hgd] at hg
    obtain ⟨y, c, d, hy, hyd, hyf, hxg, haf⟩ := hg
    simp only [Array.any_eq_true, Bool.and_eq_true] at haf
    obtain ⟨k, hk, hb, hon⟩ := haf
    have hdone : done j = true := by
      have := hdep x.o.after[k] (Array.getElem_mem hk) hb
      rwa [Nat.eq_of_beq_eq_true hon] at this
    have hyo := hops j y hy
    have hyl : yielded ops a.tmps j = (match regs a d with | .bool b => some b | _ => none) := by
      simp only [yielded, hyo, regs]
      simp [hyd]
      cases a.tmps[d]? with
      | none => rfl
      | some v => cases v <;> rfl
    cases hyg : y.g with
    | true =>
      have h1 := hI.yes j y d hy hdone hyd hyg
      rw [hyf] at h1
      have h2 : regs a d = .bool c := h1
      rw [h2] at hyl
      rw [hyg, Bool.true_and] at hxg
      by_cases hcw : c = want
      · subst hcw
        rw [if_pos (by simp [Region.wanted, hgd, hyl])]
        exact .inl (hrun (by rw [hxg]; simp))
      · rw [if_neg (by simp [Region.wanted, hgd, hyl, hcw])]
        exact hput undef w' (Fr.refl _) (fun h => by rw [hxg] at h; simp at h; exact (hcw h).elim) fun _ => rfl
    | false =>
      have h1 := hI.no j y d hy hdone hyd hyg
      rw [h1] at hyl
      rw [hyg, Bool.false_and] at hxg
      rw [if_neg (by simp [Region.wanted, hgd, hyl, undef])]
      exact hput undef w' (Fr.refl _) (fun h => by rw [hxg] at h; cases h) fun _ => rfl

/-- edges point backward -/
def backFrom : Nat → List Oper → Bool
  | _, [] => true
  | i, o :: r => o.after.all (fun e => !bnd e || Nat.blt e.on i) && backFrom (i + 1) r
/-- every operation of tl waits for all that stand before it -/
def waitsFrom : Nat → List Oper → Bool
  | _, [] => true
  | i, o :: r => (List.range i).all (fun j => o.after.any fun e => bnd e && Nat.beq e.on j) && waitsFrom (i + 1) r
theorem backFrom_spec : ∀ (l : List Oper) (k : Nat), backFrom k l = true → ∀ i o, l[i]? = some o → ∀ e ∈ o.after, bnd e = true → e.on < k + i
  | [], _, _, i, o, h => by simp at h
  | y :: l, k, h, 0, o, ho => by
    simp at ho
    subst ho
    intro e he hb
    simp only [backFrom, Bool.and_eq_true, Array.all_eq_true'] at h
    have := h.1 e he
    simpa [hb] using this
  | y :: l, k, h, i + 1, o, ho => by
    simp only [backFrom, Bool.and_eq_true] at h
    intro e he hb
    have := backFrom_spec l (k + 1) h.2 i o (by simpa using ho) e he hb
    omega
theorem waitsFrom_spec : ∀ (l : List Oper) (k : Nat), waitsFrom k l = true → ∀ i o, l[i]? = some o → ∀ j, j < k + i → ∃ e ∈ o.after, bnd e = true ∧ e.on = j
  | [], _, _, i, o, h => by simp at h
  | y :: l, k, h, 0, o, ho => by
    simp at ho
    subst ho
    intro j hj
    simp only [waitsFrom, Bool.and_eq_true, List.all_eq_true] at h
    have := h.1 j (List.mem_range.2 hj)
    simp only [Array.any_eq_true, Bool.and_eq_true] at this
    obtain ⟨m, hm, h1, h2⟩ := this
    exact ⟨_, Array.getElem_mem hm, h1, Nat.eq_of_beq_eq_true h2⟩
  | y :: l, k, h, i + 1, o, ho => by
    simp only [waitsFrom, Bool.and_eq_true] at h
    intro j hj
    exact waitsFrom_spec l (k + 1) h.2 i o (by simpa using ho) j (by omega)
/-- registers are among the n -/
def dstOK (n : Nat) (l : List Oper) : Bool := l.all fun o => match o.dst with | some d => Nat.blt d n | none => true
theorem dstOK_spec {n : Nat} {l : List Oper} (h : dstOK n l = true) {i : Nat} {o : Oper} {d : Nat} (ho : l[i]? = some o) (hd : o.dst = some d) : d < n := by
  simp only [dstOK, List.all_eq_true] at h
  have := h o (List.mem_of_getElem? ho)
  rw [hd] at this
  simpa using this

section
variable {P : Program} {n : Nat} {ops : Array Oper} {Q : Exit → Reg → World → Prop}
theorem opwp_of_opr {o : Oper} {a : Act} {w : World} {K' : Value → World → Prop} {K : Act → World → Prop} {Q' : Exit → Act → World → Prop} (hg : o.guard = none) (h : OpR P o (regs a) w K') (hk : ∀ v w', K' v w' → K (a.put o.dst v) w') :
    ∀ i, ops[i]? = some o → wpOp P ops Q' i K a w := by
  intro i hi
  unfold wpOp
  rw [hi]
  dsimp only
  rw [if_pos (by simp [Region.wanted, hg])]
  refine .inl ?_
  unfold Oper.wp
  rw [eval_regs]
  refine OpK.elim (C := Oper.upon P o a K Q') h (fun v w' h => ?_) (fun w' h => ?_) fun f args w' h => ?_
  · rw [Oper.upon_value]
    exact hk _ _ h
  · rw [Oper.upon_skip]
    exact hk _ _ h
  · rw [Oper.upon_enter]
    refine Calls.mono h ?_
    rintro e w3 ⟨v, rfl, h3⟩
    exact hk _ _ h3
theorem seq_wpOps {K : Reg → World → Prop} (hK : ∀ R w, K R w → Q .normal R w) : ∀ (tl : List Oper) (k : Nat), (∀ j, tl[j]? = ops[k + j]?) → dstOK n tl = true → ∀ (a : Act) (w : World), Pl n a → seqR P tl (regs a) w K →
    wpOps P ops (PQ n Q) (List.range' k tl.length) a w
  | [], _, _, _, a, w, ha, h => by
    simp only [List.length_nil, List.range'_zero, wpOps]
    exact ⟨ha, hK _ _ h⟩
  | o :: tl, k, hops, hd, a, w, ha, h => by
    rw [List.length_cons, List.range'_succ, wpOps_cons]
    obtain ⟨hg, h⟩ := h
    have h0 : ops[k]? = some o := by have := hops 0; simpa using this.symm
    refine opwp_of_opr hg h (fun v w' hs => ?_) k h0
    have hd2 : ∀ d, o.dst = some d → d < a.tmps.size := fun d hdd => Nat.lt_of_lt_of_le (dstOK_spec hd (i := 0) rfl hdd) ha.2
    refine seq_wpOps hK tl (k + 1) (fun j => ?_) (by simp only [dstOK, List.all_cons, Bool.and_eq_true] at hd; exact hd.2) _ _ ⟨by rw [put_defers']; exact ha.1, by rw [put_size]; exact ha.2⟩ (by rw [regs_put _ _ _ hd2]; exact hs)
    have := hops (j + 1)
    rw [show k + 1 + j = k + (j + 1) by omega, ← this]
    simp
/-- what the first operations leave, handed to the last ones -/
def After (P : Program) (l : List Ent) (tl : List Oper) (R : Reg) (w : World) (K : Reg → World → Prop) : Prop :=
  ∀ R' w', Fr w w' → (∀ t, notDst l t = true → R' t = R t) → Facts R' w' l → seqR P tl R' w' K
theorem facts_of {R : Reg} {w : World} (l : List Ent) (h : ∀ (i : Nat) x d, l[i]? = some x → x.o.dst = some d → x.g = true → x.f.ok (R d) w) : Facts R w l := h
theorem notDst_spec {l : List Ent} {t : Nat} (h : notDst l t = true) {i : Nat} {x : Ent} (hx : l[i]? = some x) : x.isDst t ≠ true := by
  simp only [notDst, List.all_eq_true] at h
  have := h x (List.mem_of_getElem? hx)
  intro e
  rw [e] at this
  cases this
theorem Inv.after {l : List Ent} {tl : List Oper} {R : Reg} {w : World} {K : Reg → World → Prop} (h : After P l tl R w K) {done : Nat → Bool} (hd : ∀ i, i < l.length → done i = true) {R' : Reg} {w' : World} (hI : Inv l R w done R' w') : seqR P tl R' w' K :=
  h R' w' hI.fr (fun t ht => hI.old t fun i x hx hy => (notDst_spec ht hx hy).elim) (facts_of l fun i x d hx hxd hg => hI.yes i x d hx (hd i (List.getElem?_eq_some_iff.1 hx).1) hxd hg)
theorem map_at {l : List Ent} {tl : List Oper} {i : Nat} {x : Ent} (hx : l[i]? = some x) : (l.map (·.o) ++ tl)[i]? = some x.o := by
  rw [List.getElem?_append_left (by rw [List.length_map]; exact (List.getElem?_eq_some_iff.1 hx).1), List.getElem?_map, hx]
  rfl
/-- a region in the text's order: the operations of l in whatever way, then those of tl one by one -/
theorem HT.text {id : Nat} {l : List Ent} {tl : List Oper} {R : Reg} {w : World} (hb : backFrom 0 (l.map (·.o)) = true) (hd : distinct l = true) (hs : dstOK n (l.map (·.o) ++ tl) = true)
    (ho : Obls P l R w 0 l) (ha : After P l tl R w (fun R w => Q .normal R w)) : HT P n (.region id (l.map (·.o) ++ tl).toArray false) R w Q := fun a hpl hR => by
  refine wp_region ?_
  have hsize : (l.map (·.o) ++ tl).toArray.size = l.length + tl.length := by simp
  rw [hsize, List.range_eq_range', ]
  have htl : dstOK n tl = true := by
    simp only [dstOK, List.all_append, Bool.and_eq_true] at hs
    exact hs.2
  have key : ∀ m k, m + k = l.length → ∀ (a : Act) (w' : World), Pl n a → Inv l R w (fun i => Nat.blt i k) (regs a) w' →
      wpOps P (l.map (·.o) ++ tl).toArray (PQ n Q) (List.range' k (m + tl.length)) a w' := by
    intro m
    induction m with
    | zero =>
      intro k hk a w' hpl hI
      rw [Nat.zero_add]
      refine seq_wpOps (fun _ _ h => h) tl k (fun j => ?_) htl a w' hpl (hI.after ha fun i hi => by simpa using (by omega : i < k))
      simp only [List.getElem?_toArray]
      rw [List.getElem?_append_right (by simp; omega)]
      congr 1
      simp
      omega
    | succ m ih =>
      intro k hk a w' hpl hI
      rw [show m + 1 + tl.length = (m + tl.length) + 1 by omega, List.range'_succ, wpOps_cons]
      have hkl : k < l.length := by omega
      have hx : l[k]? = some l[k] := List.getElem?_eq_getElem hkl
      refine step_any (done := fun i => Nat.blt i k) (fun i x hx => by simp only [List.getElem?_toArray]; exact map_at hx) hd (fun i x d hx hdd => dstOK_spec hs (map_at hx) hdd) ho hx (nblt_no (Nat.le_refl k)) (fun e he hbe => ?_) (fun j y hy hex => ?_) hpl hI (fun a' w'' hpl' hI' => ih (k + 1) (by omega) a' w'' hpl' ?_)
      · have := backFrom_spec _ 0 hb k _ (by rw [List.getElem?_map, hx]; rfl) e he hbe
        show Nat.blt e.on k = true
        simpa using this
      · obtain ⟨e, he, hbe, hon⟩ := hex
        have := backFrom_spec _ 0 hb j _ (by rw [List.getElem?_map, hy]; rfl) e he hbe
        exact nblt_no (by omega)
      · have : setB (fun i => Nat.blt i k) k = fun i => Nat.blt i (k + 1) := by
          funext i
          by_cases e : i = k
          · subst e; rw [setB_same]; simp
          · rw [setB_ne _ e, Bool.eq_iff_iff]; simp; omega
        rw [← this]
        exact hI'
  refine key l.length 0 (by omega) a w hpl ⟨Fr.refl _, fun t _ => by rw [hR], fun i x d _ h => by simp at h, fun i x d _ h => by simp at h⟩

theorem getD_set_self {listed : Array Bool} {i : Nat} (h : i < listed.size) (d : Bool) : (listed.setIfInBounds i true).getD i d = true := by
  simp [h]
/-- the last operations, when the region draws its order: each waits for all before it -/
theorem seq_wpAny {K : Reg → World → Prop} (hK : ∀ R w, K R w → Q .normal R w) : ∀ (tl : List Oper) (k : Nat), ops.size = k + tl.length → (∀ j, tl[j]? = ops[k + j]?) → dstOK n tl = true → waitsFrom k tl = true → backFrom k tl = true →
    ∀ (listed : Array Bool) (a : Act) (w : World), listed.size = ops.size → (∀ j, j < ops.size → listed.getD j false = decide (j < k)) → Pl n a → seqR P tl (regs a) w K →
    wpAny P .any ops (PQ n Q) tl.length listed a w
  | [], k, hz, _, _, _, _, listed, a, w, hls, hl, ha, h => by
    refine ⟨?_, ha, hK _ _ h⟩
    cases hr : Region.ready .any ops listed with
    | nil => rfl
    | cons j r =>
      have hj : j ∈ Region.ready .any ops listed := by rw [hr]; simp
      obtain ⟨h1, o, ho, _⟩ := mem_ready.1 hj
      have hlt : j < ops.size := (Array.getElem?_eq_some_iff.1 ho).1
      have h2 := hl j hlt
      rw [decide_eq_true (by simp at hz; omega)] at h2
      simp [hls ▸ hlt] at h1 h2
      rw [h1] at h2
      cases h2
  | o :: tl, k, hz, hops, hd, hw, hb, listed, a, w, hls, hl, ha, h => by
    have h0 : ops[k]? = some o := by have := hops 0; simpa using this.symm
    have hkl : k < ops.size := (Array.getElem?_eq_some_iff.1 h0).1
    have hopt : ∀ j, (o :: tl)[j]? = ops[k + j]? := hops
    have honly : ∀ j, j ∈ Region.ready .any ops listed → j = k := fun j hj => by
      obtain ⟨h1, o', ho', hall⟩ := mem_ready.1 hj
      have hlt : j < ops.size := (Array.getElem?_eq_some_iff.1 ho').1
      have h2 := hl j hlt
      have hge : ¬ j < k := fun hlt' => by
        rw [decide_eq_true hlt'] at h2
        simp [hls ▸ hlt] at h1 h2
        rw [h1] at h2
        cases h2
      rcases Nat.lt_or_ge k j with hkj | hkj
      · have h3 := hopt (j - k)
        rw [show k + (j - k) = j by omega, ho'] at h3
        obtain ⟨e, he, hbe, hon⟩ := waitsFrom_spec (o :: tl) k hw (j - k) o' h3 k (by omega)
        have h4 := hall e he hbe
        rw [hon, hl k hkl, decide_eq_false (by omega)] at h4
        cases h4
      · omega
    have hmem : k ∈ Region.ready .any ops listed := by
      refine mem_ready.2 ⟨?_, o, h0, fun e he hbe => ?_⟩
      · have := hl k hkl
        rw [decide_eq_false (by omega)] at this
        simp [hls ▸ hkl] at this ⊢
        exact this
      · have := backFrom_spec (o :: tl) k hb 0 o rfl e he hbe
        rw [hl e.on (by omega)]
        simpa using this
    refine ⟨fun hr => (by rw [hr] at hmem; cases hmem), fun j hj => ?_⟩
    obtain rfl := honly j hj
    obtain ⟨hg, h⟩ := h
    refine opwp_of_opr hg h (fun v w' hs => ?_) j h0
    have hd2 : ∀ d, o.dst = some d → d < a.tmps.size := fun d hdd => Nat.lt_of_lt_of_le (dstOK_spec hd (i := 0) rfl hdd) ha.2
    simp only [dstOK, List.all_cons, Bool.and_eq_true] at hd
    simp only [waitsFrom, Bool.and_eq_true] at hw
    simp only [backFrom, Bool.and_eq_true] at hb
    refine seq_wpAny hK tl (j + 1) (by simp at hz; omega) (fun i => ?_) hd.2 hw.2 hb.2 _ _ _ (by simpa using hls) (fun i hi => ?_) ⟨by rw [put_defers']; exact ha.1, by rw [put_size]; exact ha.2⟩ (by rw [regs_put _ _ _ hd2]; exact hs)
    · have := hops (i + 1)
      rw [show j + 1 + i = j + (i + 1) by omega, ← this]
      simp
    · by_cases e : i = j
      · subst e
        rw [getD_set_self (by omega), decide_eq_true (by omega)]
      · rw [getD_set_ne false (Ne.symm e), hl i hi]
        rw [decide_eq_decide]
        omega

/-- how many are not listed among the first m -/
def left (listed : Array Bool) : Nat → Nat
  | 0 => 0
  | m + 1 => left listed m + (if listed.getD m false then 0 else 1)
theorem left_set {listed : Array Bool} {i : Nat} (hi : i < listed.size) (h : listed.getD i false = false) : ∀ m, left listed m = left (listed.setIfInBounds i true) m + (if i < m then 1 else 0)
  | 0 => by simp [left]
  | m + 1 => by
    simp only [left]
    rw [left_set hi h m]
    by_cases e : m = i
    · subst e
      rw [h, getD_set_self hi]
      simp
    · rw [getD_set_ne false (Ne.symm e)]
      have : (i < m + 1) = (i < m) := by rw [eq_iff_iff]; omega
      simp only [this]
      omega
theorem left_zero {listed : Array Bool} : ∀ m, left listed m = 0 → ∀ i, i < m → listed.getD i false = true
  | 0, _, i, hi => by omega
  | m + 1, h, i, hi => by
    simp only [left] at h
    by_cases e : i = m
    · subst e
      split at h
      · assumption
      · omega
    · exact left_zero m (by omega) i (by omega)
theorem left_pos {listed : Array Bool} : ∀ m, 0 < left listed m → ∃ i, i < m ∧ listed.getD i false = false ∧ ∀ j, j < i → listed.getD j false = true
  | 0, h => by simp [left] at h
  | m + 1, h => by
    rcases Nat.eq_zero_or_pos (left listed m) with h0 | h0
    · refine ⟨m, by omega, ?_, left_zero m h0⟩
      simp only [left, h0] at h
      cases hm : listed.getD m false
      · rfl
      · rw [hm] at h; simp at h
    · obtain ⟨i, h1, h2⟩ := left_pos m h0
      exact ⟨i, by omega, h2⟩
theorem left_new (N : Nat) : ∀ m, m ≤ N → left (Array.replicate N false) m = m
  | 0, _ => rfl
  | m + 1, h => by
    simp only [left]
    rw [left_new N m (by omega)]
    simp [show m < N by omega]

/-- a region that draws its order: the operations of l in whatever order, then those of tl, each of which waits for all before it -/
theorem HT.draws {id : Nat} {l : List Ent} {tl : List Oper} {R : Reg} {w : World} (hm : P.follows .mixedOrders = true) (hb : backFrom 0 (l.map (·.o) ++ tl) = true) (hw : waitsFrom l.length tl = true) (hd : distinct l = true) (hs : dstOK n (l.map (·.o) ++ tl) = true)
    (ho : Obls P l R { w with drawn := w.drawn + 1 } 0 l) (ha : After P l tl R { w with drawn := w.drawn + 1 } (fun R w => Q .normal R w)) : HT P n (.region id (l.map (·.o) ++ tl).toArray true) R w Q := fun a hpl hR => by
  refine wp_region_any hm ?_
  have hsize : (l.map (·.o) ++ tl).toArray.size = l.length + tl.length := by simp
  have htl : dstOK n tl = true := by
    simp only [dstOK, List.all_append, Bool.and_eq_true] at hs
    exact hs.2
  have hbs := backFrom_spec _ 0 hb
  have hbt : backFrom l.length tl = true := by
    have : ∀ (l1 : List Oper) (k : Nat), backFrom k (l1 ++ tl) = true → backFrom (k + l1.length) tl = true := by
      intro l1
      induction l1 with
      | nil => intro k h; simpa using h
      | cons y l1 ih =>
        intro k h
        simp only [List.cons_append, backFrom, Bool.and_eq_true] at h
        have := ih (k + 1) h.2
        rwa [show k + 1 + l1.length = k + (y :: l1).length by simp; omega] at this
    have := this _ 0 hb
    simpa using this
  have hopsl : ∀ (i : Nat) x, l[i]? = some x → (l.map (·.o) ++ tl).toArray[i]? = some x.o := fun i x hx => by
    simp only [List.getElem?_toArray]
    exact map_at hx
  have hopst : ∀ j, tl[j]? = (l.map (·.o) ++ tl).toArray[l.length + j]? := fun j => by
    simp only [List.getElem?_toArray]
    rw [List.getElem?_append_right (by simp)]
    congr 1
    simp
  generalize hops : (l.map (·.o) ++ tl).toArray = ops at *
  have key : ∀ f (listed : Array Bool) (a : Act) (w' : World), listed.size = ops.size → left listed l.length = f → (∀ j, l.length ≤ j → listed.getD j false = false) → (∀ (k : Nat) y, l[k]? = some y → listed.getD k false = true → ∀ e ∈ y.o.after, bnd e = true → listed.getD e.on false = true) → Pl n a →
      Inv l R { w with drawn := w.drawn + 1 } (fun i => listed.getD i false) (regs a) w' → wpAny P .any ops (PQ n Q) (f + tl.length) listed a w' := by
    intro f
    induction f with
    | zero =>
      intro listed a w' hls hf hge hcl hpl hI
      rw [Nat.zero_add]
      refine seq_wpAny (fun _ _ h => h) tl l.length hsize hopst htl hw hbt listed a w' hls (fun j hj => ?_) hpl (hI.after ha (left_zero _ hf))
      by_cases e : j < l.length
      · rw [left_zero _ hf j e, decide_eq_true e]
      · rw [hge j (by omega), decide_eq_false e]
    | succ f ih =>
      intro listed a w' hls hf hge hcl hpl hI
      rw [show f + 1 + tl.length = (f + tl.length) + 1 by omega]
      obtain ⟨i, hi, hi0, hmin⟩ := left_pos (listed := listed) l.length (by omega)
      have hmem : i ∈ Region.ready .any ops listed := by
        have hx : l[i]? = some l[i] := List.getElem?_eq_getElem hi
        refine mem_ready.2 ⟨?_, _, hopsl i _ hx, fun e he hbe => ?_⟩
        · have : i < listed.size := by omega
          simp [this] at hi0 ⊢
          exact hi0
        · have := hbs i _ (map_at hx) e he hbe
          exact hmin e.on (by omega)
      refine ⟨fun hr => (by rw [hr] at hmem; cases hmem), fun j hj => ?_⟩
      obtain ⟨hj0, o, hoj, hall⟩ := mem_ready.1 hj
      have hjs : j < ops.size := (Array.getElem?_eq_some_iff.1 hoj).1
      have hj0' : listed.getD j false = false := by
        simp [hls ▸ hjs] at hj0 ⊢
        exact hj0
      have hjl : j < l.length := by
        rcases Nat.lt_or_ge j l.length with h | h
        · exact h
        · exfalso
          have h3 := hopst (j - l.length)
          rw [show l.length + (j - l.length) = j by omega, hoj] at h3
          obtain ⟨e, he, hbe, hon⟩ := waitsFrom_spec tl l.length hw (j - l.length) o h3 i (by omega)
          have h4 := hall e he hbe
          rw [hon, hi0] at h4
          cases h4
      have hx : l[j]? = some l[j] := List.getElem?_eq_getElem hjl
      have hoe : o = l[j].o := by
        have := hopsl j _ hx
        rw [hoj] at this
        injection this
      subst hoe
      refine step_any (done := fun i => listed.getD i false) hopsl hd (fun i x d hx hdd => dstOK_spec hs (map_at hx) hdd) ho hx hj0' hall (fun k y hy hex => ?_) hpl hI (fun a' w'' hpl' hI' => ih (listed.setIfInBounds j true) a' w'' (by simpa using hls) ?_ (fun k hk => ?_) (fun k y hy hk e he hbe => ?_) hpl' ?_)
      · obtain ⟨e, he, hbe, hon⟩ := hex
        cases hk : listed.getD k false
        · rfl
        · have := hcl k y hy hk e he hbe
          rw [hon, hj0'] at this
          cases this
      · have := left_set (i := j) (by omega) hj0' l.length
        rw [if_pos hjl] at this
        omega
      · rw [getD_set_ne false (by omega), hge k hk]
      · by_cases e2 : k = j
        · subst e2
          rw [hx] at hy
          injection hy with hy
          subst hy
          exact getD_set_true (hall e he hbe)
        · rw [getD_set_ne false (Ne.symm e2)] at hk
          exact getD_set_true (hcl k y hy hk e he hbe)
      · have : setB (fun i => listed.getD i false) j = fun i => (listed.setIfInBounds j true).getD i false := by
          funext k
          by_cases e : k = j
          · subst e; rw [setB_same, getD_set_self (by omega)]
          · rw [setB_ne _ e, getD_set_ne false (Ne.symm e)]
        rw [← this]
        exact hI'
  have hrep : ∀ j, (Array.replicate ops.size false).getD j false = false := fun j => by
    by_cases h : j < ops.size <;> simp [h]
  rw [hsize]
  rw [hsize] at hrep key
  exact key l.length (Array.replicate (l.length + tl.length) false) a _ (by simp) (left_new _ _ (by omega)) (fun j _ => hrep j) (fun k y _ hk => absurd ((hrep k).symm.trans hk) Bool.false_ne_true) hpl
    ⟨Fr.refl _, fun t _ => by rw [hR], fun i x d _ h => absurd ((hrep i).symm.trans h) Bool.false_ne_true, fun i x d _ h => absurd ((hrep i).symm.trans h) Bool.false_ne_true⟩

/-! the words that a printed proof uses -/
theorem Obls.from {l : List Ent} {R : Reg} {w w' : World} (hw : Fr w w') : ∀ (r : List Ent) (i : Nat), Obls P l R w i r → Obls P l R w' i r
  | [], _, _ => trivial
  | x :: r, i, h => ⟨⟨h.1.1, fun hg R' w'' hf => h.1.2 hg R' w'' (hw.trans hf)⟩, Obls.from hw r (i + 1) h.2⟩
theorem HT.draw {id : Nat} {l : List Ent} {tl : List Oper} {R : Reg} {w : World} (hm : P.follows .mixedOrders = true) (hb : backFrom 0 (l.map (·.o) ++ tl) = true) (hw : waitsFrom l.length tl = true) (hd : distinct l = true) (hs : dstOK n (l.map (·.o) ++ tl) = true)
    (ho : Obls P l R w 0 l) (ha : After P l tl R w (fun R w => Q .normal R w)) : HT P n (.region id (l.map (·.o) ++ tl).toArray true) R w Q :=
  HT.draws hm hb hw hd hs (ho.from (Fr.drew w) l 0) fun R' w' hf => ha R' w' ((Fr.drew w).trans hf)
theorem seqR_nil {K : Reg → World → Prop} {R : Reg} {w : World} (h : K R w) : seqR P [] R w K := h
theorem Obls.nil {l : List Ent} {R : Reg} {w : World} {i : Nat} : Obls P l R w i [] := trivial
theorem Obls.cons {l : List Ent} {R : Reg} {w : World} {i : Nat} {x : Ent} {r : List Ent} (h : Obl P l R w i x) (t : Obls P l R w (i + 1) r) : Obls P l R w i (x :: r) := ⟨h, t⟩
theorem Obl.plain {l : List Ent} {R : Reg} {w : World} {i : Nat} {x : Ent} (hg : x.o.guard = none) (hx : x.g = true)
    (h : ∀ R' w', Fr w w' → (∀ t, okRead l i t = true → R' t = R t) → Deps l R' w' x.o.after.toList → OpR P x.o R' w' fun v w'' => x.f.ok v w'' ∧ Fr w' w'') : Obl P l R w i x :=
  ⟨by unfold Guard; rw [hg]; exact hx, fun _ => h⟩
theorem Obl.grd {l : List Ent} {R : Reg} {w : World} {i : Nat} {x : Ent} (j : Nat) (want : Bool) (y : Ent) (c : Bool) (d : Nat) (hg : x.o.guard = some (j, want)) (hy : l[j]? = some y) (hyd : y.o.dst = some d) (hyf : y.f = .raw (.bool c)) (hx : x.g = (y.g && (c == want)))
    (ha : x.o.after.any (fun e => bnd e && Nat.beq e.on j) = true)
    (h : x.g = true → ∀ R' w', Fr w w' → (∀ t, okRead l i t = true → R' t = R t) → Deps l R' w' x.o.after.toList → OpR P x.o R' w' fun v w'' => x.f.ok v w'' ∧ Fr w' w'') : Obl P l R w i x :=
  ⟨by unfold Guard; rw [hg]; exact ⟨y, c, d, hy, hyd, hyf, hx, ha⟩, h⟩
theorem Rep.to {α : Type} {E : Enc α} {A : Av} {w w' : World} {v v' : Value} {x : α} (h : Rep E A w v x) (hw : Fr w w') (e : v' = v) : Rep E A w' v' x := e ▸ h.fr hw
theorem PRep.to {α : Type} {E : Enc α} {A : Av} {w w' : World} {v v' : Value} {x : α} (h : PRep E A w v x) (hw : Fr w w') (e : v' = v) : PRep E A w' v' x := e ▸ h.fr hw
theorem Rep.eq {α : Type} {E : Enc α} {A : Av} {w : World} {v v' : Value} {x : α} (h : Rep E A w v x) (e : v' = v) : Rep E A w v' x := e ▸ h
def bd {α β : Type} (e : α) (k : α → Option β) : Option β := k e
theorem bd_some {α β : Type} {e : α} {k : α → Option β} {r : β} (h : bd e k = some r) : ∃ x, x = e ∧ k x = some r := ⟨e, rfl, h⟩
/-- a call under a guard -/
def cl {α β : Type} [Inhabited α] (g : Bool) (o : Option α) (k : α → Option β) : Option β := bif g then o.bind k else k default
theorem cl_some {α β : Type} [Inhabited α] {g : Bool} {o : Option α} {k : α → Option β} {r : β} (h : cl g o k = some r) : ∃ x, (g = true → o = some x) ∧ k x = some r := by
  cases g with
  | false => exact ⟨default, fun h => absurd h Bool.false_ne_true, h⟩
  | true =>
    have h' : o.bind k = some r := h
    cases o with
    | none => cases h'
    | some x => exact ⟨x, fun _ => rfl, h'⟩
theorem cnd_t {α : Type} {b : Bool} {x y : Option α} {r : α} (hb : b = true) (h : (bif b then x else y) = some r) : x = some r := by subst hb; exact h
theorem cnd_f {α : Type} {b : Bool} {x y : Option α} {r : α} (hb : b = false) (h : (bif b then x else y) = some r) : y = some r := by subst hb; exact h
/-- how a loop ends: the function returns, or the walk goes on -/
inductive Ex (ρ σ : Type) where
  | ret (r : ρ)
  | go (s : σ)
def exM {ρ σ γ : Type} (x : Ex ρ σ) (f : ρ → Option γ) (g : σ → Option γ) : Option γ := match x with
  | .ret r => f r
  | .go s => g s
instance {ρ σ : Type} [Inhabited σ] : Inhabited (Ex ρ σ) := ⟨.go default⟩
theorem exM_go {ρ σ γ : Type} {s : σ} {f : ρ → Option γ} {g : σ → Option γ} {r : γ} (h : exM (.go s) f g = some r) : g s = some r := h
theorem g_and {g b : Bool} (h : g = true) (k : b = true) : (g && b) = true := by rw [h, k]; rfl
theorem beq_of {c d : Bool} (h : c = d) : (c == d) = true := by subst h; simp
theorem HT.cut0 {x : Code} {R : Reg} {w : World} {Q : Exit → Reg → World → Prop} (M : Reg → World → Prop) (h : HT P n x R w (thn M Q)) (k : ∀ R' w', M R' w' → Q .normal R' w') : HT P n x R w Q :=
  h.mono fun e R' w' hq => by cases e <;> first | exact k _ _ hq | exact hq
theorem rep1_nil {α : Type} {E : Enc α} {A : Av} {w : World} : (eSl E).rep A w [] [.slice none 0 0] := ⟨none, 0, 0, rfl, rfl, Nat.le_refl _, Nat.zero_le _, fun h => absurd h (by omega)⟩
theorem rep_nil {α : Type} {E : Enc α} {A : Av} {w : World} : Rep (eSl E) A w (.slice none 0 0) [] := ⟨_, rfl, rep1_nil⟩
theorem rep1_int {k : IntKind} {A : Av} {w : World} {x : Int} : (eInt k).rep A w x [.int k x] := rfl
theorem rep_pr {α β : Type} {E : Enc α} {F : Enc β} {A : Av} {w : World} {x : α} {y : β} {c d : List Value} (h : E.rep A w x c) (k : F.rep A w y d) : (ePr E F).rep A w (x, y) (c ++ d) := ⟨c, d, rfl, h, k⟩
end
end Go.Proofs.Ytmgiijdejigdhaa
