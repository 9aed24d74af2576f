/- What one operation yields, kind by kind, over any program. No statement of the seat is proved here. -/
import Derived.Test.YtmgiijdejigdhaaDl
import Derived.IntWalk
namespace Go.Proofs.Ytmgiijdejigdhaa
open Go.RowKit
set_option linter.unusedVariables false

/-! ### the plain words -/
def i64B (x : Int) : Bool := decide (-9223372036854775808 ≤ x) && decide (x ≤ 9223372036854775807)
theorem i64B_wrap {x : Int} (h : i64B x = true) : IntKind.i64.wrap x = x := by
  simp only [i64B, Bool.and_eq_true, decide_eq_true_eq] at h
  exact IntWalk.i64_in x h
def inR (i : Int) (n : Nat) : Bool := decide (0 ≤ i) && decide (i < n)
theorem inR_iff {i : Int} {n : Nat} : inR i n = true ↔ 0 ≤ i ∧ i < n := by simp [inR]
def gtD {α : Type} [Inhabited α] (xs : List α) (i : Int) : α := xs.getD i.toNat default
def bAt (x : List UInt8) (i : Int) : Int := ((x.getD i.toNat 0).toNat : Int)
def ck {α : Type} (b : Bool) (k : Option α) : Option α := bif b then k else none
def gv {α : Type} [Inhabited α] (o : Option α) : α := o.getD default
theorem ck_some {α : Type} {b : Bool} {k : Option α} {r : α} (h : ck b k = some r) : b = true ∧ k = some r := by
  cases b
  · cases h
  · exact ⟨rfl, h⟩
theorem gd {g b : Bool} (h : (!g || b) = true) (hg : g = true) : b = true := by
  subst hg
  simpa using h
theorem getD_at {α : Type} [Inhabited α] {xs : List α} {i : Int} (h : inR i xs.length = true) : xs[i.toNat]? = some (gtD xs i) := by
  obtain ⟨h1, h2⟩ := inR_iff.1 h
  have : i.toNat < xs.length := by omega
  simp [gtD, this]

/-! ### operations -/
abbrev OpF (P : Program) (o : Oper) (R : Reg) (w : World) (f : Fact) : Prop := OpR P o R w fun v w' => f.ok v w' ∧ Fr w w'
section
variable {P : Program} {R : Reg} {w : World} {f : Fact} {d : Option Nat} {t : TypeId} {p : String} {af : Array Edge} {g : Option (Nat × Bool)} {A : Av} {α β : Type}
theorem opr_val {o : Oper} {K : Value → World → Prop} {v : Value} {w' : World} (h : (execOp (evalR R) o).run P w = .ok (.value v) w') (hk : K v w') : OpR P o R w K := by
  unfold OpR
  rw [h]
  exact hk
theorem opr_skip {o : Oper} {K : Value → World → Prop} {w' : World} (h : (execOp (evalR R) o).run P w = .ok .skip w') (hk : K undef w') : OpR P o R w K := by
  unfold OpR
  rw [h]
  exact hk
theorem of_move {x : Operand} (h : f.ok (evalR R x) w) : OpF P ⟨d, .move x, t, p, af, g⟩ R w f := opr_val rfl ⟨h, Fr.refl _⟩
theorem of_assign {x : Operand} (h : f.ok (evalR R x) w) : OpF P ⟨d, .assign x, t, p, af, g⟩ R w f := opr_val rfl ⟨h, Fr.refl _⟩
theorem of_pick {c x y : Operand} (b : Bool) (hc : evalR R c = .bool b) (h1 : b = true → f.ok (evalR R x) w) (h2 : b = false → f.ok (evalR R y) w) : OpF P ⟨d, .pick c x y, t, p, af, g⟩ R w f := by
  cases b
  · exact opr_val (v := evalR R y) (w' := w) (by simp [execOp, hc, go_sem]) ⟨h2 rfl, Fr.refl _⟩
  · exact opr_val (v := evalR R x) (w' := w) (by simp [execOp, hc, go_sem]) ⟨h1 rfl, Fr.refl _⟩
section ints
variable {x y : Operand} {T T' : TypeId} {k : IntKind} {a b : Int}
theorem of_lss (hx : evalR R x = .int k a) (hy : evalR R y = .int k b) : OpF P ⟨d, .binOp .lss T x y T', t, p, af, g⟩ R w (.raw (.bool (decide (a < b)))) :=
  opr_val (w' := w) (by simp [execOp, hx, hy, go_sem]) ⟨rfl, Fr.refl _⟩
theorem of_leq (hx : evalR R x = .int k a) (hy : evalR R y = .int k b) : OpF P ⟨d, .binOp .leq T x y T', t, p, af, g⟩ R w (.raw (.bool (decide (a ≤ b)))) :=
  opr_val (w' := w) (by simp [execOp, hx, hy, go_sem]) ⟨rfl, Fr.refl _⟩
theorem of_gtr (hx : evalR R x = .int k a) (hy : evalR R y = .int k b) : OpF P ⟨d, .binOp .gtr T x y T', t, p, af, g⟩ R w (.raw (.bool (decide (b < a)))) :=
  opr_val (w' := w) (by simp [execOp, hx, hy, go_sem]) ⟨rfl, Fr.refl _⟩
theorem of_geq (hx : evalR R x = .int k a) (hy : evalR R y = .int k b) : OpF P ⟨d, .binOp .geq T x y T', t, p, af, g⟩ R w (.raw (.bool (decide (b ≤ a)))) :=
  opr_val (w' := w) (by simp [execOp, hx, hy, go_sem]) ⟨rfl, Fr.refl _⟩
theorem of_eql (hx : evalR R x = .int k a) (hy : evalR R y = .int k b) : OpF P ⟨d, .binOp .eql T x y T', t, p, af, g⟩ R w (.raw (.bool (a == b))) :=
  opr_val (w' := w) (by simp [execOp, hx, hy, go_sem]) ⟨rfl, Fr.refl _⟩
theorem of_neq (hx : evalR R x = .int k a) (hy : evalR R y = .int k b) : OpF P ⟨d, .binOp .neq T x y T', t, p, af, g⟩ R w (.raw (.bool (a != b))) :=
  opr_val (w' := w) (by simp [execOp, hx, hy, go_sem]) ⟨rfl, Fr.refl _⟩
theorem of_add (hx : evalR R x = .int .i64 a) (hy : evalR R y = .int .i64 b) (h : i64B (a + b) = true) : OpF P ⟨d, .binOp .add T x y T', t, p, af, g⟩ R w (.raw (.int .i64 (a + b))) :=
  opr_val (w' := w) (v := .int .i64 (IntKind.i64.wrap (a + b))) (by simp [execOp, hx, hy, go_sem]) ⟨by rw [i64B_wrap h]; rfl, Fr.refl _⟩
theorem of_sub (hx : evalR R x = .int .i64 a) (hy : evalR R y = .int .i64 b) (h : i64B (a - b) = true) : OpF P ⟨d, .binOp .sub T x y T', t, p, af, g⟩ R w (.raw (.int .i64 (a - b))) :=
  opr_val (w' := w) (v := .int .i64 (IntKind.i64.wrap (a - b))) (by simp [execOp, hx, hy, go_sem]) ⟨by rw [i64B_wrap h]; rfl, Fr.refl _⟩
theorem of_quo (hx : evalR R x = .int .i64 a) (hy : evalR R y = .int .i64 b) (h0 : (b != 0) = true) (h : i64B (a.tdiv b) = true) : OpF P ⟨d, .binOp .quo T x y T', t, p, af, g⟩ R w (.raw (.int .i64 (a.tdiv b))) := by
  have h0' : b ≠ 0 := by simpa using h0
  exact opr_val (w' := w) (v := .int .i64 (IntKind.i64.wrap (a.tdiv b))) (by simp [execOp, hx, hy, h0', go_sem]) ⟨by rw [i64B_wrap h]; rfl, Fr.refl _⟩
theorem of_rem (hx : evalR R x = .int .i64 a) (hy : evalR R y = .int .i64 b) (h0 : (b != 0) = true) : OpF P ⟨d, .binOp .rem T x y T', t, p, af, g⟩ R w (.raw (.int .i64 (a.tmod b))) := by
  have h0' : b ≠ 0 := by simpa using h0
  exact opr_val (w' := w) (v := .int .i64 (a.tmod b)) (by simp [execOp, hx, hy, h0', go_sem]) ⟨rfl, Fr.refl _⟩
end ints
theorem of_not {x : Operand} {T : TypeId} {b : Bool} (hx : evalR R x = .bool b) : OpF P ⟨d, .unOp .not T x, t, p, af, g⟩ R w (.raw (.bool (!b))) :=
  opr_val (w' := w) (by simp [execOp, hx, go_sem]) ⟨rfl, Fr.refl _⟩
section memory
variable {E : Enc α} {F : Enc β} {q : α → β} {x ix : Operand} {T e : TypeId} {a : α} {xs : List α}
theorem run_loadVar {b o s : Nat} {ag : Bool} {cs : List Value} (hag : ∀ w, (isAgg T).run P w = .ok ag w) (hsz : ∀ w, (sizeOf T).run P w = .ok s w) (hl : cs.length = s) (h1 : ag = false → s = 1) (hc : ∀ j u, cs[j]? = some u → w.cell? ⟨b, o + j, none⟩ = some u) :
    (loadVar T ⟨b, o, none⟩).run P w = .ok (if ag then .agg cs.toArray else cs.headD undef) w := by
  have hadd : ∀ j, (⟨b, o, none⟩ : Addr).add j = ⟨b, o + j, none⟩ := fun j => by
    unfold Addr.add
    split
    · rename_i h; subst h; rfl
    · rfl
  cases ag with
  | true =>
    have := run_loadCells_list (P := P) w ⟨b, o, none⟩ cs (fun j v hv => by rw [hadd]; exact hc j v hv)
    rw [hl] at this
    simp [loadVar, hag, hsz, this]
  | false =>
    rw [h1 rfl] at hl
    match cs, hl, hc with
    | [c], _, hc =>
      have := hc 0 c rfl
      rw [Nat.add_zero] at this
      simp [loadVar, hag, this]
theorem of_load (h : PRep E A w (evalR R x) a) (hag : ∀ w, (isAgg T).run P w = .ok E.agg w) (hsz : ∀ w, (sizeOf T).run P w = .ok E.size w) : OpF P ⟨d, .load T x, t, p, af, g⟩ R w (.rep E A a) := by
  obtain ⟨b, o, hv, hb, cs, hr, hc⟩ := h
  refine opr_val (v := E.val cs) (w' := w) ?_ ⟨⟨cs, rfl, hr⟩, Fr.refl _⟩
  have := run_loadVar (P := P) (w := w) hag hsz (E.len hr) E.one hc
  simp [execOp, Instr.loadAt, Instr.sureAddr, hv, this, Enc.val]
theorem raw_of_int {k : IntKind} {n : Int} {v : Value} (h : Rep (eInt k) A w v n) : v = .int k n := by
  obtain ⟨cs, rfl, h⟩ := h
  subst h
  rfl
theorem raw_of_bool {b : Bool} {v : Value} (h : Rep eBool A w v b) : v = .bool b := by
  obtain ⟨cs, rfl, h⟩ := h
  subst h
  rfl
theorem rep_int {k : IntKind} {n : Int} : Rep (eInt k) A w (.int k n) n := ⟨_, rfl, rfl⟩
theorem OpF.int {o : Oper} {k : IntKind} {n : Int} (h : OpF P o R w (.rep (eInt k) A n)) : OpF P o R w (.raw (.int k n)) := OpR.mono h fun v w' ⟨h1, h2⟩ => ⟨raw_of_int h1, h2⟩
theorem OpF.bool {o : Oper} {n : Bool} (h : OpF P o R w (.rep eBool A n)) : OpF P o R w (.raw (.bool n)) := OpR.mono h fun v w' ⟨h1, h2⟩ => ⟨raw_of_bool h1, h2⟩
/-- a field's place: type and offset -/
def FldF (P : Program) (s k ft off : Nat) : Prop := ∃ fs f, (P.underlying s = some (.struct fs)) ∧ fs[k]? = some f ∧ f.type = ft ∧ f.offset = off
theorem run_fieldAt {s k ft off sz b o : Nat} {v : Value} (hf : FldF P s k ft off) (hsz : ∀ w, (sizeOf ft).run P w = .ok sz w) (h0 : sz ≠ 0) (hv : v = .pointer (some ⟨b, o, none⟩)) :
    (Instr.fieldAt s v k).run P w = .ok (.pointer (some ⟨b, o + off, none⟩)) w := by
  obtain ⟨fs, f, h1, h2, rfl, rfl⟩ := hf
  subst hv
  have hadd : (⟨b, o, none⟩ : Addr).add f.offset = ⟨b, o + f.offset, none⟩ := by
    unfold Addr.add
    split
    · rename_i h; rw [h]; rfl
    · rfl
  simp [Instr.fieldAt, underlying, h1, h2, Instr.sureAddr, fieldPlace, hsz, h0, hadd]
theorem PAt.fld {b o off : Nat} (h : PAt E A w b o a) (fl : Fld E off F q) : PAt F A w b (o + off) (q a) := by
  obtain ⟨cs, hr, hc⟩ := h
  refine ⟨_, fl.get hr, fun j u hu => ?_⟩
  rw [List.getElem?_take] at hu
  split at hu
  · rw [List.getElem?_drop] at hu
    rw [Nat.add_assoc]
    exact hc _ _ hu
  · cases hu
theorem QAt.fld {b o off : Nat} (h : QAt E A w b o a) (fl : Fld E off F q) : QAt F A w b (o + off) (q a) :=
  ⟨h.1.fld fl, fun j hj => by have := h.2 (off + j) (by have := fl.le; omega); rwa [← Nat.add_assoc] at this⟩
theorem of_fieldAddr_q {s k ft off : Nat} (h : QRep E A w (evalR R x) a) (hf : FldF P s k ft off) (hsz : ∀ w, (sizeOf ft).run P w = .ok F.size w) (h0 : F.size ≠ 0) (fl : Fld E off F q) {y : β} (hy : q a = y) : OpF P ⟨d, .fieldAddr s x k, t, p, af, g⟩ R w (.qtr F A y) := by
  subst hy
  obtain ⟨b, o, hv, hb, h⟩ := h
  refine opr_val (v := .pointer (some ⟨b, o + off, none⟩)) (w' := w) ?_ ⟨⟨b, o + off, rfl, hb, h.fld fl⟩, Fr.refl _⟩
  simp [execOp, run_fieldAt (w := w) hf hsz h0 hv]
theorem of_fieldAddr_raw {s k ft off sz b o o' : Nat} (h : evalR R x = .pointer (some ⟨b, o, none⟩)) (hf : FldF P s k ft off) (hsz : ∀ w, (sizeOf ft).run P w = .ok sz w) (h0 : sz ≠ 0) (ho : o + off = o') : OpF P ⟨d, .fieldAddr s x k, t, p, af, g⟩ R w (.raw (.pointer (some ⟨b, o', none⟩))) := by
  subst ho
  refine opr_val (w' := w) ?_ ⟨rfl, Fr.refl _⟩
  simp [execOp, run_fieldAt (w := w) hf hsz h0 h]
theorem of_indexAddr [Inhabited α] {k : IntKind} {i : Int} (h : Rep (eSl E) A w (evalR R x) xs) (hi : evalR R ix = .int k i) (hu : P.underlying T = some (.slice e)) (hsz : ∀ w, (sizeOf e).run P w = .ok E.size w) (hr : inR i xs.length = true) :
    OpF P ⟨d, .indexAddr T x ix, t, p, af, g⟩ R w (.qtr E A (gtD xs i)) := by
  obtain ⟨cs, hv, ad, n, c, rfl, hl, hnc, hcm, h4⟩ := h
  obtain ⟨i0, i1⟩ := inR_iff.1 hr
  obtain ⟨b, off, rfl, hb, hall⟩ := h4 (by omega)
  refine opr_val (v := .pointer (some ⟨b, off + i.toNat * E.size, none⟩)) (w' := w) ?_ ⟨⟨b, _, rfl, hb, hall i.toNat _ (getD_at hr)⟩, Fr.refl _⟩
  have hadd : ∀ j, (⟨b, off, none⟩ : Addr).add j = ⟨b, off + j, none⟩ := fun j => by
    unfold Addr.add
    split
    · rename_i h; subst h; rfl
    · rfl
  have hv' : evalR R x = .slice (some ⟨b, off, none⟩) n c := hv
  have hin : i < (n : Int) := by omega
  simp [execOp, Instr.indexAt, hv', hi, asIntOf, underlying, hu, i0, hin, hsz, hadd]
theorem of_strIndex {k : IntKind} {i : Int} {s : List UInt8} (h : Rep eStr A w (evalR R x) s) (hi : evalR R ix = .int k i) (hu : P.underlying T = some .string) (hr : inR i s.length = true) :
    OpF P ⟨d, .index T x ix, t, p, af, g⟩ R w (.raw (.int .u8 (bAt s i))) := by
  obtain ⟨cs, hv, sb, rfl, rfl, hm⟩ := h
  obtain ⟨i0, i1⟩ := inR_iff.1 hr
  have hlt : i.toNat < sb.size := by
    have : sb.data.toList.length = sb.size := Array.length_toList
    omega
  have hv' : evalR R x = .string sb := hv
  obtain ⟨u, hg, hd⟩ : ∃ u, sb[i.toNat]? = some u ∧ sb.data.toList.getD i.toNat 0 = u := by
    refine ⟨sb[i.toNat], getElem?_pos sb _ hlt, ?_⟩
    have hlt' : i.toNat < sb.data.size := hlt
    rw [List.getD_eq_getElem?_getD, Array.getElem?_toList, Array.getElem?_eq_getElem hlt']
    rfl
  refine opr_val (v := .int .u8 (u.toNat)) (w' := w) ?_ ⟨?_, Fr.refl _⟩
  · clear hd
    simp [execOp, Instr.index, hv', hi, asIntOf, underlying, hu, i0, hg]
  · show Value.int .u8 _ = Value.int .u8 (bAt sb.data.toList i)
    unfold bAt
    rw [hd]
theorem of_len_sl {aT : Array TypeId} (h : Rep (eSl E) A w (evalR R x) xs) (hu : P.underlying T = some (.slice e)) : OpF P ⟨d, .call ⟨.builtin .len, #[x], #[T]⟩, t, p, af, g⟩ R w (.raw (.int .i64 (xs.length : Int))) := by
  obtain ⟨cs, hv, ad, n, c, rfl, rfl, _⟩ := h
  have hv' : evalR R x = .slice ad xs.length c := hv
  exact opr_val (w' := w) (by simp [execOp, resolve, invoke, builtin, Builtin.len_, hv', underlying, hu, goInt]) ⟨rfl, Fr.refl _⟩
theorem of_len_str {s : List UInt8} (h : Rep eStr A w (evalR R x) s) (hu : P.underlying T = some .string) : OpF P ⟨d, .call ⟨.builtin .len, #[x], #[T]⟩, t, p, af, g⟩ R w (.raw (.int .i64 (s.length : Int))) := by
  obtain ⟨cs, hv, sb, rfl, rfl, hm⟩ := h
  have hv' : evalR R x = .string sb := hv
  refine opr_val (v := .int .i64 (sb.size : Int)) (w' := w) (by simp [execOp, resolve, invoke, builtin, Builtin.len_, hv', underlying, hu, goInt]) ⟨?_, Fr.refl _⟩
  show Value.int .i64 _ = Value.int .i64 _
  rw [Array.length_toList]
  rfl
theorem of_call {fn : FuncId} {al : List Operand} {aT : Array TypeId} (hc : ∀ args w, (callFunc fn args).run P w = .ok (.enter fn args) w) (h : Calls P fn (al.map (evalR R)).toArray w fun e w' => ∃ v, e = .returned v ∧ (f.ok v w' ∧ Fr w w')) :
    OpF P ⟨d, .call ⟨.value (.func fn), al.toArray, aT⟩, t, p, af, g⟩ R w f := by
  unfold OpF OpR
  have : (execOp (evalR R) ⟨d, .call ⟨.value (.func fn), al.toArray, aT⟩, t, p, af, g⟩).run P w = .ok (.enter fn (al.map (evalR R)).toArray) w := by
    simp [execOp, resolve, evalR, Deferred.ofValue, invoke, hc]
  rw [this]
  exact h
/-! stores -/
/-- w' is w but for the cells of block b -/
structure Wr (b : Nat) (w w' : World) : Prop where
  os : w'.os = w.os
  tape : w'.tape = w.tape
  output : w'.output = w.output
  size : w'.heap.size = w.heap.size
  block : ∀ k, k ≠ b → w'.heap[k]? = w.heap[k]?
  drawn : DLe w w'
theorem Wr.refl (b : Nat) (w : World) : Wr b w w := ⟨rfl, rfl, rfl, rfl, fun _ _ => rfl, DLe.refl _⟩
theorem Wr.trans {b : Nat} {u v w : World} (h : Wr b u v) (k : Wr b v w) : Wr b u w :=
  ⟨k.os.trans h.os, k.tape.trans h.tape, k.output.trans h.output, k.size.trans h.size, fun i hi => (k.block i hi).trans (h.block i hi), DLe.trans h.drawn k.drawn⟩
theorem Wr.setCell (w : World) (b o : Nat) (u : Value) : Wr b w (w.setCell ⟨b, o, none⟩ u) :=
  ⟨rfl, rfl, rfl, by simp [World.setCell], fun k hk => Below.heap_setCell _ _ _ _ hk, fun _ => Nat.le_refl _⟩
theorem Wr.below {b B : Nat} {w w' : World} (h : Wr b w w') (hB : B ≤ b) : Below B w w' := ⟨h.os, h.tape, h.output, by rw [h.size]; exact Nat.le_refl _, fun k hk => h.block k (by omega)⟩
theorem Wr.blk {b k : Nat} {w w' : World} {T : TypeId} {cs : Array Value} (h : Wr b w w') (hk : k ≠ b) (hb : Blk w k T cs) : Blk w' k T cs := (h.block k hk).trans hb
/-- a write into block b turns no reading that avoids b -/
theorem Wr.stp {b : Nat} {w w' : World} (h : Wr b w w') {A : Av} (hA : ∀ o, A b o) : Stp A A w w' :=
  ⟨by rw [h.size]; exact Nat.le_refl _, fun k o v hv hn => by
    by_cases e : k = b
    · subst e; exact absurd (hA o) hn
    · exact (World.cell?_of_block (h.block k e)).trans hv, fun _ _ _ h => h⟩
theorem addr_add (b o j : Nat) : (⟨b, o, none⟩ : Addr).add j = ⟨b, o + j, none⟩ := by
  unfold Addr.add
  split
  · rename_i h; subst h; rfl
  · rfl
/-- vs laid over cs from cell o on -/
def lay (cs : Array Value) (o : Nat) : List Value → Array Value
  | [] => cs
  | v :: vs => lay (cs.setIfInBounds o v) (o + 1) vs
theorem lay_size : ∀ (vs : List Value) (cs : Array Value) (o : Nat), (lay cs o vs).size = cs.size
  | [], _, _ => rfl
  | v :: vs, cs, o => by rw [lay, lay_size vs]; simp
theorem lay_at : ∀ (vs : List Value) (cs : Array Value) (o j : Nat), o + vs.length ≤ cs.size → (lay cs o vs)[j]? = if o ≤ j ∧ j < o + vs.length then vs[j - o]? else cs[j]?
  | [], cs, o, j, _ => by
    rw [if_neg (by simp)]
    rfl
  | v :: vs, cs, o, j, h => by
    simp only [List.length_cons] at h
    rw [lay, lay_at vs _ _ _ (by simp; omega)]
    by_cases h1 : j = o
    · subst h1
      rw [if_neg (by omega), if_pos (by simp)]
      simp [show j < cs.size by omega]
    · by_cases h2 : o ≤ j ∧ j < o + (vs.length + 1)
      · rw [if_pos (by omega), if_pos (by simpa using h2), show j - o = (j - (o + 1)) + 1 by omega]
        rfl
      · rw [if_neg (by omega), if_neg (by simpa using h2), Array.getElem?_setIfInBounds_ne (by omega)]
theorem run_storeCells {b : Nat} {T : TypeId} : ∀ (vs : List Value) (cs : Array Value) (o i : Nat) (w : World), (∀ v ∈ vs, v.oneCell' = true) → Blk w b T cs → o + i + vs.length ≤ cs.size →
    ∃ w', (storeCells ⟨b, o, none⟩ vs i).run P w = .ok () w' ∧ Wr b w w' ∧ Blk w' b T (lay cs (o + i) vs)
  | [], cs, o, i, w, _, hb, _ => ⟨w, rfl, Wr.refl _ _, hb⟩
  | v :: vs, cs, o, i, w, h1, hb, hl => by
    simp only [List.length_cons] at hl
    have hc : w.cell? ⟨b, o + i, none⟩ = some cs[o + i] := by rw [hb.cell]; exact Array.getElem?_eq_getElem (by omega)
    obtain ⟨w', hr, hw, hb'⟩ := run_storeCells vs (cs.setIfInBounds (o + i) v) o (i + 1) (w.setCell ⟨b, o + i, none⟩ v) (fun u hu => h1 u (by simp [hu])) (hb.put _ _) (by simp; omega)
    refine ⟨w', ?_, (Wr.setCell _ _ _ _).trans hw, hb'⟩
    have hst := run_store P w ((⟨b, o, none⟩ : Addr).add i) v .plain (h1 v (by simp))
    rw [addr_add, hc] at hst
    simp only [hb.frozen, Bool.false_eq_true, if_false] at hst
    simp only [storeCells, Sem.run_bind, addr_add, hst, Result.andThen_ok, hr]
theorem run_storeVar {b o s : Nat} {T' : TypeId} {v : Value} {cs : Array Value} (hsz : ∀ w, (sizeOf T').run P w = .ok s w) (h1 : ∀ u ∈ v.cells.toList, u.oneCell' = true) (hs : v.cells.size = s) (hb : Blk w b T cs) (hl : o + s ≤ cs.size) :
    ∃ w', (storeVar T' ⟨b, o, none⟩ v).run P w = .ok () w' ∧ Wr b w w' ∧ Blk w' b T (lay cs o v.cells.toList) := by
  obtain ⟨w', h2, h3, h4⟩ := run_storeCells (P := P) v.cells.toList cs o 0 w h1 hb (by simp; omega)
  refine ⟨w', ?_, h3, h4⟩
  simp [storeVar, hsz, hs, h2]
theorem Fr.trans' {b : Nat} {u v w : World} (h : Fr u v) (k : Wr b v w) (hb : u.heap.size ≤ b) : Fr u w := ⟨Below.trans h.toBelow (k.below hb), DLe.trans h.drawn k.drawn⟩
/-! structs compared -/
end memory
end
end Go.Proofs.Ytmgiijdejigdhaa
