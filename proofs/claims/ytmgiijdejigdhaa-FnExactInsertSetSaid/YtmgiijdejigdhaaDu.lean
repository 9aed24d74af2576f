/- Trees as resources; operations at places in them. No statement of the seat is proved here. -/
import Derived.Test.YtmgiijdejigdhaaDt
namespace Go.Proofs.Ytmgiijdejigdhaa
open Go.RowKit
set_option linter.unusedVariables false

abbrev Pin := Value × List Value
/-- cells whose content is known -/
def PinOK (w : World) (S : Nat → Prop) (q : Pin) : Prop := ∃ b o, q.1 = .pointer (some ⟨b, o, none⟩) ∧ S b ∧ ∀ (j : Nat) u, q.2[j]? = some u → w.cell? ⟨b, o + j, none⟩ = some u
/-- the value is a tree that reads x; some of its cells are known -/
def trP {α : Type} (F : OE α) (x : α) (pins : List Pin) : SP where
  P := fun A w S u => (∃ cs, u = F.E.val cs ∧ F.own A w S x cs) ∧ ∀ q, q ∈ pins → PinOK w S q
  lt := fun ⟨⟨_, _, h⟩, _⟩ hk => F.lt h hk
  stab := fun ⟨⟨cs, h1, h2⟩, h3⟩ hb hs => ⟨⟨cs, h1, F.stab h2 hb hs⟩, fun q hq => let ⟨b, o, h4, h5, h6⟩ := h3 q hq; ⟨b, o, h4, h5, fun j u hj => (World.cell?_of_block (hb b h5)).trans (h6 j u hj)⟩⟩
abbrev trR {α : Type} (K : Nat → Prop) (F : OE α) (x : α) (pins : List Pin) : Res := .gen K (trP F x pins)
/-- from block B on -/
abbrev geB (B : Nat) : Nat → Prop := fun k => B ≤ k
/-- an address further on -/
def padd : Value → Nat → Value
  | .pointer (some a), k => .pointer (some ⟨a.block, a.off + k, none⟩)
  | v, _ => v
theorem padd_padd (u : Value) (m k : Nat) : padd (padd u m) k = padd u (m + k) := by
  cases u with
  | pointer a =>
    cases a with
    | none => rfl
    | some a => simp [padd, Nat.add_assoc]
  | _ => rfl
theorem padd_zero {u : Value} (h : ∃ b o, u = .pointer (some ⟨b, o, none⟩)) : padd u 0 = u := by
  obtain ⟨b, o, rfl⟩ := h
  rfl
theorem padd_vptr (u : Value) (m k : Nat) : padd (vptr u m) k = vptr u (m + k) := by
  unfold vptr
  split
  · unfold padd
    simp [Nat.add_assoc]
  · rfl
theorem val_cells {α : Type} {E : Enc α} {A : Av} {w : World} {x : α} {cs : List Value} (h : E.rep A w x cs) : (E.val cs).cells.toList = cs := by
  have hl := E.len h
  cases ha : E.agg with
  | true => simp [Enc.val, ha, Value.cells]
  | false =>
    have h1 := E.one ha
    rw [h1] at hl
    match cs, hl, h with
    | [c], _, h =>
      have h2 := E.oc h c (by simp)
      have : (Enc.val E [c]).cells = #[c] := by
        simp only [Enc.val, ha]
        cases c <;> first | rfl | cases h2
      rw [this]
section
variable {α β γ : Type} {F : OE α} {G : OE β} {A A0 : Av} {w : World} {S : Nat → Prop}
theorem OE.rep0 (F : OE α) {x : α} {cs : List Value} (h : F.own A w S x cs) : F.E.rep av0 w x cs := F.rep h (fun _ _ h => h.elim) fun _ _ _ h => h
theorem OE.cells (F : OE α) {x : α} {cs : List Value} (h : F.own A w S x cs) : (F.E.val cs).cells.toList = cs := val_cells (F.rep0 h)
theorem tr_root {x : α} {pins : List Pin} {u : Value} (h : (trP F x pins).P A w S u) : VHoleA F A w S u x (fun z A w S => (trP F z []).P A w S u) := by
  obtain ⟨⟨cs, rfl, h1⟩, _⟩ := h
  have := VHole.root h1
  exact ⟨S, cs, rfl, this.own, this.sub, fun A' w' S1' y' k1 k2 k3 k4 => ⟨⟨cs, rfl, this.put A' w' S1' y' k1 k2 k3 k4⟩, fun q hq => by cases hq⟩⟩
theorem VHoleA.elem [Inhabited α] {T : TypeId} {v : Value} {xs : List α} {Q : List α → Pw} (h : VHoleA (oSl T F) A w S v xs Q) {i : Int} {m : Nat} (hi : inR i xs.length = true) (hm : i.toNat * F.E.size = m) : HoleA F A w S (vptr v m) (gtD xs i) (fun z => Q (xs.set i.toNat z)) := by
  obtain ⟨S1, cs, rfl, h⟩ := h
  obtain ⟨g, n, c, S2, ds, rfl, h2⟩ := h.elem (getD_at hi)
  exact ⟨g, m, S2, ds, by show Value.pointer _ = _; rw [Nat.zero_add], hm ▸ h2⟩
theorem VHoleA.len {T : TypeId} {v : Value} {xs : List α} {Q : List α → Pw} (h : VHoleA (oSl T F) A w S v xs Q) : ∃ a c, v = .slice a xs.length c ∧ (0 < xs.length → ∃ b, a = some ⟨b, 0, none⟩) := by
  obtain ⟨S1, cs, rfl, h⟩ := h
  rcases h.own with ⟨rfl, rfl, _⟩ | ⟨g, c, arr, Si, rfl, _⟩
  · exact ⟨none, 0, rfl, fun h => absurd h (by simp)⟩
  · exact ⟨_, c, rfl, fun _ => ⟨g, rfl⟩⟩
theorem HoleA.fst {a : Value} {y : α × β} {Q : α × β → Pw} (h : HoleA (oPr F G) A w S a y Q) : HoleA F A w S a y.1 (fun z => Q (z, y.2)) := by
  obtain ⟨b, off, S1, cs, rfl, h⟩ := h
  obtain ⟨Sa, ca, h⟩ := h.fst
  exact ⟨b, off, Sa, ca, rfl, h⟩
theorem HoleA.snd {a a' : Value} {y : α × β} {Q : α × β → Pw} (h : HoleA (oPr F G) A w S a y Q) (ha : padd a F.E.size = a') : HoleA G A w S a' y.2 (fun z => Q (y.1, z)) := by
  obtain ⟨b, off, S1, cs, rfl, h⟩ := h
  obtain ⟨Sa, ca, h⟩ := h.snd
  exact ⟨b, off + F.E.size, Sa, ca, ha.symm, h⟩
theorem HoleA.ad {a : Value} {y : α} {Q : α → Pw} (h : HoleA F A w S a y Q) : ∃ b off, a = .pointer (some ⟨b, off, none⟩) := let ⟨b, off, _, _, e, _⟩ := h; ⟨b, off, e⟩
/-- what stands at a place -/
theorem HoleA.open {a : Value} {y : α} {Q : α → Pw} (h : HoleA F A w S a y Q) : ∃ cs, cs.length = F.E.size ∧ PinOK w S (a, cs) := by
  obtain ⟨b, off, S1, cs, rfl, h⟩ := h
  exact ⟨cs, F.len h.own, b, off, rfl, h.inb, h.at'⟩
theorem HoleA.open1 {a : Value} {y : α} {Q : α → Pw} (h : HoleA F A w S a y Q) (ha : F.E.agg = false) : ∃ v, PinOK w S (a, [v]) := by
  obtain ⟨cs, hl, hp⟩ := h.open
  rw [F.E.one ha] at hl
  match cs, hl, hp with
  | [c], _, hp => exact ⟨c, hp⟩
theorem HoleA.pinS {a : Value} {y : α} {Q : α → Pw} {S' : Nat → Prop} {ds : List Value} (h : HoleA F A w S a y Q) (hp : PinOK w S' (a, ds)) (hl : ds.length = F.E.size) : VHoleA F A w S (F.E.val ds) y Q := by
  obtain ⟨b, off, S1, cs, rfl, h⟩ := h
  obtain ⟨b', o', e, _, hc⟩ := hp
  injection e with e
  injection e with e
  injection e with e1 e2
  subst e1 e2
  have hl' := F.len h.own
  have : ds = cs := by
    apply List.ext_getElem?
    intro j
    by_cases hj : j < ds.length
    · have h1 := hc j _ (List.getElem?_eq_getElem hj)
      have hj' : j < cs.length := by omega
      have h2 := h.at' j _ (List.getElem?_eq_getElem hj')
      rw [List.getElem?_eq_getElem hj, List.getElem?_eq_getElem hj']
      exact h1.symm.trans h2
    · rw [List.getElem?_eq_none (by omega), List.getElem?_eq_none (by omega)]
  subst this
  exact ⟨S1, ds, rfl, h.v⟩
theorem HoleA.pin {a v : Value} {y : α} {Q : α → Pw} {S' : Nat → Prop} (h : HoleA F A w S a y Q) (hp : PinOK w S' (a, [v])) (ha : F.E.agg = false) : VHoleA F A w S v y Q := by
  have := h.pinS hp (by rw [F.E.one ha]; rfl)
  simpa [Enc.val, ha] using this
theorem VHoleA.ptr {T : TypeId} {u : Value} {y : α} {Q : α → Pw} (h : VHoleA (oPt T F) A w S u y Q) : HoleA F A w S u y Q := by
  obtain ⟨S1, cs, rfl, h⟩ := h
  obtain ⟨b, S2, ds, rfl, h2⟩ := h.ptr
  exact ⟨b, 0, S2, ds, rfl, h2⟩
/-- a part of a struct that stands in a register -/
theorem VHoleA.own {v : Value} {y : α} {Q : α → Pw} (h : VHoleA F A w S v y Q) : ∃ S1 cs, v = F.E.val cs ∧ F.own A w S1 y cs ∧ (∀ k, S1 k → S k) := let ⟨S1, cs, e, h⟩ := h; ⟨S1, cs, e, h.own, h.sub⟩

/-! the objects -/
theorem IniOK.repin {ini : List Ob} (h : IniOK ini A w) (i : Nat) {u : Value} {K : Nat → Prop} {p p' : SP} (hi : ini[i]? = some ⟨u, S, .gen K p⟩) (hp : p.P A w S u → p'.P A w S u) : IniOK (ini.set i ⟨u, S, .gen K p'⟩) A w := by
  have hlt := (List.getElem?_eq_some_iff.1 hi).1
  have hset : ∀ (j : Nat) q, (ini.set i ⟨u, S, .gen K p'⟩)[j]? = some q → (j = i ∧ q = ⟨u, S, .gen K p'⟩) ∨ (j ≠ i ∧ ini[j]? = some q) := fun j q hq => by
    by_cases e : j = i
    · subst e
      rw [List.getElem?_set_self hlt] at hq
      injection hq with hq
      exact .inl ⟨rfl, hq.symm⟩
    · rw [List.getElem?_set_ne (Ne.symm e)] at hq
      exact .inr ⟨e, hq⟩
  refine ⟨fun j q hq => ?_, fun j q hq => ?_, fun j j' q q' hq hq' hne => ?_⟩
  · rcases hset j q hq with ⟨rfl, rfl⟩ | ⟨_, hq⟩
    · exact ⟨trivial, (h.ok j _ hi).2⟩
    · exact h.ok j q hq
  · rcases hset j q hq with ⟨rfl, rfl⟩ | ⟨_, hq⟩
    · have := h.own j _ hi
      exact ⟨this.1, hp this.2⟩
    · exact h.own j q hq
  · have key : ∀ (j : Nat) q, (ini.set i ⟨u, S, .gen K p'⟩)[j]? = some q → ∃ q0, ini[j]? = some q0 ∧ q0.S = q.S := fun j q hq => by
      rcases hset j q hq with ⟨rfl, rfl⟩ | ⟨_, hq⟩
      · exact ⟨_, hi, rfl⟩
      · exact ⟨q, hq, rfl⟩
    obtain ⟨q0, h1, h2⟩ := key j q hq
    obtain ⟨q1, h3, h4⟩ := key j' q' hq'
    rw [← h2, ← h4]
    exact h.dis j j' q0 q1 h1 h3 hne
theorem trP.pin {x : α} {pins : List Pin} {u : Value} {q : Pin} (hq : PinOK w S q) (h : (trP F x pins).P A w S u) : (trP F x (q :: pins)).P A w S u :=
  ⟨h.1, fun q' hq' => by
    rcases List.mem_cons.1 hq' with rfl | hq'
    · exact hq
    · exact h.2 q' hq'⟩
theorem trP.nopin {x : α} {pins : List Pin} {u : Value} (h : (trP F x pins).P A w S u) : (trP F x []).P A w S u := ⟨h.1, fun q hq => by cases hq⟩
/-- a plain row as a tree -/
theorem own_of_vec {E : Enc α} {B : Nat} {T : TypeId} {u : Value} {xs : List α} (h : Vec E A B T w u xs) (hT : T ≠ tByte) : ∃ cs, u = (oSl T (oRd E)).E.val cs ∧ (oSl T (oRd E)).own A w (ownsB u) xs cs := by
  obtain ⟨cs, hown, hf⟩ := h
  rcases hown.2 with ⟨rfl, h0⟩ | ⟨g, c, arr, rfl, hb, hg, hnc, hcm, hcs, htk⟩
  · obtain rfl : xs = [] := List.eq_nil_of_length_eq_zero h0
    exact ⟨[.slice none 0 0], rfl, .inl ⟨rfl, rfl, fun k hk => hk⟩⟩
  · refine ⟨[.slice (some ⟨g, 0, none⟩) xs.length c], rfl, .inr ⟨g, c, arr, fun _ _ => False, rfl, hg.plain hT, hnc, hcm, hcs, ⟨fun i x hx => ?_, fun _ _ _ _ _ _ h => h.elim, fun _ _ h => h, fun k => ⟨fun hk => .inl (Eq.symm hk), fun hk => hk.elim (fun e => Eq.symm e) fun ⟨_, _, h⟩ => h.elim⟩⟩⟩⟩
    obtain ⟨ds, h1, h2⟩ := hf.2 i x hx
    refine ⟨ds, ⟨fun _ h => h, h1⟩, fun j u hj => ?_⟩
    have := h2 j u hj
    rw [← htk, List.getElem?_take] at this
    show arr[i * E.size + j]? = some u
    split at this
    · simpa using this
    · cases this
theorem vec_of_own {E : Enc α} {B : Nat} {T : TypeId} {v : Value} {xs : List α} {cs : List Value} (h : (oSl T (oRd E)).own A w S xs cs) (hv : v = (oSl T (oRd E)).E.val cs) (hB : ∀ k, S k → B ≤ k) : Vec E A B T w v xs ∧ S = ownsB v := by
  subst hv
  rcases h with ⟨rfl, rfl, h⟩ | ⟨g, c, arr, Si, rfl, h1, h2, h3, h4, h5⟩
  · refine ⟨vec_nil, ?_⟩
    funext k
    rw [eq_iff_iff]
    exact ⟨fun hk => (h k hk).elim, fun hk => hk.elim⟩
  · have hsi : ∀ i k, i < xs.length → ¬ Si i k := fun i k hi hk => by
      obtain ⟨ds, h6, _⟩ := h5.el i _ (List.getElem?_eq_getElem hi)
      exact h6.1 k hk
    refine ⟨⟨arr.toList.take (xs.length * E.size), ⟨?_, .inr ⟨g, c, arr, rfl, hB g ((h5.set g).2 (.inl rfl)), BlkM.of h1, h2, h3, h4, rfl⟩⟩, ?_, fun i x hx => ?_⟩, ?_⟩
    · have := Nat.mul_le_mul_right E.size h2
      have h4' : arr.toList.length = c * E.size := by rw [Array.length_toList]; exact h4
      rw [List.length_take, h4']
      exact Nat.min_eq_left this
    · have := Nat.mul_le_mul_right E.size h2
      have h4' : arr.toList.length = c * E.size := by rw [Array.length_toList]; exact h4
      rw [List.length_take, h4']
      exact Nat.min_eq_left this
    · obtain ⟨ds, h6, h7⟩ := h5.el i x hx
      refine ⟨ds, h6.2, fun j u hj => ?_⟩
      have hi := (List.getElem?_eq_some_iff.1 hx).1
      have hj' := (List.getElem?_eq_some_iff.1 hj).1
      rw [E.len h6.2] at hj'
      have := Nat.mul_le_mul_right E.size (show i + 1 ≤ xs.length by omega)
      rw [Nat.add_mul, Nat.one_mul] at this
      rw [List.getElem?_take, if_pos (by omega), Array.getElem?_toList]
      exact h7 j u hj
    · funext k
      rw [eq_iff_iff]
      refine ⟨fun hk => ?_, fun hk => (h5.set k).2 (.inl (Eq.symm hk))⟩
      rcases (h5.set k).1 hk with rfl | ⟨i, hi, hk⟩
      · exact rfl
      · exact (hsi i k hi hk).elim
/-- the tree handed on for reading: A0 knows nothing of its blocks -/
theorem tr_rep {x : α} {pins : List Pin} {u : Value} (h : (trP F x pins).P A w S u) (hA : ∀ b o, A0 b o → A b o) (hn : ∀ k o, S k → ¬ A0 k o) : Rep F.E A0 w u x :=
  let ⟨⟨cs, e, h1⟩, _⟩ := h; ⟨cs, e, F.rep h1 hA hn⟩
end

/-! operations -/
section
variable {P : Program} {R : Reg} {w : World} {d : Option Nat} {t : TypeId} {p : String} {af : Array Edge} {g : Option (Nat × Bool)} {A : Av} {α β : Type} {S : Nat → Prop}
variable {E : Enc α} {F : OE α} {x ix : Operand} {T e : TypeId} {K : Nat → Prop} {u a v : Value}
theorem stp_swapS {w' : World} {S'' : Nat → Prop} (hav : ∀ k, S k → ∀ o, A k o) (hc : Ch S w w') (hS : ∀ k, k < w.heap.size → S'' k → S k) : Stp A (swapS A S S'') w w' :=
  ⟨hc.size, fun b o v hv hn => (World.cell?_of_block (w := w) (hc.block b (cell_lt' hv) fun h => hn (hav b h o))).trans hv, fun b o hb h => h.elim (·.1) fun h => hav b (hS b hb h) o⟩
theorem of_len_tr {xs : List α} {Q : List α → Pw} {A' : Av} {w0 : World} {T' : TypeId} (h : VHoleA (oSl T' F) A' w0 S v xs Q) (hx : evalR R x = v) (hu : P.underlying T = some (.slice e)) : OpF P ⟨d, .call ⟨.builtin .len, #[x], #[T]⟩, t, p, af, g⟩ R w (.raw (.int .i64 (xs.length : Int))) := by
  obtain ⟨ad, cap, rfl, _⟩ := h.len
  exact opr_val (w' := w) (by simp [execOp, resolve, invoke, builtin, Builtin.len_, hx, underlying, hu, goInt]) ⟨rfl, Fr.refl _⟩
theorem of_indexAddr_tr {k : IntKind} {i : Int} {xs : List α} {Q : List α → Pw} {A' : Av} {w0 : World} {T' : TypeId} {s m : Nat} (h : VHoleA (oSl T' F) A' w0 S v xs Q) (hx : evalR R x = v) (hi : evalR R ix = .int k i) (hu : P.underlying T = some (.slice e)) (hsz : ∀ w, (sizeOf e).run P w = .ok s w) (hr : inR i xs.length = true) (hm : i.toNat * s = m) :
    OpF P ⟨d, .indexAddr T x ix, t, p, af, g⟩ R w (.raw (vptr v m)) := by
  subst hm
  obtain ⟨ad, cap, rfl, hb⟩ := h.len
  obtain ⟨i0, i1⟩ := inR_iff.1 hr
  obtain ⟨b, rfl⟩ := hb (by omega)
  refine opr_val (v := .pointer (some ⟨b, 0 + i.toNat * s, none⟩)) (w' := w) ?_ ⟨rfl, Fr.refl _⟩
  have hin : i < (xs.length : Int) := i1
  simp [execOp, Instr.indexAt, hx, hi, asIntOf, underlying, hu, i0, hin, hsz, addr_add]
theorem of_fieldAddr_tr {sn kn ft off sz : Nat} {a' : Value} (h : ∃ b off, a = .pointer (some ⟨b, off, none⟩)) (hx : evalR R x = a) (hf : FldF P sn kn ft off) (hsz : ∀ w, (sizeOf ft).run P w = .ok sz w) (h0 : sz ≠ 0) (ha : padd a off = a') :
    OpF P ⟨d, .fieldAddr sn x kn, t, p, af, g⟩ R w (.raw a') := by
  obtain ⟨b, o, rfl⟩ := h
  subst ha
  exact opr_val (v := .pointer (some ⟨b, o + off, none⟩)) (w' := w) (by simp [execOp, run_fieldAt (w := w) hf hsz h0 hx]) ⟨rfl, Fr.refl _⟩
theorem of_load_pin (hp : PinOK w S (a, [v])) (hx : evalR R x = a) (hag : ∀ w, (isAgg T).run P w = .ok false w) (hsz : ∀ w, (sizeOf T).run P w = .ok 1 w) : OpF P ⟨d, .load T x, t, p, af, g⟩ R w (.raw v) := by
  obtain ⟨b, o, rfl, _, hc⟩ := hp
  refine opr_val (v := v) (w' := w) ?_ ⟨rfl, Fr.refl _⟩
  have := run_loadVar (P := P) (w := w) (b := b) (o := o) (cs := [v]) hag hsz rfl (fun _ => rfl) hc
  simp [execOp, Instr.loadAt, Instr.sureAddr, hx, this]
theorem of_load_pinS {cs : List Value} (hp : PinOK w S (a, cs)) (hl : cs.length = F.E.size) (hx : evalR R x = a) (hag : ∀ w, (isAgg T).run P w = .ok F.E.agg w) (hsz : ∀ w, (sizeOf T).run P w = .ok F.E.size w) : OpF P ⟨d, .load T x, t, p, af, g⟩ R w (.raw (F.E.val cs)) := by
  obtain ⟨b, o, rfl, _, hc⟩ := hp
  refine opr_val (v := F.E.val cs) (w' := w) ?_ ⟨rfl, Fr.refl _⟩
  have := run_loadVar (P := P) (w := w) (b := b) (o := o) (cs := cs) hag hsz hl F.E.one hc
  simp [execOp, Instr.loadAt, Instr.sureAddr, hx, this, Enc.val]
/-- a store at a place: a tree of its own, or a plain value (Sv empty) -/
theorem took_hput {ad : Operand} {T' : TypeId} {y y' : α} {Q : α → Pw} {Sv ST : Nat → Prop} {cs : List Value} {q : SP} (h : HoleA F A w S a y Q) (hv : F.own A w Sv y' cs) (hxv : evalR R x = F.E.val cs) (had : evalR R ad = a) (hd : ∀ k, S k → ¬ Sv k) (hST : ∀ k, ST k ↔ S k ∨ Sv k) (hav : ∀ k, ST k → ∀ o, A k o)
    (hB : ∀ k, ST k → K k) (hsz : ∀ w, (sizeOf T').run P w = .ok F.E.size w) (hQ : ∀ A w S, Q y' A w S → q.P A w S u) : OpR P ⟨none, .store T' ad x, t, p, af, g⟩ R w (TookS A false u ST (.gen K q) (fun _ => .any) w) := by
  obtain ⟨b, off, S1, es, rfl, h⟩ := h
  obtain ⟨arr, T0, hb, hle⟩ := h.blk
  have hcs := F.len hv
  have hcl := F.cells hv
  have hvb : ¬ Sv b := hd b h.inb
  obtain ⟨w', h1, h2, h3⟩ := run_storeVar (P := P) (o := off) (v := evalR R x) hsz (by rw [hxv, hcl]; exact F.oc hv) (by rw [hxv, ← Array.length_toList, hcl]; exact hcs) hb hle
  rw [hxv, hcl] at h3
  refine opr_skip (w' := w') ?_ ?_
  · simp only [execOp, Instr.storeAt, Instr.sureAddr, had]
    simp [h1]
  · have hch : Ch ST w w' := (h2.ch).trans (Ch.refl (fun _ => False) w') (fun _ _ h => h.elim) |> fun h => ⟨h.os, h.tape, h.output, h.size, fun k hk hn => h.block k hk fun e => hn ((hST k).2 (.inl (e ▸ ‹Hole F A w S b off y S1 es Q›.inb))), h.drawn⟩
    have hsub : ∀ k, k < w.heap.size → ((S k ∧ ¬ S1 k) ∨ Sv k) → ST k := fun k _ hk => (hST k).2 (hk.elim (fun h => .inl h.1) .inr)
    have hst := stp_swapS hav hch hsub
    have hne : ∀ k, Sv k → k ≠ b := fun k hk e => hvb (e ▸ hk)
    have hv' : F.own (swapS A ST fun k => (S k ∧ ¬ S1 k) ∨ Sv k) w' Sv y' cs := F.stab hv (fun k hk => h2.block k (hne k hk)) hst
    have hq := h.put _ w' Sv y' cs hv' (fun j u hj => ?_) ⟨arr, _, T0, hb, h3, lay_size _ _ _, fun j hj => ?_⟩ (fun k _ _ hk => h2.block k hk) hst (fun k a b => (hd k b a).elim)
    · refine ⟨u, fun k => (S k ∧ ¬ S1 k) ∨ Sv k, rfl, hch, hsub, hst, trivial, ⟨fun k hk => hB k ((hST k).2 (hk.elim (fun h => .inl h.1) .inr)), hQ _ _ _ hq⟩, trivial⟩
    · have hjl := (List.getElem?_eq_some_iff.1 hj).1
      rw [h3.cell, lay_at _ _ _ _ (by omega), if_pos (by omega), Nat.add_sub_cancel_left]
      exact hj
    · rw [lay_at _ _ _ _ (by omega), if_neg (by omega)]
theorem took_hstore {ad : Operand} {T' : TypeId} {y y' : α} {Q : α → Pw} {q : SP} (h : HoleA (oRd E) A w S a y Q) (hx : Rep E A w (evalR R x) y') (had : evalR R ad = a) (hav : ∀ k, S k → ∀ o, A k o) (hB : ∀ k, S k → K k) (hsz : ∀ w, (sizeOf T').run P w = .ok E.size w) (hQ : ∀ A w S, Q y' A w S → q.P A w S u) :
    OpR P ⟨none, .store T' ad x, t, p, af, g⟩ R w (TookS A false u S (.gen K q) (fun _ => .any) w) := by
  obtain ⟨cs, hxv, hr⟩ := hx
  exact took_hput (F := oRd E) (Sv := fun _ => False) (cs := cs) h ⟨fun _ h => h, hr⟩ hxv had (fun _ _ h => h) (fun k => ⟨.inl, fun h => h.elim id False.elim⟩) hav hB hsz hQ
theorem made_makeT {y : Operand} {k k' : IntKind} {n : Int} {zc : Value} {z : α} (hx : evalR R x = .int k n) (hy : evalR R y = .int k' n) (hn : mkOK n = true) (ht : P.underlying T = some (.slice e)) (he : ElF P e F.E.size) (hz : ∀ w, (zeroValue e).run P w = .ok zc w) (hzr : ∀ A w, F.own A w (fun _ => False) z zc.cells.toList) (hB : ∀ k, w.heap.size ≤ k → K k) :
    OpR P ⟨d, .makeSlice T x y, t, p, af, g⟩ R w (MadeS A (trR K (oSl e F) (List.replicate n.toNat z) []) (fun _ => .any) w) := by
  obtain ⟨i, z', b, hi, hz', hs, hb, hzs, hs0, hb4⟩ := he
  simp only [mkOK, Bool.and_eq_true, decide_eq_true_eq] at hn
  have hzz : z' = zc := by
    have := hz w
    simp [zeroValue, typeInfo, hi, hz'] at this
    exact this
  subst hzz
  have hby : (i.bytes : Int) * n ≤ 281474976710656 := by
    have h1 : i.bytes * n.toNat ≤ 4096 * 1048577 := Nat.mul_le_mul (by omega) (by omega)
    have h2 : (i.bytes : Int) * n = ((i.bytes * n.toNat : Nat) : Int) := by
      rw [Int.natCast_mul, Int.toNat_of_nonneg hn.1]
    omega
  have hr := run_make (P := P) w T e i z' ht hi hz' k k' n n hn.1 (Int.le_refl _) hby (by omega)
  have hf := Fr.alloc w (.cells (madeCells z'.cells (n.toNat * i.size)) e)
  have hfl := madeCells_flat (E := F.E) (A := av0) (w := w) (F.rep0 (hzr av0 w)) n.toNat
  refine opr_val (v := .slice (some ⟨w.heap.size, 0, none⟩) n.toNat n.toNat) (w' := w.alloc (.cells (madeCells z'.cells (n.toNat * i.size)) e)) (by simp [execOp, hx, hy, hr]) ⟨fun k => k = w.heap.size, hf, fun k hk => Nat.le_of_eq (Eq.symm hk), trivial, ⟨fun k hk => hB k (Nat.le_of_eq (Eq.symm hk)), ⟨[.slice (some ⟨w.heap.size, 0, none⟩) n.toNat n.toNat], rfl, .inr ⟨w.heap.size, n.toNat, _, fun _ _ => False, by simp, heap_alloc_new w _, by simp, by unfold maxLen; omega, by simp [madeCells, hs], ⟨fun j y hy => ?_, fun _ _ _ _ _ _ h => h.elim, fun _ _ h => h, fun k => ⟨.inl, fun h => h.elim id fun ⟨_, _, h⟩ => h.elim⟩⟩⟩⟩, fun q hq => by cases hq⟩, trivial⟩
  obtain ⟨h1, h2⟩ := List.getElem?_eq_some_iff.1 hy
  rw [List.getElem_replicate] at h2
  subst h2
  refine ⟨z'.cells.toList, F.stab (hzr _ w) (fun k hk => hk.elim) (Fr.stp _ hf), fun q v hq => ?_⟩
  rw [List.length_replicate] at h1
  have hq' := (List.getElem?_eq_some_iff.1 hq).1
  have hl := F.len (hzr av0 w)
  have := Nat.mul_le_mul_right F.E.size (show j + 1 ≤ n.toNat by omega)
  rw [Nat.add_mul, Nat.one_mul] at this
  have hsz : z'.cells.size = F.E.size := by simpa using hl
  have hbig : j * F.E.size + q < n.toNat * i.size := by rw [hs]; omega
  have hmod : (j * F.E.size + q) % z'.cells.size = q := by
    rw [hsz, Nat.mul_comm, Nat.mul_add_mod]
    exact Nat.mod_eq_of_lt (by omega)
  simp [madeCells, hbig, hmod]
  have hq2 : z'.cells[q]? = some v := by simpa using hq
  rw [getElem!_def, hq2]
theorem made_allocT {zc : Value} {z : α} (hz : ∀ w, (zeroValue T).run P w = .ok zc w) (hr : ∀ A w, F.own A w (fun _ => False) z zc.cells.toList) (hB : ∀ k, w.heap.size ≤ k → K k) : OpR P ⟨d, .alloc T, t, p, af, g⟩ R w (MadeS A (trR K (oPt T F) z []) (fun _ => .any) w) := by
  have hf := Fr.alloc w (.cells zc.cells T)
  refine opr_val (v := .pointer (some ⟨w.heap.size, 0, none⟩)) (w' := w.alloc (.cells zc.cells T)) ?_ ⟨fun k => k = w.heap.size, hf, fun k hk => Nat.le_of_eq (Eq.symm hk), trivial, ⟨fun k hk => hB k (Nat.le_of_eq (Eq.symm hk)), ⟨[.pointer (some ⟨w.heap.size, 0, none⟩)], rfl, w.heap.size, zc.cells.toList, fun _ => False, rfl, ?_, hr _ _, fun h => h, fun k => ⟨.inl, fun h => h.elim id False.elim⟩⟩, fun q hq => by cases hq⟩, trivial⟩
  · simp [execOp, Instr.alloc, newVar, newRow, hz]
  · have := Blk.new w T zc.cells
    simpa using this
theorem took_sameT {o : Oper} {q : SP} (h : (execOp (evalR R) o).run P w = .ok (.value u) w) (hq : q.P A w S u) (hav : ∀ k, S k → ∀ o, A k o) (hB : ∀ k, S k → K k) : OpR P o R w (TookS A true u S (.gen K q) (fun _ => .any) w) := by
  have hst := stp_swapS (S'' := S) hav (Ch.refl S w) fun _ _ h => h
  exact opr_val h ⟨u, S, rfl, Ch.refl S w, fun _ _ h => h, hst, trivial, ⟨hB, q.stab hq (fun _ _ => rfl) hst⟩, trivial⟩
theorem took_assignT {q : SP} (hx : evalR R x = u) (hq : q.P A w S u) (hav : ∀ k, S k → ∀ o, A k o) (hB : ∀ k, S k → K k) : OpR P ⟨d, .assign x, t, p, af, g⟩ R w (TookS A true u S (.gen K q) (fun _ => .any) w) := took_sameT (by simp [execOp, hx]) hq hav hB
/-- what a variable holds, taken out of it -/
theorem took_loadT {y : α} {pins : List Pin} {T' : TypeId} (h : (trP (oPt T' F) y pins).P A w S u) (hx : evalR R x = u) (hav : ∀ k, S k → ∀ o, A k o) (hB : ∀ k, S k → K k) (hag : ∀ w, (isAgg T).run P w = .ok F.E.agg w) (hsz : ∀ w, (sizeOf T).run P w = .ok F.E.size w) :
    OpR P ⟨d, .load T x, t, p, af, g⟩ R w (TookS A true u S (trR K F y []) (fun _ => .any) w) := by
  obtain ⟨⟨cs, rfl, b, ds, S1, rfl, h1, h2, h3, h4⟩, _⟩ := h
  have hsub : ∀ k, S1 k → S k := fun k hk => (h4 k).2 (.inr hk)
  have hst := stp_swapS (S'' := S1) hav (Ch.refl S w) fun k _ h => hsub k h
  refine opr_val (v := F.E.val ds) (w' := w) ?_ ⟨F.E.val ds, S1, rfl, Ch.refl S w, fun k _ h => hsub k h, hst, trivial, ⟨fun k hk => hB k (hsub k hk), ⟨ds, rfl, F.stab h2 (fun _ _ => rfl) hst⟩, fun q hq => by cases hq⟩, trivial⟩
  have := run_loadVar (P := P) (w := w) (b := b) (o := 0) hag hsz (F.len h2) F.E.one (fun j v hj => by rw [h1.cell, Nat.zero_add]; simpa using hj)
  have hx' : evalR R x = .pointer (some ⟨b, 0, none⟩) := hx
  simp [execOp, Instr.loadAt, Instr.sureAddr, hx', this, Enc.val]
theorem call_run {fn : FuncId} {al : List Operand} {aT : Array TypeId} {K : Value → World → Prop} (hc : ∀ args w, (callFunc fn args).run P w = .ok (.enter fn args) w) (h : Calls P fn (al.map (evalR R)).toArray w fun ed w' => ∃ v, ed = .returned v ∧ K v w') : OpR P ⟨d, .call ⟨.value (.func fn), al.toArray, aT⟩, t, p, af, g⟩ R w K := by
  unfold OpR
  have : (execOp (evalR R) ⟨d, .call ⟨.value (.func fn), al.toArray, aT⟩, t, p, af, g⟩).run P w = .ok (.enter fn (al.map (evalR R)).toArray) w := by
    simp [execOp, resolve, evalR, Deferred.ofValue, invoke, hc]
  rw [this]
  exact h
theorem MadeS.base {K' : Nat → Prop} {q : SP} {f : Av → Fact} {v : Value} {w' : World} (h : MadeS A (.gen K' q) f w v w') (hK : ∀ k, K' k → K k) : MadeS A (.gen K q) f w v w' :=
  let ⟨S, h1, h2, h3, h4, h5⟩ := h; ⟨S, h1, h2, trivial, ⟨fun k hk => hK k (h4.1 k hk), h4.2⟩, h5⟩
theorem made_callT {fn : FuncId} {al : List Operand} {aT : Array TypeId} {q : SP} {f : Av → Fact} (hc : ∀ args w, (callFunc fn args).run P w = .ok (.enter fn args) w)
    (h : Calls P fn (al.map (evalR R)).toArray w fun ed w' => ∃ v, ed = .returned v ∧ MadeS A (.gen (geB w.heap.size) q) f w v w') (hB : ∀ k, w.heap.size ≤ k → K k) : OpR P ⟨d, .call ⟨.value (.func fn), al.toArray, aT⟩, t, p, af, g⟩ R w (MadeS A (.gen K q) f w) :=
  call_run hc (Calls.mono h fun ed w' ⟨v, he, h⟩ => ⟨v, he, h.base hB⟩)
/-- what a call that writes a tree of the caller's says of it: S before, S' behind -/
def Gave {α : Type} (F : OE α) (A0 : Av) (S : Nat → Prop) (w : World) (v : Value) (y : α) (w' : World) : Prop :=
  ∃ S', (trP F y []).P (addS A0 S') w' S' v ∧ (∀ k, k < w.heap.size → S' k → S k) ∧ Ch S w w'
/-- a call that writes what hangs at a value in the tree -/
theorem took_callT {fn : FuncId} {al : List Operand} {aT : Array TypeId} {y y' : α} {Q : α → Pw} {q : SP} {f : Fact} (hc : ∀ args w, (callFunc fn args).run P w = .ok (.enter fn args) w)
    (h : VHoleA F A w S v y Q) (hav : ∀ k, S k → ∀ o, A k o) (hB : ∀ k, S k → K k) (hBw : ∀ k, w.heap.size ≤ k → K k) (hl : ∀ k, S k → k < w.heap.size)
    (hcall : ∀ S1, (∀ k, S1 k → S k) → (trP F y []).P (addS (fun b o => A b o ∧ ¬ S1 b) S1) w S1 v → Calls P fn (al.map (evalR R)).toArray w fun ed w' => ∃ z, ed = .returned z ∧ (f.ok z w' ∧ Gave F (fun b o => A b o ∧ ¬ S1 b) S1 w v y' w')) (hQ : ∀ A w S, Q y' A w S → q.P A w S u) :
    OpR P ⟨d, .call ⟨.value (.func fn), al.toArray, aT⟩, t, p, af, g⟩ R w (TookS A false u S (.gen K q) (fun _ => f) w) := by
  obtain ⟨S1, cs, rfl, h⟩ := h
  have hA1 : ∀ b o, addS (fun b o => A b o ∧ ¬ S1 b) S1 b o ↔ A b o := fun b o => by
    constructor
    · rintro (h1 | h1)
      · exact h1.1
      · exact hav b (h.sub b h1) o
    · intro h1
      by_cases h2 : S1 b
      · exact .inr h2
      · exact .inl ⟨h1, h2⟩
  refine call_run hc (Calls.mono (hcall S1 h.sub ⟨⟨cs, rfl, F.stab h.own (fun _ _ => rfl) (stp_down fun b o h => (hA1 b o).1 h)⟩, fun q hq => by cases hq⟩) ?_)
  rintro ed w' ⟨z, he, hf, S1', ⟨⟨cs', e, h1⟩, _⟩, h2, h3⟩
  have hcs : cs' = cs := by
    have a := F.cells h1
    have b := F.cells h.own
    rw [← e, b] at a
    exact a.symm
  subst hcs
  have hch : Ch S w w' := ⟨h3.os, h3.tape, h3.output, h3.size, fun k hk hn => h3.block k hk fun hk' => hn (h.sub k hk'), h3.drawn⟩
  have hlt : ∀ k, S1' k → S k → S1 k := fun k b a => h2 k (hl k a) b
  have hsub : ∀ k, k < w.heap.size → ((S k ∧ ¬ S1 k) ∨ S1' k) → S k := fun k hk hs => hs.elim (·.1) fun hs => h.sub k (h2 k hk hs)
  have hst := stp_swapS hav hch hsub
  have hown := F.stab (A' := swapS A S fun k => (S k ∧ ¬ S1 k) ∨ S1' k) h1 (fun _ _ => rfl) (stp_down fun b o hb => by
    rcases hb with ⟨a, c⟩ | ⟨a, c⟩ | a
    · exact .inl ⟨a, fun hs => c (h.sub b hs)⟩
    · exact .inl ⟨hav b a o, c⟩
    · exact .inr a)
  have hq := h.put _ w' S1' y' hown (fun k a c => h3.block k (hl k a) c) hst hlt
  refine ⟨z, he, u, fun k => (S k ∧ ¬ S1 k) ∨ S1' k, rfl, hch, hsub, hst, trivial, ⟨fun k hk => ?_, hQ _ _ _ hq⟩, hf⟩
  rcases hk with hk | hk
  · exact hB k hk.1
  · rcases Nat.lt_or_ge k w.heap.size with hlt' | hge
    · exact hB k (h.sub k (h2 k hlt' hk))
    · exact hBw k hge
end

/-! the words that a printed proof uses -/
section
variable {P : Program} {R : Reg} {w : World} {d : Option Nat} {t : TypeId} {p : String} {af : Array Edge} {g : Option (Nat × Bool)} {A A0 : Av} {α β : Type} {S S0 : Nat → Prop}
variable {E : Enc α} {F : OE α} {x ix : Operand} {T e : TypeId} {K : Nat → Prop} {u a v : Value}
theorem own_of_vec' {B : Nat} {xs : List α} (h : (Res.vec B T E xs).ok A u w) (hS : (Res.vec B T E xs).own A u S w) (hT : T ≠ tByte := by decide) : ∃ cs, u = (oSl T (oRd E)).E.val cs ∧ (oSl T (oRd E)).own A w S xs cs := by
  obtain rfl : S = ownsB u := hS
  exact own_of_vec h hT
theorem vec_ge {B : Nat} {xs : List α} (h : (Res.vec B T E xs).ok A u w) (hS : (Res.vec B T E xs).own A u S w) : ∀ k, S k → B ≤ k := fun k hk => by
  obtain rfl : S = ownsB u := hS
  exact Res.geB h rfl hk
/-- a store that puts a tree of our own into another -/
theorem took_put2 {ad : Operand} {T' : TypeId} {y y' : α} {Q : α → Pw} {q : SP} {ρ : Nat → Value} {σ : Nat → Nat → Prop} {c1 c2 : Nat} (hne : Nat.beq c1 c2 = false) (h : HoleA F A w (σ c1) a y Q) (hv : ∃ cs, ρ c2 = F.E.val cs ∧ F.own A w (σ c2) y' cs) (hx : evalR R x = ρ c2) (had : evalR R ad = a)
    (hav : ∀ d, d ∈ [c1, c2] → ∀ k, σ d k → ∀ o, A k o) (hdd : ∀ d d', d ∈ [c1, c2] → d' ∈ [c1, c2] → d ≠ d' → ∀ k, σ d k → ¬ σ d' k) (hB1 : ∀ k, σ c1 k → K k) (hB2 : ∀ k, σ c2 k → K k) (hsz : ∀ w, (sizeOf T').run P w = .ok F.E.size w) (hQ : ∀ A w S, Q y' A w S → q.P A w S u) :
    OpR P ⟨none, .store T' ad x, t, p, af, g⟩ R w (TookS A false u (fun k => ∃ d, d ∈ [c1, c2] ∧ σ d k) (.gen K q) (fun _ => .any) w) := by
  obtain ⟨cs, e, hv⟩ := hv
  have hm1 : c1 ∈ [c1, c2] := .head _
  have hm2 : c2 ∈ [c1, c2] := .tail _ (.head _)
  have hne' : c1 ≠ c2 := fun h => by subst h; simp at hne
  have hST : ∀ k, (∃ d, d ∈ [c1, c2] ∧ σ d k) ↔ σ c1 k ∨ σ c2 k := fun k => by
    constructor
    · rintro ⟨d, hd, hk⟩
      rcases List.mem_cons.1 hd with hd | hd
      · exact .inl (hd ▸ hk)
      · exact .inr (List.mem_singleton.1 hd ▸ hk)
    · exact fun h => h.elim (fun h => ⟨c1, hm1, h⟩) fun h => ⟨c2, hm2, h⟩
  exact took_hput h hv (hx.trans e) had (hdd c1 c2 hm1 hm2 hne') hST (fun k ⟨d, hd, h⟩ => hav d hd k h) (fun k hk => ((hST k).1 hk).elim (hB1 k) (hB2 k)) hsz hQ
/-- a written tree of the caller's -/
theorem IniOK.oneT {x : α} (h : (trP F x []).P (addS A S0) w S0 u) : IniOK [⟨u, S0, trR (fun k => w.heap.size ≤ k ∨ S0 k) F x []⟩] (addS A S0) w := by
  refine ⟨fun i p hp => ?_, fun i p hp => ?_, fun i j p q hp hq hne => ?_⟩
  · cases i with
    | zero => simp at hp; subst hp; exact ⟨trivial, fun k hk o => .inr hk⟩
    | succ i => simp at hp
  · cases i with
    | zero => simp at hp; subst hp; exact ⟨fun k hk => .inr hk, h⟩
    | succ i => simp at hp
  · cases i with
    | zero =>
      cases j with
      | zero => exact absurd rfl hne
      | succ j => simp at hq
    | succ i => simp at hp
theorem AvOK.oneT {x : α} (hA : AvOK A w) (h : (trP F x []).P (addS A S0) w S0 u) : AvOK (addS A S0) w := fun b o hb => hb.elim (hA b o) fun hb => (trP F x []).lt h hb
theorem AvOK.subS (hA : AvOK A w) (S : Nat → Prop) : AvOK (fun b o => A b o ∧ ¬ S b) w := fun b o h => hA b o h.1
/-- the call's last word on a tree of the caller's -/
theorem gave_post {w0 : World} {x : α} {pins : List Pin} {B : Nat} (hB : B = w0.heap.size) (hown : (trR (fun k => B ≤ k ∨ S0 k) F x pins).own A u S w) (hav : ∀ k, S k → ∀ o, A k o) (hAA : ∀ b o, A0 b o → A b o) (hF : Ch S0 w0 w) : Gave F A0 S0 w0 u x w := by
  subst hB
  exact ⟨S, (trP F x []).stab (trP.nopin hown.2) (fun _ _ => rfl) (stp_down fun b o h => h.elim (hAA b o) fun h => hav b h o), fun k hk hs => (hown.1 k hs).resolve_left (by omega), hF⟩
/-- what a call that writes a plain row says of it -/
theorem gave_of_vec {B : Nat} {xs ys : List α} {w' : World} {f : Fact} {z : Value} (hfl : ∀ A A' w x cs, E.rep A w x cs → E.rep A' w x cs) (h : (trP (oSl T (oRd E)) xs []).P A w S v) (hz : f.ok z w' ∧ (Res.vec B T E ys).ok A0 v w' ∧ Ch (ownsB v) w w') (hS : S = ownsB v) (hT : T ≠ tByte := by decide) : f.ok z w' ∧ Gave (oSl T (oRd E)) A0 S w v ys w' := by
  subst hS
  obtain ⟨h1, h2, h3⟩ := hz
  refine ⟨h1, ownsB v, ⟨own_of_vec (Vec.flat h2 hfl) hT, fun q hq => by cases hq⟩, fun _ _ h => h, h3⟩
theorem vec_of_tr {A0 : Av} {xs : List α} (hfl : ∀ A A' w x cs, E.rep A w x cs → E.rep A' w x cs) (h : (trP (oSl T (oRd E)) xs []).P A w S v) : (Res.vec 0 T E xs).ok A0 v w ∧ S = ownsB v := by
  obtain ⟨⟨cs, e, h⟩, _⟩ := h
  obtain ⟨h1, h2⟩ := vec_of_own (B := 0) h e fun _ _ => Nat.zero_le _
  exact ⟨Vec.flat h1 hfl, h2⟩
theorem tr_ownsB {xs : List α} (hfl : ∀ A A' w x cs, E.rep A w x cs → E.rep A' w x cs) (h : (trP (oSl T (oRd E)) xs []).P A w S v) : S = ownsB v := (vec_of_tr (A0 := A) hfl h).2
/-- a variable that holds a struct whose cells are known -/
def trB (T : TypeId) (F : OE α) (x : α) (cs : List Value) : SP where
  P := fun A w S u => (trP (oPt T F) x []).P A w S u ∧ PinOK w S (u, cs)
  lt := fun h hk => (trP (oPt T F) x []).lt h.1 hk
  stab := fun h hb hs => ⟨(trP (oPt T F) x []).stab h.1 hb hs, let ⟨b, o, h4, h5, h6⟩ := h.2; ⟨b, o, h4, h5, fun j u hj => (World.cell?_of_block (hb b h5)).trans (h6 j u hj)⟩⟩
theorem took_boxB {y : α} {Sv : Nat → Prop} {pins : List Pin} {cs : List Value} (h : (trP F y pins).P A w Sv u) (hu : u = F.E.val cs) (hl : cs.length = F.E.size) (hoc : ∀ c ∈ cs, c.oneCell' = true) (hx : evalR R x = u) (hav : ∀ k, Sv k → ∀ o, A k o) (hBv : ∀ k, Sv k → K k) (hB : ∀ k, w.heap.size ≤ k → K k) :
    OpR P ⟨d, .box T x, t, p, af, g⟩ R w (TookS A true u Sv (.gen K (trB T F y cs)) (fun _ => .any) w) := by
  obtain ⟨⟨cs', e, h⟩, _⟩ := h
  have hcs : cs' = cs := by
    have h1 := F.cells h
    have h2 : (F.E.val cs).cells.toList = cs := by
      cases ha : F.E.agg with
      | true => simp [Enc.val, ha, Value.cells]
      | false =>
        have h1 := F.E.one ha
        rw [h1] at hl
        match cs, hl, hoc with
        | [c], _, hoc =>
          have h2 := hoc c (by simp)
          have : (Enc.val F.E [c]).cells = #[c] := by
            simp only [Enc.val, ha]
            cases c <;> first | rfl | cases h2
          rw [this]
    rw [← e, hu, h2] at h1
    exact h1.symm
  subst hcs
  subst e
  have hf := Fr.alloc w (.cells (evalR R x).cells T)
  have hsub : ∀ k, k < w.heap.size → (k = w.heap.size ∨ Sv k) → Sv k := fun k hk h => h.elim (fun e => absurd e (by omega)) id
  have hst := stp_swapS (S'' := fun k => k = w.heap.size ∨ Sv k) hav (hf.ch Sv) hsub
  have hcl := F.cells h
  have hb : Blk (w.alloc (.cells (evalR R x).cells T)) w.heap.size T cs'.toArray := by
    have := Blk.new w T (evalR R x).cells
    have e : cs'.toArray = (evalR R x).cells := by rw [hx]; exact (congrArg List.toArray hcl).symm
    rw [e]
    exact this
  refine opr_val (v := .pointer (some ⟨w.heap.size, 0, none⟩)) (w' := w.alloc (.cells (evalR R x).cells T)) (by simp [execOp, Instr.box, newVar, newRow]) ⟨.pointer (some ⟨w.heap.size, 0, none⟩), fun k => k = w.heap.size ∨ Sv k, rfl, hf.ch Sv, hsub, hst, trivial, ⟨fun k hk => hk.elim (fun e => hB k (Nat.le_of_eq (Eq.symm e))) (hBv k), ⟨⟨[.pointer (some ⟨w.heap.size, 0, none⟩)], rfl, w.heap.size, cs', Sv, rfl, hb, F.stab h (fun k hk => hf.block k (F.lt h hk)) hst, fun hk => absurd (F.lt h hk) (Nat.lt_irrefl _), fun k => Iff.rfl⟩, fun q hq => by cases hq⟩, ⟨w.heap.size, 0, rfl, .inl rfl, fun j u hj => ?_⟩⟩, trivial⟩
  rw [hb.cell, Nat.zero_add]
  simpa using hj
/-- the cells of the block stay -/
theorem HoleA.pinK {a v : Value} {y : α} {Q : α → Pw} {S' : Nat → Prop} {q : Pin} (h : HoleA F A w S a y Q) (hp : PinOK w S' (a, [v])) (ha : F.E.agg = false) (hq : PinOK w S q) (hb : ∃ b o o', a = .pointer (some ⟨b, o, none⟩) ∧ q.1 = .pointer (some ⟨b, o', none⟩)) : VHoleA F A w S v y (fun z A w S => Q z A w S ∧ PinOK w S q) := by
  have hh := h
  obtain ⟨S1, cs, e, h1⟩ := h.pin hp ha
  obtain ⟨b, off, S2, ds, e2, h2⟩ := hh
  obtain ⟨b', o', e3, _, hc⟩ := hp
  have hl' := F.len h2.own
  rw [F.E.one ha] at hl'
  match ds, hl', h2 with
  | [c], _, h2 =>
    have hv : v = c := by
      have h3 := h2.at' 0 c rfl
      obtain ⟨e4, e5⟩ : b' = b ∧ o' = off := by
        have := e3.symm.trans e2
        injection this with this
        injection this with this
        injection this with a b
        exact ⟨a, b⟩
      subst e4 e5
      have h4 := hc 0 v rfl
      have := h4.symm.trans h3
      injection this
    refine ⟨S2, [c], by rw [hv]; simp [Enc.val, ha], h2.own, h2.sub, fun A' w' S1' y' k1 k2 k3 k4 => ⟨h2.v.put A' w' S1' y' k1 k2 k3 k4, ?_⟩⟩
    obtain ⟨b1, o1, o2, e6, e7⟩ := hb
    obtain ⟨b3, o3, e8, h5, h6⟩ := hq
    have eb : b1 = b := by
      have := e6.symm.trans e2
      injection this with this
      injection this with this
      injection this
    have eb3 : b3 = b1 := by
      have := e8.symm.trans e7
      injection this with this
      injection this with this
      injection this
    subst eb eb3
    exact ⟨b3, o3, e8, .inl ⟨h2.inb, h2.out⟩, fun j u hj => cell_keep (k2 b3 h2.inb h2.out) (h6 j u hj)⟩
theorem same_blk {u : Value} (h : ∃ b o, u = .pointer (some ⟨b, o, none⟩)) (k : Nat) : ∃ b o o', padd u k = .pointer (some ⟨b, o, none⟩) ∧ u = .pointer (some ⟨b, o', none⟩) := by
  obtain ⟨b, o, rfl⟩ := h
  exact ⟨b, o + k, o, rfl, rfl⟩
theorem gave_post_box {w0 : World} {x : α} {B : Nat} {T' : TypeId} {cs : List Value} (hB : B = w0.heap.size) (hown : (trR (fun k => B ≤ k ∨ S0 k) (oPt T' F) x [(u, cs)]).own A u S w) (hav : ∀ k, S k → ∀ o, A k o) (hAA : ∀ b o, A0 b o → A b o) (hv : v = F.E.val cs) (hl : cs.length = F.E.size) (hF : Ch S0 w0 w) : Gave F A0 S0 w0 v x w := by
  subst hB hv
  obtain ⟨hK, ⟨es, e, b, ds, S1, rfl, h1, h2, h3, h4⟩, hp⟩ := hown
  obtain ⟨b', o', e', hb', hc⟩ := hp _ (.head _)
  have hu : u = .pointer (some ⟨b, 0, none⟩) := e
  obtain ⟨e4, e5⟩ : b = b' ∧ 0 = o' := by
    have := hu.symm.trans e'
    injection this with this
    injection this with this
    injection this with a b
    exact ⟨a, b⟩
  subst e4 e5
  have hdl := F.len h2
  have : ds = cs := by
    apply List.ext_getElem?
    intro j
    by_cases hj : j < cs.length
    · have h5 := hc j _ (List.getElem?_eq_getElem hj)
      rw [h1.cell, Nat.zero_add] at h5
      rw [List.getElem?_eq_getElem hj, ← h5]
      simp
    · rw [List.getElem?_eq_none (by omega), List.getElem?_eq_none (by omega)]
  subst this
  have hsub : ∀ k, S1 k → S k := fun k hk => (h4 k).2 (.inr hk)
  exact ⟨S1, ⟨⟨ds, rfl, F.stab h2 (fun _ _ => rfl) (stp_down fun b o h => h.elim (hAA b o) fun h => hav b (hsub b h) o)⟩, fun q hq => by cases hq⟩, fun k hk hs => (hK k (hsub k hs)).resolve_left (by omega), hF⟩
theorem tr_cells {x : α} {pins : List Pin} (h : (trP F x pins).P A w S v) : ∃ cs, v = F.E.val cs ∧ cs.length = F.E.size ∧ ∀ c ∈ cs, c.oneCell' = true := let ⟨⟨cs, e, h1⟩, _⟩ := h; ⟨cs, e, F.len h1, F.oc h1⟩
/-- a result that is a tree of its own -/
theorem tree_post {w0 : World} {x : α} {pins : List Pin} {f : Av → Fact} {B : Nat} (hB : B = w0.heap.size) (hown : (trR (geB B) F x pins).own A u S w) (hav : ∀ k, S k → ∀ o, A k o) (hAA : ∀ b o, A0 b o → A b o) (hF : Fr w0 w) (hv : v = u) (hf : (f (addS A0 S)).ok v w) : MadeS A0 (trR (geB w0.heap.size) F x []) f w0 v w := by
  subst hB hv
  exact ⟨S, hF, fun k hk => hown.1 k hk, trivial, ⟨hown.1, (trP F x []).stab (trP.nopin hown.2) (fun _ _ => rfl) (stp_down fun b o h => h.elim (hAA b o) fun h => hav b h o)⟩, hf⟩
/-- the same, out of a variable -/
theorem tree_post_cell {w0 : World} {x : α} {pins : List Pin} {f : Av → Fact} {B r : Nat} {T' : TypeId} (hB : B = w0.heap.size) (hown : (trR (geB B) (oPt T' F) x pins).own A u S w) (hav : ∀ k, S k → ∀ o, A k o) (hAA : ∀ b o, A0 b o → A b o) (hF : Fr w0 w) (hR : R r = u) (hag : ∀ w, (isAgg T).run P w = .ok F.E.agg w) (hsz : ∀ w, (sizeOf T).run P w = .ok F.E.size w) (hf : ∀ A v, (f A).ok v w) :
    ∃ v, ResVal P R w (.cell r T) v ∧ MadeS A0 (trR (geB w0.heap.size) F x []) f w0 v w := by
  subst hB
  obtain ⟨hK, ⟨cs, e, b, ds, S1, rfl, h1, h2, h3, h4⟩, _⟩ := hown
  have hu : u = .pointer (some ⟨b, 0, none⟩) := e
  have hsub : ∀ k, S1 k → S k := fun k hk => (h4 k).2 (.inr hk)
  refine ⟨F.E.val ds, ⟨⟨b, 0, none⟩, by rw [hR, hu], ?_⟩, S1, hF, fun k hk => hK k (hsub k hk), trivial, ⟨fun k hk => hK k (hsub k hk), ⟨ds, rfl, F.stab h2 (fun _ _ => rfl) (stp_down fun b o h => h.elim (hAA b o) fun h => hav b (hsub b h) o)⟩, fun q hq => by cases hq⟩, hf _ _⟩
  have := run_loadVar (P := P) (w := w) (b := b) (o := 0) hag hsz (F.len h2) F.E.one (fun j v hj => by rw [h1.cell, Nat.zero_add]; simpa using hj)
  simpa [Enc.val] using this
/-- a tree that is not needed as one -/
theorem madeS_rep {x : α} {B : Nat} {w' : World} (h : MadeS A (trR (geB B) F x []) (fun _ => .any) w v w') (hA : AvOK A w) : Rep F.E A w' v x ∧ Fr w w' := by
  obtain ⟨S, h1, h2, _, ⟨h3, h4⟩, _⟩ := h
  refine ⟨tr_rep h4 (fun b o h => .inl h) fun k o hk ha => ?_, h1⟩
  have := h2 k hk
  have := hA k o ha
  omega
theorem vh_rep {y : α} {Q : α → Pw} (h : VHoleA F A w S v y Q) (hA : ∀ b o, A0 b o → A b o) (hn : ∀ k o, S k → ¬ A0 k o) : Rep F.E A0 w v y :=
  let ⟨S1, cs, e, h1⟩ := h; ⟨cs, e, F.rep h1.own hA fun k o hk => hn k o (h1.sub k hk)⟩
theorem own_nil {A : Av} {w : World} : (oSl T F).own A w (fun _ => False) [] [.slice none 0 0] := .inl ⟨rfl, rfl, fun _ h => h⟩
theorem own_rd {y : α} {cs : List Value} (h : E.rep A w y cs) : (oRd E).own A w (fun _ => False) y cs := ⟨fun _ h => h, h⟩
theorem own_pr {G : OE β} {y : α} {z : β} {c ds : List Value} (h : F.own A w (fun _ => False) y c) (k : G.own A w (fun _ => False) z ds) : (oPr F G).own A w (fun _ => False) (y, z) (c ++ ds) := ⟨c, ds, _, _, rfl, h, k, fun _ => ⟨fun h => h.elim, fun h => h.elim id id⟩, fun _ h => h.elim⟩
end
end Go.Proofs.Ytmgiijdejigdhaa
