/- Own texts laid together. No statement of the seat is proved here. -/
import Derived.Test.YtpneepiboheldaaDoorZx1
import Derived.Test.YtpneepiboheldaaDoorProg
import Derived.Shelf.Strconv.Itoa3
import Derived.Shelf.Strings.OnBuilder
import Derived.Shelf.LaysC
import Derived.Ground.NamesProg
import Derived.Ground.SlsfProg
import Derived.Shelf.Slices.In.SortNone
import Derived.Shelf.SlSortCmp.NoneTotal
import Derived.Shelf.Small.Strs
import Derived.Shelf.Sort.Plain
import Derived.Lib.LaidTab
import Derived.ProofKit
import Derived.OpenShut
import Derived.Deep.Slices
import Derived.Deep.Fields
import Derived.ChangeSame
import Derived.Stop.LaidErr
import Derived.Shelf.LaysM
import Derived.ChangeArms
import Derived.MakeChecks
import Derived.Test.YtpneepiboheldaaDoorCards
import Derived.Test.YtpneepiboheldaaDoorTie
import Derived.ChangeOld
import Derived.Carry
import Derived.OpenVars
import Derived.Deep.DeepHandedRow
import Derived.Shelf.Strings.Split
import Derived.Shelf.Strings.Cut
import Derived.Shelf.Strconv.ErrVarAll
import Derived.WideLaws
import Derived.Maps.Own
import Derived.Maps.Views
/- Trees as resources; operations at places in them. No statement of the seat is proved here. -/
namespace Go.Proofs.YtpneepiboheldaaDoor
open Go.RowKit
set_option linter.unusedVariables false

abbrev Pin := Value × List Value
/-- cells whose content is known -/
def PinOK (w : World) (S : Nat → Prop) (q : Pin) : Prop := ∃ b o, q.1 = .pointer (some ⟨b, o, none⟩) ∧ S b ∧ ∀ (j : Nat) u, q.2[j]? = some u → w.cell? ⟨b, o + j, none⟩ = some u
/-- the value is a tree that reads x; some of its cells are known -/
def trP {α : Type} (F : OE α) (x : α) (pins : List Pin) : SP where
  P := fun A w S u => (∃ cs, u = F.E.val cs ∧ F.own A w S x cs) ∧ ∀ q, q ∈ pins → PinOK w S q
  lt := fun ⟨⟨_, _, h⟩, _⟩ hk => F.lt h hk
  stab := fun ⟨⟨cs, h1, h2⟩, h3⟩ hb hs => ⟨⟨cs, h1, F.stab h2 hb hs⟩, fun q hq => let ⟨b, o, h4, h5, h6⟩ := h3 q hq; ⟨b, o, h4, h5, fun j u hj => (World.cell?_of_block (hb b h5)).trans (h6 j u hj)⟩⟩
abbrev trR {α : Type} (K : Nat → Prop) (F : OE α) (x : α) (pins : List Pin) : Res := .gen K (trP F x pins)
/-- from block B on -/
abbrev geB (B : Nat) : Nat → Prop := fun k => B ≤ k
/-- an address further on -/
def padd : Value → Nat → Value
  | .pointer (some a), k => .pointer (some ⟨a.block, a.off + k, none⟩)
  | v, _ => v
theorem padd_zero {u : Value} (h : ∃ b o, u = .pointer (some ⟨b, o, none⟩)) : padd u 0 = u := by
  obtain ⟨b, o, rfl⟩ := h
  rfl
theorem val_cells {α : Type} {E : Enc α} {A : Av} {w : World} {x : α} {cs : List Value} (h : E.rep A w x cs) : (E.val cs).cells.toList = cs := by
  have hl := E.len h
  cases ha : E.agg with
  | true => simp [Enc.val, ha, Value.cells]
  | false =>
    have h1 := E.one ha
    rw [h1] at hl
    match cs, hl, h with
    | [c], _, h =>
      have h2 := E.oc h c (by simp)
      have : (Enc.val E [c]).cells = #[c] := by
        simp only [Enc.val, ha]
        cases c <;> first | rfl | cases h2
      rw [this]
section
variable {α β γ : Type} {F : OE α} {G : OE β} {A A0 : Av} {w : World} {S : Nat → Prop}
theorem OE.rep0 (F : OE α) {x : α} {cs : List Value} (h : F.own A w S x cs) : F.E.rep av0 w x cs := F.rep h (fun _ _ h => h.elim) fun _ _ _ h => h
theorem OE.cells (F : OE α) {x : α} {cs : List Value} (h : F.own A w S x cs) : (F.E.val cs).cells.toList = cs := val_cells (F.rep0 h)
theorem tr_root {x : α} {pins : List Pin} {u : Value} (h : (trP F x pins).P A w S u) : VHoleA F A w S u x (fun z A w S => (trP F z []).P A w S u) := by
  obtain ⟨⟨cs, rfl, h1⟩, _⟩ := h
  have := VHole.root h1
  exact ⟨S, cs, rfl, this.own, this.sub, fun A' w' S1' y' k1 k2 k3 k4 => ⟨⟨cs, rfl, this.put A' w' S1' y' k1 k2 k3 k4⟩, fun q hq => by cases hq⟩⟩
theorem VHoleA.elem [Inhabited α] {T : TypeId} {v : Value} {xs : List α} {Q : List α → Pw} (h : VHoleA (oSl T F) A w S v xs Q) {i : Int} {m : Nat} (hi : inR i xs.length = true) (hm : i.toNat * F.E.size = m) : HoleA F A w S (vptr v m) (gtD xs i) (fun z => Q (xs.set i.toNat z)) := by
  obtain ⟨S1, cs, rfl, h⟩ := h
  obtain ⟨g, n, c, S2, ds, rfl, h2⟩ := h.elem (getD_at hi)
  exact ⟨g, m, S2, ds, by show Value.pointer _ = _; rw [Nat.zero_add], hm ▸ h2⟩
theorem VHoleA.len {T : TypeId} {v : Value} {xs : List α} {Q : List α → Pw} (h : VHoleA (oSl T F) A w S v xs Q) : ∃ a c, v = .slice a xs.length c ∧ (0 < xs.length → ∃ b, a = some ⟨b, 0, none⟩) := by
  obtain ⟨S1, cs, rfl, h⟩ := h
  rcases h.own with ⟨rfl, rfl, _⟩ | ⟨g, c, arr, Si, rfl, _⟩
  · exact ⟨none, 0, rfl, fun h => absurd h (by simp)⟩
  · exact ⟨_, c, rfl, fun _ => ⟨g, rfl⟩⟩
theorem HoleA.fst {a : Value} {y : α × β} {Q : α × β → Pw} (h : HoleA (oPr F G) A w S a y Q) : HoleA F A w S a y.1 (fun z => Q (z, y.2)) := by
  obtain ⟨b, off, S1, cs, rfl, h⟩ := h
  obtain ⟨Sa, ca, h⟩ := h.fst
  exact ⟨b, off, Sa, ca, rfl, h⟩
theorem HoleA.snd {a a' : Value} {y : α × β} {Q : α × β → Pw} (h : HoleA (oPr F G) A w S a y Q) (ha : padd a F.E.size = a') : HoleA G A w S a' y.2 (fun z => Q (y.1, z)) := by
  obtain ⟨b, off, S1, cs, rfl, h⟩ := h
  obtain ⟨Sa, ca, h⟩ := h.snd
  exact ⟨b, off + F.E.size, Sa, ca, ha.symm, h⟩
theorem HoleA.bx {a : Value} {y : α} {Q : α → Pw} (h : HoleA (oBx F) A w S a y Q) : HoleA F A w S a y Q := by
  obtain ⟨b, off, S1, cs, rfl, h⟩ := h
  exact ⟨b, off, S1, cs, rfl, h.bx⟩
theorem HoleA.ad {a : Value} {y : α} {Q : α → Pw} (h : HoleA F A w S a y Q) : ∃ b off, a = .pointer (some ⟨b, off, none⟩) := let ⟨b, off, _, _, e, _⟩ := h; ⟨b, off, e⟩
/-- what stands at a place -/
theorem HoleA.open {a : Value} {y : α} {Q : α → Pw} (h : HoleA F A w S a y Q) : ∃ cs, cs.length = F.E.size ∧ PinOK w S (a, cs) := by
  obtain ⟨b, off, S1, cs, rfl, h⟩ := h
  exact ⟨cs, F.len h.own, b, off, rfl, h.inb, h.at'⟩
theorem HoleA.open1 {a : Value} {y : α} {Q : α → Pw} (h : HoleA F A w S a y Q) (ha : F.E.agg = false) : ∃ v, PinOK w S (a, [v]) := by
  obtain ⟨cs, hl, hp⟩ := h.open
  rw [F.E.one ha] at hl
  match cs, hl, hp with
  | [c], _, hp => exact ⟨c, hp⟩
theorem HoleA.pinS {a : Value} {y : α} {Q : α → Pw} {S' : Nat → Prop} {ds : List Value} (h : HoleA F A w S a y Q) (hp : PinOK w S' (a, ds)) (hl : ds.length = F.E.size) : VHoleA F A w S (F.E.val ds) y Q := by
  obtain ⟨b, off, S1, cs, rfl, h⟩ := h
  obtain ⟨b', o', e, _, hc⟩ := hp
  injection e with e
  injection e with e
  injection e with e1 e2
  subst e1 e2
  have hl' := F.len h.own
  have : ds = cs := by
    apply List.ext_getElem?
    intro j
    by_cases hj : j < ds.length
    · have h1 := hc j _ (List.getElem?_eq_getElem hj)
      have hj' : j < cs.length := by omega
      have h2 := h.at' j _ (List.getElem?_eq_getElem hj')
      rw [List.getElem?_eq_getElem hj, List.getElem?_eq_getElem hj']
      exact h1.symm.trans h2
    · rw [List.getElem?_eq_none (by omega), List.getElem?_eq_none (by omega)]
  subst this
  exact ⟨S1, ds, rfl, h.v⟩
theorem HoleA.pin {a v : Value} {y : α} {Q : α → Pw} {S' : Nat → Prop} (h : HoleA F A w S a y Q) (hp : PinOK w S' (a, [v])) (ha : F.E.agg = false) : VHoleA F A w S v y Q := by
  have := h.pinS hp (by rw [F.E.one ha]; rfl)
  simpa [Enc.val, ha] using this
theorem VHoleA.ptr {T : TypeId} {u : Value} {y : α} {Q : α → Pw} (h : VHoleA (oPt T F) A w S u y Q) : HoleA F A w S u y Q := by
  obtain ⟨S1, cs, rfl, h⟩ := h
  obtain ⟨b, S2, ds, rfl, h2⟩ := h.ptr
  exact ⟨b, 0, S2, ds, rfl, h2⟩
/-- a part of a struct that stands in a register -/
theorem VHoleA.own {v : Value} {y : α} {Q : α → Pw} (h : VHoleA F A w S v y Q) : ∃ S1 cs, v = F.E.val cs ∧ F.own A w S1 y cs ∧ (∀ k, S1 k → S k) := let ⟨S1, cs, e, h⟩ := h; ⟨S1, cs, e, h.own, h.sub⟩

/-! the objects -/
theorem IniOK.repin {ini : List Ob} (h : IniOK ini A w) (i : Nat) {u : Value} {K : Nat → Prop} {p p' : SP} (hi : ini[i]? = some ⟨u, S, .gen K p⟩) (hp : p.P A w S u → p'.P A w S u) : IniOK (ini.set i ⟨u, S, .gen K p'⟩) A w := by
  have hlt := (List.getElem?_eq_some_iff.1 hi).1
  have hset : ∀ (j : Nat) q, (ini.set i ⟨u, S, .gen K p'⟩)[j]? = some q → (j = i ∧ q = ⟨u, S, .gen K p'⟩) ∨ (j ≠ i ∧ ini[j]? = some q) := fun j q hq => by
    by_cases e : j = i
    · subst e
      rw [List.getElem?_set_self hlt] at hq
      injection hq with hq
      exact .inl ⟨rfl, hq.symm⟩
    · rw [List.getElem?_set_ne (Ne.symm e)] at hq
      exact .inr ⟨e, hq⟩
  refine ⟨fun j q hq => ?_, fun j q hq => ?_, fun j j' q q' hq hq' hne => ?_⟩
  · rcases hset j q hq with ⟨rfl, rfl⟩ | ⟨_, hq⟩
    · exact ⟨trivial, (h.ok j _ hi).2⟩
    · exact h.ok j q hq
  · rcases hset j q hq with ⟨rfl, rfl⟩ | ⟨_, hq⟩
    · have := h.own j _ hi
      exact ⟨this.1, hp this.2⟩
    · exact h.own j q hq
  · have key : ∀ (j : Nat) q, (ini.set i ⟨u, S, .gen K p'⟩)[j]? = some q → ∃ q0, ini[j]? = some q0 ∧ q0.S = q.S := fun j q hq => by
      rcases hset j q hq with ⟨rfl, rfl⟩ | ⟨_, hq⟩
      · exact ⟨_, hi, rfl⟩
      · exact ⟨q, hq, rfl⟩
    obtain ⟨q0, h1, h2⟩ := key j q hq
    obtain ⟨q1, h3, h4⟩ := key j' q' hq'
    rw [← h2, ← h4]
    exact h.dis j j' q0 q1 h1 h3 hne
theorem trP.pin {x : α} {pins : List Pin} {u : Value} {q : Pin} (hq : PinOK w S q) (h : (trP F x pins).P A w S u) : (trP F x (q :: pins)).P A w S u :=
  ⟨h.1, fun q' hq' => by
    rcases List.mem_cons.1 hq' with rfl | hq'
    · exact hq
    · exact h.2 q' hq'⟩
theorem trP.nopin {x : α} {pins : List Pin} {u : Value} (h : (trP F x pins).P A w S u) : (trP F x []).P A w S u := ⟨h.1, fun q hq => by cases hq⟩
/-- a plain row as a tree -/
theorem own_of_vec {E : Enc α} {B : Nat} {T : TypeId} {u : Value} {xs : List α} (h : Vec E A B T w u xs) (hT : T ≠ tByte) : ∃ cs, u = (oSl T (oRd E)).E.val cs ∧ (oSl T (oRd E)).own A w (ownsB u) xs cs := by
  obtain ⟨cs, hown, hf⟩ := h
  rcases hown.2 with ⟨rfl, h0⟩ | ⟨g, c, arr, rfl, hb, hg, hnc, hcm, hcs, htk⟩
  · obtain rfl : xs = [] := List.eq_nil_of_length_eq_zero h0
    exact ⟨[.slice none 0 0], rfl, .inl ⟨rfl, rfl, fun k hk => hk⟩⟩
  · refine ⟨[.slice (some ⟨g, 0, none⟩) xs.length c], rfl, .inr ⟨g, c, arr, fun _ _ => False, rfl, hg.plain hT, hnc, hcm, hcs, ⟨fun i x hx => ?_, fun _ _ _ _ _ _ h => h.elim, fun _ _ h => h, fun k => ⟨fun hk => .inl (Eq.symm hk), fun hk => hk.elim (fun e => Eq.symm e) fun ⟨_, _, h⟩ => h.elim⟩⟩⟩⟩
    obtain ⟨ds, h1, h2⟩ := hf.2 i x hx
    refine ⟨ds, ⟨fun _ h => h, h1⟩, fun j u hj => ?_⟩
    have := h2 j u hj
    rw [← htk, List.getElem?_take] at this
    show arr[i * E.size + j]? = some u
    split at this
    · simpa using this
    · cases this
theorem vec_of_own {E : Enc α} {B : Nat} {T : TypeId} {v : Value} {xs : List α} {cs : List Value} (h : (oSl T (oRd E)).own A w S xs cs) (hv : v = (oSl T (oRd E)).E.val cs) (hB : ∀ k, S k → B ≤ k) : Vec E A B T w v xs ∧ S = ownsB v := by
  subst hv
  rcases h with ⟨rfl, rfl, h⟩ | ⟨g, c, arr, Si, rfl, h1, h2, h3, h4, h5⟩
  · refine ⟨vec_nil, ?_⟩
    funext k
    rw [eq_iff_iff]
    exact ⟨fun hk => (h k hk).elim, fun hk => hk.elim⟩
  · have hsi : ∀ i k, i < xs.length → ¬ Si i k := fun i k hi hk => by
      obtain ⟨ds, h6, _⟩ := h5.el i _ (List.getElem?_eq_getElem hi)
      exact h6.1 k hk
    refine ⟨⟨arr.toList.take (xs.length * E.size), ⟨?_, .inr ⟨g, c, arr, rfl, hB g ((h5.set g).2 (.inl rfl)), BlkM.of h1, h2, h3, h4, rfl⟩⟩, ?_, fun i x hx => ?_⟩, ?_⟩
    · have := Nat.mul_le_mul_right E.size h2
      have h4' : arr.toList.length = c * E.size := by rw [Array.length_toList]; exact h4
      rw [List.length_take, h4']
      exact Nat.min_eq_left this
    · have := Nat.mul_le_mul_right E.size h2
      have h4' : arr.toList.length = c * E.size := by rw [Array.length_toList]; exact h4
      rw [List.length_take, h4']
      exact Nat.min_eq_left this
    · obtain ⟨ds, h6, h7⟩ := h5.el i x hx
      refine ⟨ds, h6.2, fun j u hj => ?_⟩
      have hi := (List.getElem?_eq_some_iff.1 hx).1
      have hj' := (List.getElem?_eq_some_iff.1 hj).1
      rw [E.len h6.2] at hj'
      have := Nat.mul_le_mul_right E.size (show i + 1 ≤ xs.length by omega)
      rw [Nat.add_mul, Nat.one_mul] at this
      rw [List.getElem?_take, if_pos (by omega), Array.getElem?_toList]
      exact h7 j u hj
    · funext k
      rw [eq_iff_iff]
      refine ⟨fun hk => ?_, fun hk => (h5.set k).2 (.inl (Eq.symm hk))⟩
      rcases (h5.set k).1 hk with rfl | ⟨i, hi, hk⟩
      · exact rfl
      · exact (hsi i k hi hk).elim
/-- the tree handed on for reading: A0 knows nothing of its blocks -/
theorem tr_rep {x : α} {pins : List Pin} {u : Value} (h : (trP F x pins).P A w S u) (hA : ∀ b o, A0 b o → A b o) (hn : ∀ k o, S k → ¬ A0 k o) : Rep F.E A0 w u x :=
  let ⟨⟨cs, e, h1⟩, _⟩ := h; ⟨cs, e, F.rep h1 hA hn⟩
end

/-! operations -/
section
variable {P : Program} {R : Reg} {w : World} {d : Option Nat} {t : TypeId} {p : String} {af : Array Edge} {g : Option (Nat × Bool)} {A : Av} {α β : Type} {S : Nat → Prop}
variable {E : Enc α} {F : OE α} {x ix : Operand} {T e : TypeId} {K : Nat → Prop} {u a v : Value}
theorem stp_swapS {w' : World} {S'' : Nat → Prop} (hav : ∀ k, S k → ∀ o, A k o) (hc : Ch S w w') (hS : ∀ k, k < w.heap.size → S'' k → S k) : Stp A (swapS A S S'') w w' :=
  ⟨hc.size, fun b o v hv hn => (World.cell?_of_block (w := w) (hc.block b (cell_lt' hv) fun h => hn (hav b h o))).trans hv, fun b o hb h => h.elim (·.1) fun h => hav b (hS b hb h) o⟩
theorem of_len_tr {xs : List α} {Q : List α → Pw} {A' : Av} {w0 : World} {T' : TypeId} (h : VHoleA (oSl T' F) A' w0 S v xs Q) (hx : evalR R x = v) (hu : P.underlying T = some (.slice e)) : OpF P ⟨d, .call ⟨.builtin .len, #[x], #[T]⟩, t, p, af, g⟩ R w (.raw (.int .i64 (xs.length : Int))) := by
  obtain ⟨ad, cap, rfl, _⟩ := h.len
  exact opr_val (w' := w) (by simp [execOp, resolve, invoke, builtin, Builtin.len_, hx, underlying, hu, goInt]) ⟨rfl, Fr.refl _⟩
theorem of_indexAddr_tr {k : IntKind} {i : Int} {xs : List α} {Q : List α → Pw} {A' : Av} {w0 : World} {T' : TypeId} {s m : Nat} (h : VHoleA (oSl T' F) A' w0 S v xs Q) (hx : evalR R x = v) (hi : evalR R ix = .int k i) (hu : P.underlying T = some (.slice e)) (hsz : ∀ w, (sizeOf e).run P w = .ok s w) (hr : inR i xs.length = true) (hm : i.toNat * s = m) :
    OpF P ⟨d, .indexAddr T x ix, t, p, af, g⟩ R w (.raw (vptr v m)) := by
  subst hm
  obtain ⟨ad, cap, rfl, hb⟩ := h.len
  obtain ⟨i0, i1⟩ := inR_iff.1 hr
  obtain ⟨b, rfl⟩ := hb (by omega)
  refine opr_val (v := .pointer (some ⟨b, 0 + i.toNat * s, none⟩)) (w' := w) ?_ ⟨rfl, Fr.refl _⟩
  have hin : i < (xs.length : Int) := i1
  simp [execOp, Instr.indexAt, hx, hi, asIntOf, underlying, hu, i0, hin, hsz, addr_add]
theorem of_fieldAddr_tr {sn kn ft off sz : Nat} {a' : Value} (h : ∃ b off, a = .pointer (some ⟨b, off, none⟩)) (hx : evalR R x = a) (hf : FldF P sn kn ft off) (hsz : ∀ w, (sizeOf ft).run P w = .ok sz w) (h0 : sz ≠ 0) (ha : padd a off = a') :
    OpF P ⟨d, .fieldAddr sn x kn, t, p, af, g⟩ R w (.raw a') := by
  obtain ⟨b, o, rfl⟩ := h
  subst ha
  exact opr_val (v := .pointer (some ⟨b, o + off, none⟩)) (w' := w) (by simp [execOp, run_fieldAt (w := w) hf hsz h0 hx]) ⟨rfl, Fr.refl _⟩
theorem of_load_tr {y : α} {Q : α → Pw} (h : HoleA (oRd E) A w S a y Q) (hx : evalR R x = a) (hag : ∀ w, (isAgg T).run P w = .ok E.agg w) (hsz : ∀ w, (sizeOf T).run P w = .ok E.size w) : OpF P ⟨d, .load T x, t, p, af, g⟩ R w (.rep E A y) := by
  obtain ⟨b, off, S1, cs, rfl, h⟩ := h
  obtain ⟨arr, T', hb, _⟩ := h.blk
  exact of_load ⟨b, off, hx, hb.lt, cs, h.own.2, h.at'⟩ hag hsz
theorem of_load_pin (hp : PinOK w S (a, [v])) (hx : evalR R x = a) (hag : ∀ w, (isAgg T).run P w = .ok false w) (hsz : ∀ w, (sizeOf T).run P w = .ok 1 w) : OpF P ⟨d, .load T x, t, p, af, g⟩ R w (.raw v) := by
  obtain ⟨b, o, rfl, _, hc⟩ := hp
  refine opr_val (v := v) (w' := w) ?_ ⟨rfl, Fr.refl _⟩
  have := run_loadVar (P := P) (w := w) (b := b) (o := o) (cs := [v]) hag hsz rfl (fun _ => rfl) hc
  simp [execOp, Instr.loadAt, Instr.sureAddr, hx, this]
theorem of_load_pinS {cs : List Value} (hp : PinOK w S (a, cs)) (hl : cs.length = F.E.size) (hx : evalR R x = a) (hag : ∀ w, (isAgg T).run P w = .ok F.E.agg w) (hsz : ∀ w, (sizeOf T).run P w = .ok F.E.size w) : OpF P ⟨d, .load T x, t, p, af, g⟩ R w (.raw (F.E.val cs)) := by
  obtain ⟨b, o, rfl, _, hc⟩ := hp
  refine opr_val (v := F.E.val cs) (w' := w) ?_ ⟨rfl, Fr.refl _⟩
  have := run_loadVar (P := P) (w := w) (b := b) (o := o) (cs := cs) hag hsz hl F.E.one hc
  simp [execOp, Instr.loadAt, Instr.sureAddr, hx, this, Enc.val]
/-- a store at a place: a tree of its own, or a plain value (Sv empty) -/
theorem took_hput {ad : Operand} {T' : TypeId} {y y' : α} {Q : α → Pw} {Sv ST : Nat → Prop} {cs : List Value} {q : SP} (h : HoleA F A w S a y Q) (hv : F.own A w Sv y' cs) (hxv : evalR R x = F.E.val cs) (had : evalR R ad = a) (hd : ∀ k, S k → ¬ Sv k) (hST : ∀ k, ST k ↔ S k ∨ Sv k) (hav : ∀ k, ST k → ∀ o, A k o)
    (hB : ∀ k, ST k → K k) (hsz : ∀ w, (sizeOf T').run P w = .ok F.E.size w) (hQ : ∀ A w S, Q y' A w S → q.P A w S u) : OpR P ⟨none, .store T' ad x, t, p, af, g⟩ R w (TookS A false u ST (.gen K q) (fun _ => .any) w) := by
  obtain ⟨b, off, S1, es, rfl, h⟩ := h
  obtain ⟨arr, T0, hb, hle⟩ := h.blk
  have hcs := F.len hv
  have hcl := F.cells hv
  have hvb : ¬ Sv b := hd b h.inb
  obtain ⟨w', h1, h2, h3⟩ := run_storeVar (P := P) (o := off) (v := evalR R x) hsz (by rw [hxv, hcl]; exact F.oc hv) (by rw [hxv, ← Array.length_toList, hcl]; exact hcs) hb hle
  rw [hxv, hcl] at h3
  refine opr_skip (w' := w') ?_ ?_
  · simp only [execOp, Instr.storeAt, Instr.sureAddr, had]
    simp [h1]
  · have hch : Ch ST w w' := (h2.ch).trans (Ch.refl (fun _ => False) w') (fun _ _ h => h.elim) |> fun h => ⟨h.os, h.tape, h.output, h.size, fun k hk hn => h.block k hk fun e => hn ((hST k).2 (.inl (e ▸ ‹Hole F A w S b off y S1 es Q›.inb))), h.drawn⟩
    have hsub : ∀ k, k < w.heap.size → ((S k ∧ ¬ S1 k) ∨ Sv k) → ST k := fun k _ hk => (hST k).2 (hk.elim (fun h => .inl h.1) .inr)
    have hst := stp_swapS hav hch hsub
    have hne : ∀ k, Sv k → k ≠ b := fun k hk e => hvb (e ▸ hk)
    have hv' : F.own (swapS A ST fun k => (S k ∧ ¬ S1 k) ∨ Sv k) w' Sv y' cs := F.stab hv (fun k hk => h2.block k (hne k hk)) hst
    have hq := h.put _ w' Sv y' cs hv' (fun j u hj => ?_) ⟨arr, _, T0, hb, h3, lay_size _ _ _, fun j hj => ?_⟩ (fun k _ _ hk => h2.block k hk) hst (fun k a b => (hd k b a).elim)
    · refine ⟨u, fun k => (S k ∧ ¬ S1 k) ∨ Sv k, rfl, hch, hsub, hst, trivial, ⟨fun k hk => hB k ((hST k).2 (hk.elim (fun h => .inl h.1) .inr)), hQ _ _ _ hq⟩, trivial⟩
    · have hjl := (List.getElem?_eq_some_iff.1 hj).1
      rw [h3.cell, lay_at _ _ _ _ (by omega), if_pos (by omega), Nat.add_sub_cancel_left]
      exact hj
    · rw [lay_at _ _ _ _ (by omega), if_neg (by omega)]
theorem made_allocT {zc : Value} {z : α} (hz : ∀ w, (zeroValue T).run P w = .ok zc w) (hr : ∀ A w, F.own A w (fun _ => False) z zc.cells.toList) (hB : ∀ k, w.heap.size ≤ k → K k) : OpR P ⟨d, .alloc T, t, p, af, g⟩ R w (MadeS A (trR K (oPt T F) z []) (fun _ => .any) w) := by
  have hf := Fr.alloc w (.cells zc.cells T)
  refine opr_val (v := .pointer (some ⟨w.heap.size, 0, none⟩)) (w' := w.alloc (.cells zc.cells T)) ?_ ⟨fun k => k = w.heap.size, hf, fun k hk => Nat.le_of_eq (Eq.symm hk), trivial, ⟨fun k hk => hB k (Nat.le_of_eq (Eq.symm hk)), ⟨[.pointer (some ⟨w.heap.size, 0, none⟩)], rfl, w.heap.size, zc.cells.toList, fun _ => False, rfl, ?_, hr _ _, fun h => h, fun k => ⟨.inl, fun h => h.elim id False.elim⟩⟩, fun q hq => by cases hq⟩, trivial⟩
  · simp [execOp, Instr.alloc, newVar, newRow, hz]
  · have := Blk.new w T zc.cells
    simpa using this
/-- what a variable holds, taken out of it -/
theorem took_loadT {y : α} {pins : List Pin} {T' : TypeId} (h : (trP (oPt T' F) y pins).P A w S u) (hx : evalR R x = u) (hav : ∀ k, S k → ∀ o, A k o) (hB : ∀ k, S k → K k) (hag : ∀ w, (isAgg T).run P w = .ok F.E.agg w) (hsz : ∀ w, (sizeOf T).run P w = .ok F.E.size w) :
    OpR P ⟨d, .load T x, t, p, af, g⟩ R w (TookS A true u S (trR K F y []) (fun _ => .any) w) := by
  obtain ⟨⟨cs, rfl, b, ds, S1, rfl, h1, h2, h3, h4⟩, _⟩ := h
  have hsub : ∀ k, S1 k → S k := fun k hk => (h4 k).2 (.inr hk)
  have hst := stp_swapS (S'' := S1) hav (Ch.refl S w) fun k _ h => hsub k h
  refine opr_val (v := F.E.val ds) (w' := w) ?_ ⟨F.E.val ds, S1, rfl, Ch.refl S w, fun k _ h => hsub k h, hst, trivial, ⟨fun k hk => hB k (hsub k hk), ⟨ds, rfl, F.stab h2 (fun _ _ => rfl) hst⟩, fun q hq => by cases hq⟩, trivial⟩
  have := run_loadVar (P := P) (w := w) (b := b) (o := 0) hag hsz (F.len h2) F.E.one (fun j v hj => by rw [h1.cell, Nat.zero_add]; simpa using hj)
  have hx' : evalR R x = .pointer (some ⟨b, 0, none⟩) := hx
  simp [execOp, Instr.loadAt, Instr.sureAddr, hx', this, Enc.val]
theorem call_run {fn : FuncId} {al : List Operand} {aT : Array TypeId} {K : Value → World → Prop} (hc : ∀ args w, (callFunc fn args).run P w = .ok (.enter fn args) w) (h : Calls P fn (al.map (evalR R)).toArray w fun ed w' => ∃ v, ed = .returned v ∧ K v w') : OpR P ⟨d, .call ⟨.value (.func fn), al.toArray, aT⟩, t, p, af, g⟩ R w K := by
  unfold OpR
  have : (execOp (evalR R) ⟨d, .call ⟨.value (.func fn), al.toArray, aT⟩, t, p, af, g⟩).run P w = .ok (.enter fn (al.map (evalR R)).toArray) w := by
    simp [execOp, resolve, evalR, Deferred.ofValue, invoke, hc]
  rw [this]
  exact h
theorem MadeS.base {K' : Nat → Prop} {q : SP} {f : Av → Fact} {v : Value} {w' : World} (h : MadeS A (.gen K' q) f w v w') (hK : ∀ k, K' k → K k) : MadeS A (.gen K q) f w v w' :=
  let ⟨S, h1, h2, h3, h4, h5⟩ := h; ⟨S, h1, h2, trivial, ⟨fun k hk => hK k (h4.1 k hk), h4.2⟩, h5⟩
/-- what a call that writes a tree of the caller's says of it: S before, S' behind -/
def Gave {α : Type} (F : OE α) (A0 : Av) (S : Nat → Prop) (w : World) (v : Value) (y : α) (w' : World) : Prop :=
  ∃ S', (trP F y []).P (addS A0 S') w' S' v ∧ (∀ k, k < w.heap.size → S' k → S k) ∧ Ch S w w'
/-- a call that writes what hangs at a value in the tree -/
theorem took_callT {fn : FuncId} {al : List Operand} {aT : Array TypeId} {y y' : α} {Q : α → Pw} {q : SP} {f : Fact} (hc : ∀ args w, (callFunc fn args).run P w = .ok (.enter fn args) w)
    (h : VHoleA F A w S v y Q) (hav : ∀ k, S k → ∀ o, A k o) (hB : ∀ k, S k → K k) (hBw : ∀ k, w.heap.size ≤ k → K k) (hl : ∀ k, S k → k < w.heap.size)
    (hcall : ∀ S1, (∀ k, S1 k → S k) → (trP F y []).P (addS (fun b o => A b o ∧ ¬ S1 b) S1) w S1 v → Calls P fn (al.map (evalR R)).toArray w fun ed w' => ∃ z, ed = .returned z ∧ (f.ok z w' ∧ Gave F (fun b o => A b o ∧ ¬ S1 b) S1 w v y' w')) (hQ : ∀ A w S, Q y' A w S → q.P A w S u) :
    OpR P ⟨d, .call ⟨.value (.func fn), al.toArray, aT⟩, t, p, af, g⟩ R w (TookS A false u S (.gen K q) (fun _ => f) w) := by
  obtain ⟨S1, cs, rfl, h⟩ := h
  have hA1 : ∀ b o, addS (fun b o => A b o ∧ ¬ S1 b) S1 b o ↔ A b o := fun b o => by
    constructor
    · rintro (h1 | h1)
      · exact h1.1
      · exact hav b (h.sub b h1) o
    · intro h1
      by_cases h2 : S1 b
      · exact .inr h2
      · exact .inl ⟨h1, h2⟩
  refine call_run hc (Calls.mono (hcall S1 h.sub ⟨⟨cs, rfl, F.stab h.own (fun _ _ => rfl) (stp_down fun b o h => (hA1 b o).1 h)⟩, fun q hq => by cases hq⟩) ?_)
  rintro ed w' ⟨z, he, hf, S1', ⟨⟨cs', e, h1⟩, _⟩, h2, h3⟩
  have hcs : cs' = cs := by
    have a := F.cells h1
    have b := F.cells h.own
    rw [← e, b] at a
    exact a.symm
  subst hcs
  have hch : Ch S w w' := ⟨h3.os, h3.tape, h3.output, h3.size, fun k hk hn => h3.block k hk fun hk' => hn (h.sub k hk'), h3.drawn⟩
  have hlt : ∀ k, S1' k → S k → S1 k := fun k b a => h2 k (hl k a) b
  have hsub : ∀ k, k < w.heap.size → ((S k ∧ ¬ S1 k) ∨ S1' k) → S k := fun k hk hs => hs.elim (·.1) fun hs => h.sub k (h2 k hk hs)
  have hst := stp_swapS hav hch hsub
  have hown := F.stab (A' := swapS A S fun k => (S k ∧ ¬ S1 k) ∨ S1' k) h1 (fun _ _ => rfl) (stp_down fun b o hb => by
    rcases hb with ⟨a, c⟩ | ⟨a, c⟩ | a
    · exact .inl ⟨a, fun hs => c (h.sub b hs)⟩
    · exact .inl ⟨hav b a o, c⟩
    · exact .inr a)
  have hq := h.put _ w' S1' y' hown (fun k a c => h3.block k (hl k a) c) hst hlt
  refine ⟨z, he, u, fun k => (S k ∧ ¬ S1 k) ∨ S1' k, rfl, hch, hsub, hst, trivial, ⟨fun k hk => ?_, hQ _ _ _ hq⟩, hf⟩
  rcases hk with hk | hk
  · exact hB k hk.1
  · rcases Nat.lt_or_ge k w.heap.size with hlt' | hge
    · exact hB k (h.sub k (h2 k hlt' hk))
    · exact hBw k hge
end

/-! the words that a printed proof uses -/
section
variable {P : Program} {R : Reg} {w : World} {d : Option Nat} {t : TypeId} {p : String} {af : Array Edge} {g : Option (Nat × Bool)} {A A0 : Av} {α β : Type} {S S0 : Nat → Prop}
variable {E : Enc α} {F : OE α} {x ix : Operand} {T e : TypeId} {K : Nat → Prop} {u a v : Value}
/-- a store that puts a tree of our own into another -/
theorem took_put2 {ad : Operand} {T' : TypeId} {y y' : α} {Q : α → Pw} {q : SP} {ρ : Nat → Value} {σ : Nat → Nat → Prop} {c1 c2 : Nat} (hne : Nat.beq c1 c2 = false) (h : HoleA F A w (σ c1) a y Q) (hv : ∃ cs, ρ c2 = F.E.val cs ∧ F.own A w (σ c2) y' cs) (hx : evalR R x = ρ c2) (had : evalR R ad = a)
    (hav : ∀ d, d ∈ [c1, c2] → ∀ k, σ d k → ∀ o, A k o) (hdd : ∀ d d', d ∈ [c1, c2] → d' ∈ [c1, c2] → d ≠ d' → ∀ k, σ d k → ¬ σ d' k) (hB1 : ∀ k, σ c1 k → K k) (hB2 : ∀ k, σ c2 k → K k) (hsz : ∀ w, (sizeOf T').run P w = .ok F.E.size w) (hQ : ∀ A w S, Q y' A w S → q.P A w S u) :
    OpR P ⟨none, .store T' ad x, t, p, af, g⟩ R w (TookS A false u (fun k => ∃ d, d ∈ [c1, c2] ∧ σ d k) (.gen K q) (fun _ => .any) w) := by
  obtain ⟨cs, e, hv⟩ := hv
  have hm1 : c1 ∈ [c1, c2] := .head _
  have hm2 : c2 ∈ [c1, c2] := .tail _ (.head _)
  have hne' : c1 ≠ c2 := fun h => by subst h; simp at hne
  have hST : ∀ k, (∃ d, d ∈ [c1, c2] ∧ σ d k) ↔ σ c1 k ∨ σ c2 k := fun k => by
    constructor
    · rintro ⟨d, hd, hk⟩
      rcases List.mem_cons.1 hd with hd | hd
      · exact .inl (hd ▸ hk)
      · exact .inr (List.mem_singleton.1 hd ▸ hk)
    · exact fun h => h.elim (fun h => ⟨c1, hm1, h⟩) fun h => ⟨c2, hm2, h⟩
  exact took_hput h hv (hx.trans e) had (hdd c1 c2 hm1 hm2 hne') hST (fun k ⟨d, hd, h⟩ => hav d hd k h) (fun k hk => ((hST k).1 hk).elim (hB1 k) (hB2 k)) hsz hQ
/-- a written tree of the caller's -/
theorem IniOK.oneT {x : α} (h : (trP F x []).P (addS A S0) w S0 u) : IniOK [⟨u, S0, trR (fun k => w.heap.size ≤ k ∨ S0 k) F x []⟩] (addS A S0) w := by
  refine ⟨fun i p hp => ?_, fun i p hp => ?_, fun i j p q hp hq hne => ?_⟩
  · cases i with
    | zero => simp at hp; subst hp; exact ⟨trivial, fun k hk o => .inr hk⟩
    | succ i => simp at hp
  · cases i with
    | zero => simp at hp; subst hp; exact ⟨fun k hk => .inr hk, h⟩
    | succ i => simp at hp
  · cases i with
    | zero =>
      cases j with
      | zero => exact absurd rfl hne
      | succ j => simp at hq
    | succ i => simp at hp
theorem AvOK.oneT {x : α} (hA : AvOK A w) (h : (trP F x []).P (addS A S0) w S0 u) : AvOK (addS A S0) w := fun b o hb => hb.elim (hA b o) fun hb => (trP F x []).lt h hb
theorem AvOK.subS (hA : AvOK A w) (S : Nat → Prop) : AvOK (fun b o => A b o ∧ ¬ S b) w := fun b o h => hA b o h.1
/-- the call's last word on a tree of the caller's -/
theorem gave_post {w0 : World} {x : α} {pins : List Pin} {B : Nat} (hB : B = w0.heap.size) (hown : (trR (fun k => B ≤ k ∨ S0 k) F x pins).own A u S w) (hav : ∀ k, S k → ∀ o, A k o) (hAA : ∀ b o, A0 b o → A b o) (hF : Ch S0 w0 w) : Gave F A0 S0 w0 u x w := by
  subst hB
  exact ⟨S, (trP F x []).stab (trP.nopin hown.2) (fun _ _ => rfl) (stp_down fun b o h => h.elim (hAA b o) fun h => hav b h o), fun k hk hs => (hown.1 k hs).resolve_left (by omega), hF⟩
/-- what a call that writes a plain row says of it -/
theorem gave_of_vec {B : Nat} {xs ys : List α} {w' : World} {f : Fact} {z : Value} (hfl : ∀ A A' w x cs, E.rep A w x cs → E.rep A' w x cs) (h : (trP (oSl T (oRd E)) xs []).P A w S v) (hz : f.ok z w' ∧ (Res.vec B T E ys).ok A0 v w' ∧ Ch (ownsB v) w w') (hS : S = ownsB v) (hT : T ≠ tByte := by decide) : f.ok z w' ∧ Gave (oSl T (oRd E)) A0 S w v ys w' := by
  subst hS
  obtain ⟨h1, h2, h3⟩ := hz
  refine ⟨h1, ownsB v, ⟨own_of_vec (Vec.flat h2 hfl) hT, fun q hq => by cases hq⟩, fun _ _ h => h, h3⟩
theorem vec_of_tr {A0 : Av} {xs : List α} (hfl : ∀ A A' w x cs, E.rep A w x cs → E.rep A' w x cs) (h : (trP (oSl T (oRd E)) xs []).P A w S v) : (Res.vec 0 T E xs).ok A0 v w ∧ S = ownsB v := by
  obtain ⟨⟨cs, e, h⟩, _⟩ := h
  obtain ⟨h1, h2⟩ := vec_of_own (B := 0) h e fun _ _ => Nat.zero_le _
  exact ⟨Vec.flat h1 hfl, h2⟩
theorem tr_ownsB {xs : List α} (hfl : ∀ A A' w x cs, E.rep A w x cs → E.rep A' w x cs) (h : (trP (oSl T (oRd E)) xs []).P A w S v) : S = ownsB v := (vec_of_tr (A0 := A) hfl h).2
/-- a variable that holds a struct whose cells are known -/
def trB (T : TypeId) (F : OE α) (x : α) (cs : List Value) : SP where
  P := fun A w S u => (trP (oPt T F) x []).P A w S u ∧ PinOK w S (u, cs)
  lt := fun h hk => (trP (oPt T F) x []).lt h.1 hk
  stab := fun h hb hs => ⟨(trP (oPt T F) x []).stab h.1 hb hs, let ⟨b, o, h4, h5, h6⟩ := h.2; ⟨b, o, h4, h5, fun j u hj => (World.cell?_of_block (hb b h5)).trans (h6 j u hj)⟩⟩
theorem took_boxB {y : α} {Sv : Nat → Prop} {pins : List Pin} {cs : List Value} (h : (trP F y pins).P A w Sv u) (hu : u = F.E.val cs) (hl : cs.length = F.E.size) (hoc : ∀ c ∈ cs, c.oneCell' = true) (hx : evalR R x = u) (hav : ∀ k, Sv k → ∀ o, A k o) (hBv : ∀ k, Sv k → K k) (hB : ∀ k, w.heap.size ≤ k → K k) :
    OpR P ⟨d, .box T x, t, p, af, g⟩ R w (TookS A true u Sv (.gen K (trB T F y cs)) (fun _ => .any) w) := by
  obtain ⟨⟨cs', e, h⟩, _⟩ := h
  have hcs : cs' = cs := by
    have h1 := F.cells h
    have h2 : (F.E.val cs).cells.toList = cs := by
      cases ha : F.E.agg with
      | true => simp [Enc.val, ha, Value.cells]
      | false =>
        have h1 := F.E.one ha
        rw [h1] at hl
        match cs, hl, hoc with
        | [c], _, hoc =>
          have h2 := hoc c (by simp)
          have : (Enc.val F.E [c]).cells = #[c] := by
            simp only [Enc.val, ha]
            cases c <;> first | rfl | cases h2
          rw [this]
    rw [← e, hu, h2] at h1
    exact h1.symm
  subst hcs
  subst e
  have hf := Fr.alloc w (.cells (evalR R x).cells T)
  have hsub : ∀ k, k < w.heap.size → (k = w.heap.size ∨ Sv k) → Sv k := fun k hk h => h.elim (fun e => absurd e (by omega)) id
  have hst := stp_swapS (S'' := fun k => k = w.heap.size ∨ Sv k) hav (hf.ch Sv) hsub
  have hcl := F.cells h
  have hb : Blk (w.alloc (.cells (evalR R x).cells T)) w.heap.size T cs'.toArray := by
    have := Blk.new w T (evalR R x).cells
    have e : cs'.toArray = (evalR R x).cells := by rw [hx]; exact (congrArg List.toArray hcl).symm
    rw [e]
    exact this
  refine opr_val (v := .pointer (some ⟨w.heap.size, 0, none⟩)) (w' := w.alloc (.cells (evalR R x).cells T)) (by simp [execOp, Instr.box, newVar, newRow]) ⟨.pointer (some ⟨w.heap.size, 0, none⟩), fun k => k = w.heap.size ∨ Sv k, rfl, hf.ch Sv, hsub, hst, trivial, ⟨fun k hk => hk.elim (fun e => hB k (Nat.le_of_eq (Eq.symm e))) (hBv k), ⟨⟨[.pointer (some ⟨w.heap.size, 0, none⟩)], rfl, w.heap.size, cs', Sv, rfl, hb, F.stab h (fun k hk => hf.block k (F.lt h hk)) hst, fun hk => absurd (F.lt h hk) (Nat.lt_irrefl _), fun k => Iff.rfl⟩, fun q hq => by cases hq⟩, ⟨w.heap.size, 0, rfl, .inl rfl, fun j u hj => ?_⟩⟩, trivial⟩
  rw [hb.cell, Nat.zero_add]
  simpa using hj
/-- the cells of the block stay -/
theorem HoleA.pinK {a v : Value} {y : α} {Q : α → Pw} {S' : Nat → Prop} {q : Pin} (h : HoleA F A w S a y Q) (hp : PinOK w S' (a, [v])) (ha : F.E.agg = false) (hq : PinOK w S q) (hb : ∃ b o o', a = .pointer (some ⟨b, o, none⟩) ∧ q.1 = .pointer (some ⟨b, o', none⟩)) : VHoleA F A w S v y (fun z A w S => Q z A w S ∧ PinOK w S q) := by
  have hh := h
  obtain ⟨S1, cs, e, h1⟩ := h.pin hp ha
  obtain ⟨b, off, S2, ds, e2, h2⟩ := hh
  obtain ⟨b', o', e3, _, hc⟩ := hp
  have hl' := F.len h2.own
  rw [F.E.one ha] at hl'
  match ds, hl', h2 with
  | [c], _, h2 =>
    have hv : v = c := by
      have h3 := h2.at' 0 c rfl
      obtain ⟨e4, e5⟩ : b' = b ∧ o' = off := by
        have := e3.symm.trans e2
        injection this with this
        injection this with this
        injection this with a b
        exact ⟨a, b⟩
      subst e4 e5
      have h4 := hc 0 v rfl
      have := h4.symm.trans h3
      injection this
    refine ⟨S2, [c], by rw [hv]; simp [Enc.val, ha], h2.own, h2.sub, fun A' w' S1' y' k1 k2 k3 k4 => ⟨h2.v.put A' w' S1' y' k1 k2 k3 k4, ?_⟩⟩
    obtain ⟨b1, o1, o2, e6, e7⟩ := hb
    obtain ⟨b3, o3, e8, h5, h6⟩ := hq
    have eb : b1 = b := by
      have := e6.symm.trans e2
      injection this with this
      injection this with this
      injection this
    have eb3 : b3 = b1 := by
      have := e8.symm.trans e7
      injection this with this
      injection this with this
      injection this
    subst eb eb3
    exact ⟨b3, o3, e8, .inl ⟨h2.inb, h2.out⟩, fun j u hj => cell_keep (k2 b3 h2.inb h2.out) (h6 j u hj)⟩
theorem same_blk0 {u : Value} (h : ∃ b o, u = .pointer (some ⟨b, o, none⟩)) : ∃ b o o', u = .pointer (some ⟨b, o, none⟩) ∧ u = .pointer (some ⟨b, o', none⟩) := by
  obtain ⟨b, o, rfl⟩ := h
  exact ⟨b, o, o, rfl, rfl⟩
theorem gave_post_box {w0 : World} {x : α} {B : Nat} {T' : TypeId} {cs : List Value} (hB : B = w0.heap.size) (hown : (trR (fun k => B ≤ k ∨ S0 k) (oPt T' F) x [(u, cs)]).own A u S w) (hav : ∀ k, S k → ∀ o, A k o) (hAA : ∀ b o, A0 b o → A b o) (hv : v = F.E.val cs) (hl : cs.length = F.E.size) (hF : Ch S0 w0 w) : Gave F A0 S0 w0 v x w := by
  subst hB hv
  obtain ⟨hK, ⟨es, e, b, ds, S1, rfl, h1, h2, h3, h4⟩, hp⟩ := hown
  obtain ⟨b', o', e', hb', hc⟩ := hp _ (.head _)
  have hu : u = .pointer (some ⟨b, 0, none⟩) := e
  obtain ⟨e4, e5⟩ : b = b' ∧ 0 = o' := by
    have := hu.symm.trans e'
    injection this with this
    injection this with this
    injection this with a b
    exact ⟨a, b⟩
  subst e4 e5
  have hdl := F.len h2
  have : ds = cs := by
    apply List.ext_getElem?
    intro j
    by_cases hj : j < cs.length
    · have h5 := hc j _ (List.getElem?_eq_getElem hj)
      rw [h1.cell, Nat.zero_add] at h5
      rw [List.getElem?_eq_getElem hj, ← h5]
      simp
    · rw [List.getElem?_eq_none (by omega), List.getElem?_eq_none (by omega)]
  subst this
  have hsub : ∀ k, S1 k → S k := fun k hk => (h4 k).2 (.inr hk)
  exact ⟨S1, ⟨⟨ds, rfl, F.stab h2 (fun _ _ => rfl) (stp_down fun b o h => h.elim (hAA b o) fun h => hav b (hsub b h) o)⟩, fun q hq => by cases hq⟩, fun k hk hs => (hK k (hsub k hs)).resolve_left (by omega), hF⟩
theorem tr_cells {x : α} {pins : List Pin} (h : (trP F x pins).P A w S v) : ∃ cs, v = F.E.val cs ∧ cs.length = F.E.size ∧ ∀ c ∈ cs, c.oneCell' = true := let ⟨⟨cs, e, h1⟩, _⟩ := h; ⟨cs, e, F.len h1, F.oc h1⟩
theorem vh_rep {y : α} {Q : α → Pw} (h : VHoleA F A w S v y Q) (hA : ∀ b o, A0 b o → A b o) (hn : ∀ k o, S k → ¬ A0 k o) : Rep F.E A0 w v y :=
  let ⟨S1, cs, e, h1⟩ := h; ⟨cs, e, F.rep h1.own hA fun k o hk => hn k o (h1.sub k hk)⟩
theorem own_nil {A : Av} {w : World} : (oSl T F).own A w (fun _ => False) [] [.slice none 0 0] := .inl ⟨rfl, rfl, fun _ h => h⟩
end
end Go.Proofs.YtpneepiboheldaaDoor
/- Printed by dec.py: plain functions and the proofs that the code computes them. No statement of the seat is proved here. -/
namespace Go.Proofs.YtpneepiboheldaaDoor
open Go.RowKit
set_option linter.unusedVariables false
abbrev T_impl_Test := Int × Int × Bool
abbrev E_impl_Test : Enc T_impl_Test := ePr (eInt .i64) (ePr (eInt .i64) eBool)
theorem fl_impl_Test_0 : Fld E_impl_Test 0 (eInt .i64) (fun x : T_impl_Test => x.1) := Fld.fst
theorem fs_impl_Test_0 : FldS E_impl_Test 0 (eInt .i64) (fun (x : T_impl_Test) y => (y, x.2.1, x.2.2)) := FldS.fst
theorem ff_36_0 : FldF Tryd.prog 36 0 3 0 := ⟨_, _, Tryd.underlying36, rfl, rfl, rfl⟩
theorem fl_impl_Test_1 : Fld E_impl_Test 1 (eInt .i64) (fun x : T_impl_Test => x.2.1) := (Fld.snd Fld.fst)
theorem fs_impl_Test_1 : FldS E_impl_Test 1 (eInt .i64) (fun (x : T_impl_Test) y => (x.1, y, x.2.2)) := (FldS.snd FldS.fst)
theorem ff_36_1 : FldF Tryd.prog 36 1 3 1 := ⟨_, _, Tryd.underlying36, rfl, rfl, rfl⟩
theorem fl_impl_Test_2 : Fld E_impl_Test 2 eBool (fun x : T_impl_Test => x.2.2) := (Fld.snd (Fld.snd (Fld.id _)))
theorem fs_impl_Test_2 : FldS E_impl_Test 2 eBool (fun (x : T_impl_Test) y => (x.1, x.2.1, y)) := (FldS.snd (FldS.snd (FldS.id _)))
theorem ff_36_2 : FldF Tryd.prog 36 2 4 2 := ⟨_, _, Tryd.underlying36, rfl, rfl, rfl⟩
abbrev T_impl_Rule := (List T_impl_Test)
abbrev E_impl_Rule : Enc T_impl_Rule := eBx (eSl E_impl_Test)
theorem fl_impl_Rule_0 : Fld E_impl_Rule 0 (eSl E_impl_Test) (fun x : T_impl_Rule => x) := Fld.bx
theorem ff_32_0 : FldF Tryd.prog 32 0 30 0 := ⟨_, _, Tryd.underlying32, rfl, rfl, rfl⟩
abbrev T_impl_RuleSet := (List T_impl_Rule)
abbrev E_impl_RuleSet : Enc T_impl_RuleSet := eBx (eSl E_impl_Rule)
theorem fl_impl_RuleSet_0 : Fld E_impl_RuleSet 0 (eSl E_impl_Rule) (fun x : T_impl_RuleSet => x) := Fld.bx
theorem ff_24_0 : FldF Tryd.prog 24 0 22 0 := ⟨_, _, Tryd.underlying24, rfl, rfl, rfl⟩
theorem el_32 : ElF Tryd.prog 32 1 := el_of Tryd.zeroValue32 Tryd.sizeOf32 (by kernel_rfl : (Tryd.prog.info? 32).map (·.bytes) = some 24) rfl (by decide) (by decide)
theorem el_36 : ElF Tryd.prog 36 3 := el_of Tryd.zeroValue36 Tryd.sizeOf36 (by kernel_rfl : (Tryd.prog.info? 36).map (·.bytes) = some 24) rfl (by decide) (by decide)
theorem el_9 : ElF Tryd.prog 9 1 := el_of Tryd.zeroValue9 Tryd.sizeOf9 (by kernel_rfl : (Tryd.prog.info? 9).map (·.bytes) = some 16) rfl (by decide) (by decide)
end Go.Proofs.YtpneepiboheldaaDoor
/- Short forms for the printed texts. No statement of the seat is proved here. -/
namespace Go.Proofs.YtpneepiboheldaaDoor
open Go.RowKit
set_option linter.unusedVariables false

theorem Obls.p {P : Program} {l : List Ent} {R : Reg} {w : World} {i : Nat} {x : Ent} {r : List Ent}
    (h : ∀ R' w', Fr w w' → (∀ t, okRead l i t = true → R' t = R t) → Deps l R' w' x.o.after.toList → OpR P x.o R' w' fun v w'' => x.f.ok v w'' ∧ Fr w' w'')
    (t : Obls P l R w (i + 1) r) (hg : x.o.guard = none := by exact rfl) (hx : x.g = true := by exact rfl) : Obls P l R w i (x :: r) := ⟨Obl.plain hg hx h, t⟩
theorem OblsR.p {P : Program} {ini : List Ob} {l : List EntR} {A : Av} {R : Reg} {w : World} {i : Nat} {x : EntR} {r : List EntR}
    (h : ∀ A' R' w', Onto ini l A R w i A' R' w' → DepsR l A' R' w' x.o.after.toList → OpR P x.o R' w' fun v w'' => (x.f A').ok v w'' ∧ Fr w' w'')
    (t : OblsR P ini l A R w (i + 1) r) (hg : x.o.guard = none := by exact rfl) (hx : x.g = true := by exact rfl) (hc : x.con = [] := by exact rfl) (hr : x.res = none := by exact rfl) : OblsR P ini l A R w i (x :: r) :=
  ⟨OblR.plain hg hx hc hr h, t⟩
def depF (l : List Ent) (es : List Edge) (j : Nat) : Option (Nat × Fact) :=
  match es[j]? with
  | none => none
  | some e => bif bnd e then (match l[e.on]? with
    | none => none
    | some x => match x.o.dst with
      | none => none
      | some d => bif x.g then some (d, x.f) else none) else none
theorem Deps.g {l : List Ent} {R : Reg} {w : World} {es : List Edge} (h : Deps l R w es) (j : Nat) {d : Nat} {f : Fact} (e : depF l es j = some (d, f)) : f.ok (R d) w := by
  unfold depF at e
  cases h1 : es[j]? with
  | none => rw [h1] at e; cases e
  | some a =>
    rw [h1] at e
    dsimp only at e
    cases h2 : bnd a
    · rw [h2] at e; cases e
    rw [h2, cond_true] at e
    cases h3 : l[a.on]? with
    | none => rw [h3] at e; cases e
    | some x =>
      rw [h3] at e
      dsimp only at e
      cases h4 : x.o.dst with
      | none => rw [h4] at e; cases e
      | some d' =>
        rw [h4] at e
        dsimp only at e
        cases h5 : x.g
        · rw [h5] at e; cases e
        rw [h5, cond_true] at e
        obtain ⟨rfl, rfl⟩ := Prod.mk.inj (Option.some.inj e)
        exact h j a x _ h1 h2 h3 h4 h5
def depFR (l : List EntR) (es : List Edge) (j : Nat) : Option (Nat × (Av → Fact)) :=
  match es[j]? with
  | none => none
  | some e => bif bnd e then (match l[e.on]? with
    | none => none
    | some x => match x.o.dst with
      | none => none
      | some d => bif x.g then some (d, x.f) else none) else none
theorem DepsR.g {l : List EntR} {A : Av} {R : Reg} {w : World} {es : List Edge} (h : DepsR l A R w es) (j : Nat) {d : Nat} {f : Av → Fact} (e : depFR l es j = some (d, f)) : (f A).ok (R d) w := by
  unfold depFR at e
  cases h1 : es[j]? with
  | none => rw [h1] at e; cases e
  | some a =>
    rw [h1] at e
    dsimp only at e
    cases h2 : bnd a
    · rw [h2] at e; cases e
    rw [h2, cond_true] at e
    cases h3 : l[a.on]? with
    | none => rw [h3] at e; cases e
    | some x =>
      rw [h3] at e
      dsimp only at e
      cases h4 : x.o.dst with
      | none => rw [h4] at e; cases e
      | some d' =>
        rw [h4] at e
        dsimp only at e
        cases h5 : x.g
        · rw [h5] at e; cases e
        rw [h5, cond_true] at e
        obtain ⟨rfl, rfl⟩ := Prod.mk.inj (Option.some.inj e)
        exact h j a x _ h1 h2 h3 h4 h5
end Go.Proofs.YtpneepiboheldaaDoor
/-
  DERIVED: THE SHELF's CONTRACTS AT THIS DUMP, IN PLAIN WORDS (tools/lay-plain.mjs out of 'YtpneepiboheldaaDoorLay.lean', which tools/lay-shelf.mjs wrote): THE SAME DECLARATIONS UNDER THE SAME NAMES: 'import', 'namespace', 'open', 'def', 'theorem' AND NOTHING ELSE: no command of the shelf's: FOR A HAND-IN. Each laying: the table of numbers ('.._ren') and one theorem, a field a fact of the dump's own or the kernel's comparison; each contract: ONE APPLICATION.
-/
namespace Go.Proofs
open Go.Shelf
def Tryd.laysSplit_ren : Go.Shelf.Ren := ⟨fun | 146 => 12 | 221 => 22 | 268 => 33 | 138 => 34 | 143 => 35 | 195 => 46 | 197 => 47 | 218 => 48 | 219 => 49 | 260 => 56 | 217 => 57 | 225 => 58 | 224 => 59 | 267 => 60 | 266 => 69 | 314 => 70 | n => n, fun | 9 => 9 | 31 => 33 | 3 => 3 | 4 => 4 | 0 => 0 | 105 => 73 | 21 => 21 | 5 => 5 | 46 => 80 | 119 => 90 | 139 => 93 | 138 => 92 | 146 => 95 | 51 => 94 | n => n, fun | 1 => 1 | 3 => 2 | 4 => 3 | n => n⟩
theorem Tryd.laysSplit : Go.Proofs.LaysM.n146 Tryd.prog Tryd.laysSplit_ren := {
  mixed := by kernel_rfl
  f138 := Tryd.func34.trans (congrArg some (by kernel_rfl))
  f143 := Tryd.func35.trans (congrArg some (by kernel_rfl))
  f146 := Tryd.func12.trans (congrArg some (by kernel_rfl))
  f195 := Tryd.func46.trans (congrArg some (by kernel_rfl))
  f197 := Tryd.func47.trans (congrArg some (by kernel_rfl))
  f217 := Tryd.func57.trans (congrArg some (by kernel_rfl))
  f218 := Tryd.func48.trans (congrArg some (by kernel_rfl))
  f219 := Tryd.func49.trans (congrArg some (by kernel_rfl))
  f221 := Tryd.func22.trans (congrArg some (by kernel_rfl))
  f224 := Tryd.func59.trans (congrArg some (by kernel_rfl))
  f225 := Tryd.func58.trans (congrArg some (by kernel_rfl))
  f260 := Tryd.func56.trans (congrArg some (by kernel_rfl))
  f266 := Tryd.func69.trans (congrArg some (by kernel_rfl))
  f267 := Tryd.func60.trans (congrArg some (by kernel_rfl))
  f268 := Tryd.func33.trans (congrArg some (by kernel_rfl))
  f314 := Tryd.func70.trans (congrArg some (by kernel_rfl))
  t0 := Tryd.underlying0
  a0 := Tryd.isAgg0
  z0 := Tryd.sizeOf0
  v0 := Tryd.zeroValue0
  t3 := Tryd.underlying3
  a3 := Tryd.isAgg3
  z3 := Tryd.sizeOf3
  v3 := Tryd.zeroValue3
  t4 := Tryd.underlying4
  a4 := Tryd.isAgg4
  z4 := Tryd.sizeOf4
  v4 := Tryd.zeroValue4
  t5 := Tryd.underlying5
  a5 := Tryd.isAgg5
  z5 := Tryd.sizeOf5
  v5 := Tryd.zeroValue5
  t9 := Tryd.underlying9
  a9 := Tryd.isAgg9
  z9 := Tryd.sizeOf9
  v9 := Tryd.zeroValue9
  t21 := Tryd.underlying21
  a21 := Tryd.isAgg21
  z21 := Tryd.sizeOf21
  v21 := Tryd.zeroValue21
  t31 := Tryd.underlying33
  a31 := Tryd.isAgg33
  z31 := Tryd.sizeOf33
  v31 := Tryd.zeroValue33
  t46 := Tryd.underlying80
  a46 := Tryd.isAgg80
  z46 := Tryd.sizeOf80
  v46 := Tryd.zeroValue80
  t51 := Tryd.underlying94
  a51 := Tryd.isAgg94
  z51 := Tryd.sizeOf94
  v51 := Tryd.zeroValue94
  t105 := Tryd.underlying73
  a105 := Tryd.isAgg73
  z105 := Tryd.sizeOf73
  v105 := Tryd.zeroValue73
  t119 := Tryd.underlying90
  a119 := Tryd.isAgg90
  z119 := Tryd.sizeOf90
  t138 := Tryd.underlying92
  a138 := Tryd.isAgg92
  z138 := Tryd.sizeOf92
  v138 := Tryd.zeroValue92
  t139 := Tryd.underlying93
  a139 := Tryd.isAgg93
  z139 := Tryd.sizeOf93
  v139 := Tryd.zeroValue93
  t146 := Tryd.underlying95
  a146 := Tryd.isAgg95
  z146 := Tryd.sizeOf95
  v146 := Tryd.zeroValue95
  g1 := by kernel_rfl
  g3 := by kernel_rfl
  g4 := by kernel_rfl
  i0 := by kernel_rfl
  i3 := by kernel_rfl
  i4 := by kernel_rfl
  i5 := by kernel_rfl
  i9 := by kernel_rfl
  i21 := by kernel_rfl
  i31 := by kernel_rfl
  i46 := by kernel_rfl
  i51 := by kernel_rfl
  i105 := by kernel_rfl
  i138 := by kernel_rfl
  i139 := by kernel_rfl
  i146 := by kernel_rfl
  m1 := by kernel_rfl
  s1_3 := fun w h => Go.Proofs.cell_of_shapedOpen_int (zero := #[.int .i64 0]) (t := 3) h (of_decide_eq_true (by kernel_rfl)) (by kernel_rfl) rfl (by kernel_rfl) (by kernel_rfl) Tryd.underlying3
  m3 := by kernel_rfl
  m4 := by kernel_rfl }
def Tryd.laysCut_ren : Go.Shelf.Ren := ⟨fun | 145 => 23 | 220 => 36 | 219 => 49 | 217 => 57 | 225 => 58 | 224 => 59 | 267 => 60 | 266 => 69 | 314 => 70 | n => n, fun | 9 => 9 | 4 => 4 | 59 => 49 | 3 => 3 | 5 => 5 | 46 => 80 | 146 => 95 | 51 => 94 | n => n, fun | 1 => 1 | n => n⟩
theorem Tryd.laysCut : Go.Proofs.Lays.n145 Tryd.prog Tryd.laysCut_ren := {
  mixed := by kernel_rfl
  f145 := Tryd.func23.trans (congrArg some (by kernel_rfl))
  f217 := Tryd.func57.trans (congrArg some (by kernel_rfl))
  f219 := Tryd.func49.trans (congrArg some (by kernel_rfl))
  f220 := Tryd.func36.trans (congrArg some (by kernel_rfl))
  f224 := Tryd.func59.trans (congrArg some (by kernel_rfl))
  f225 := Tryd.func58.trans (congrArg some (by kernel_rfl))
  f266 := Tryd.func69.trans (congrArg some (by kernel_rfl))
  f267 := Tryd.func60.trans (congrArg some (by kernel_rfl))
  f314 := Tryd.func70.trans (congrArg some (by kernel_rfl))
  t3 := Tryd.underlying3
  a3 := Tryd.isAgg3
  z3 := Tryd.sizeOf3
  v3 := Tryd.zeroValue3
  t4 := Tryd.underlying4
  a4 := Tryd.isAgg4
  z4 := Tryd.sizeOf4
  v4 := Tryd.zeroValue4
  t5 := Tryd.underlying5
  a5 := Tryd.isAgg5
  z5 := Tryd.sizeOf5
  v5 := Tryd.zeroValue5
  t9 := Tryd.underlying9
  a9 := Tryd.isAgg9
  z9 := Tryd.sizeOf9
  v9 := Tryd.zeroValue9
  t46 := Tryd.underlying80
  a46 := Tryd.isAgg80
  z46 := Tryd.sizeOf80
  v46 := Tryd.zeroValue80
  t51 := Tryd.underlying94
  a51 := Tryd.isAgg94
  z51 := Tryd.sizeOf94
  v51 := Tryd.zeroValue94
  t59 := Tryd.underlying49
  a59 := Tryd.isAgg49
  z59 := Tryd.sizeOf49
  v59 := Tryd.zeroValue49
  t146 := Tryd.underlying95
  a146 := Tryd.isAgg95
  z146 := Tryd.sizeOf95
  v146 := Tryd.zeroValue95
  g1 := by kernel_rfl }
def Tryd.laysJoin_ren : Go.Shelf.Ren := ⟨fun | 156 => 28 | 165 => 42 | 166 => 43 | 169 => 44 | 240 => 53 | 241 => 54 | 276 => 67 | 277 => 68 | n => n, fun | 31 => 33 | 9 => 9 | 3 => 3 | 4 => 4 | 0 => 0 | 20 => 20 | 72 => 68 | 76 => 63 | 70 => 66 | 37 => 58 | 75 => 62 | 127 => 77 | 164 => 87 | 5 => 5 | 80 => 70 | n => n, fun | n => n⟩
theorem Tryd.laysJoin : Go.Proofs.Lays.n156 Tryd.prog Tryd.laysJoin_ren := {
  mixed := by kernel_rfl
  f156 := Tryd.func28.trans (congrArg some (by kernel_rfl))
  f165 := Tryd.func42.trans (congrArg some (by kernel_rfl))
  f166 := Tryd.func43.trans (congrArg some (by kernel_rfl))
  f169 := Tryd.func44.trans (congrArg some (by kernel_rfl))
  f240 := Tryd.func53.trans (congrArg some (by kernel_rfl))
  f241 := Tryd.func54.trans (congrArg some (by kernel_rfl))
  f276 := Tryd.func67.trans (congrArg some (by kernel_rfl))
  f277 := Tryd.func68.trans (congrArg some (by kernel_rfl))
  t0 := Tryd.underlying0
  a0 := Tryd.isAgg0
  z0 := Tryd.sizeOf0
  v0 := Tryd.zeroValue0
  t3 := Tryd.underlying3
  a3 := Tryd.isAgg3
  z3 := Tryd.sizeOf3
  v3 := Tryd.zeroValue3
  t4 := Tryd.underlying4
  a4 := Tryd.isAgg4
  z4 := Tryd.sizeOf4
  v4 := Tryd.zeroValue4
  t9 := Tryd.underlying9
  a9 := Tryd.isAgg9
  z9 := Tryd.sizeOf9
  v9 := Tryd.zeroValue9
  t20 := Tryd.underlying20
  a20 := Tryd.isAgg20
  z20 := Tryd.sizeOf20
  v20 := Tryd.zeroValue20
  t31 := Tryd.underlying33
  a31 := Tryd.isAgg33
  z31 := Tryd.sizeOf33
  v31 := Tryd.zeroValue33
  t37 := Tryd.underlying58
  a37 := Tryd.isAgg58
  z37 := Tryd.sizeOf58
  v37 := Tryd.zeroValue58
  t70 := Tryd.underlying66
  a70 := Tryd.isAgg66
  z70 := Tryd.sizeOf66
  v70 := Tryd.zeroValue66
  t72 := Tryd.underlying68
  a72 := Tryd.isAgg68
  z72 := Tryd.sizeOf68
  v72 := Tryd.zeroValue68
  t75 := Tryd.underlying62
  a75 := Tryd.isAgg62
  z75 := Tryd.sizeOf62
  v75 := Tryd.zeroValue62
  t76 := Tryd.underlying63
  a76 := Tryd.isAgg63
  z76 := Tryd.sizeOf63
  v76 := Tryd.zeroValue63
  t127 := Tryd.underlying77
  a127 := Tryd.isAgg77
  z127 := Tryd.sizeOf77
  v127 := Tryd.zeroValue77
  t164 := Tryd.underlying87
  a164 := Tryd.isAgg87
  z164 := Tryd.sizeOf87
  v164 := Tryd.zeroValue87 }
def Tryd.laysAtoi_ren : Go.Shelf.Ren := ⟨fun | 172 => 37 | 244 => 50 | 245 => 51 | 247 => 61 | 279 => 62 | 280 => 63 | 281 => 64 | 282 => 65 | 287 => 71 | 316 => 72 | 171 => 52 | 205 => 73 | 321 => 75 | 322 => 76 | 243 => 66 | 246 => 74 | 283 => 77 | 284 => 78 | 285 => 79 | 286 => 80 | 129 => 82 | 317 => 81 | 318 => 83 | 319 => 84 | 320 => 85 | 337 => 86 | 338 => 87 | n => n, fun | 9 => 9 | 3 => 3 | 75 => 62 | 76 => 63 | 4 => 4 | 5 => 5 | 167 => 81 | 37 => 58 | 0 => 0 | 85 => 82 | 2 => 2 | 168 => 84 | 53 => 97 | 175 => 98 | 46 => 80 | 210 => 102 | 127 => 77 | 145 => 108 | 143 => 106 | 21 => 21 | 171 => 109 | 173 => 112 | 212 => 115 | 51 => 94 | 20 => 20 | 213 => 116 | 232 => 119 | 233 => 120 | 80 => 70 | n => n, fun | 15 => 4 | 16 => 5 | 17 => 6 | 18 => 7 | 19 => 8 | n => n⟩
theorem Tryd.laysAtoi : Go.Proofs.LaysC.n172 Tryd.prog Tryd.laysAtoi_ren := {
  mixed := by kernel_rfl
  f129 := Tryd.func82.trans (congrArg some (by kernel_rfl))
  f171 := Tryd.func52.trans (congrArg some (by kernel_rfl))
  f172 := Tryd.func37.trans (congrArg some (by kernel_rfl))
  f205 := Tryd.func73.trans (congrArg some (by kernel_rfl))
  f243 := Tryd.func66.trans (congrArg some (by kernel_rfl))
  f244 := Tryd.func50.trans (congrArg some (by kernel_rfl))
  f245 := Tryd.func51.trans (congrArg some (by kernel_rfl))
  f246 := Tryd.func74.trans (congrArg some (by kernel_rfl))
  f247 := Tryd.func61.trans (congrArg some (by kernel_rfl))
  f279 := Tryd.func62.trans (congrArg some (by kernel_rfl))
  f280 := Tryd.func63.trans (congrArg some (by kernel_rfl))
  f281 := Tryd.func64.trans (congrArg some (by kernel_rfl))
  f282 := Tryd.func65.trans (congrArg some (by kernel_rfl))
  f283 := Tryd.func77.trans (congrArg some (by kernel_rfl))
  f284 := Tryd.func78.trans (congrArg some (by kernel_rfl))
  f285 := Tryd.func79.trans (congrArg some (by kernel_rfl))
  f286 := Tryd.func80.trans (congrArg some (by kernel_rfl))
  f287 := Tryd.func71.trans (congrArg some (by kernel_rfl))
  f316 := Tryd.func72.trans (congrArg some (by kernel_rfl))
  f317 := Tryd.func81.trans (congrArg some (by kernel_rfl))
  f318 := Tryd.func83.trans (congrArg some (by kernel_rfl))
  f319 := Tryd.func84.trans (congrArg some (by kernel_rfl))
  f320 := Tryd.func85.trans (congrArg some (by kernel_rfl))
  f321 := Tryd.func75.trans (congrArg some (by kernel_rfl))
  f322 := Tryd.func76.trans (congrArg some (by kernel_rfl))
  f337 := Tryd.func86.trans (congrArg some (by kernel_rfl))
  f338 := Tryd.func87.trans (congrArg some (by kernel_rfl))
  t0 := Tryd.underlying0
  a0 := Tryd.isAgg0
  z0 := Tryd.sizeOf0
  v0 := Tryd.zeroValue0
  t2 := Tryd.underlying2
  a2 := Tryd.isAgg2
  z2 := Tryd.sizeOf2
  v2 := Tryd.zeroValue2
  t3 := Tryd.underlying3
  a3 := Tryd.isAgg3
  z3 := Tryd.sizeOf3
  v3 := Tryd.zeroValue3
  t4 := Tryd.underlying4
  a4 := Tryd.isAgg4
  z4 := Tryd.sizeOf4
  v4 := Tryd.zeroValue4
  t5 := Tryd.underlying5
  a5 := Tryd.isAgg5
  z5 := Tryd.sizeOf5
  v5 := Tryd.zeroValue5
  t9 := Tryd.underlying9
  a9 := Tryd.isAgg9
  z9 := Tryd.sizeOf9
  v9 := Tryd.zeroValue9
  t20 := Tryd.underlying20
  a20 := Tryd.isAgg20
  z20 := Tryd.sizeOf20
  v20 := Tryd.zeroValue20
  t21 := Tryd.underlying21
  a21 := Tryd.isAgg21
  z21 := Tryd.sizeOf21
  v21 := Tryd.zeroValue21
  t37 := Tryd.underlying58
  a37 := Tryd.isAgg58
  z37 := Tryd.sizeOf58
  v37 := Tryd.zeroValue58
  t46 := Tryd.underlying80
  a46 := Tryd.isAgg80
  z46 := Tryd.sizeOf80
  v46 := Tryd.zeroValue80
  t51 := Tryd.underlying94
  a51 := Tryd.isAgg94
  z51 := Tryd.sizeOf94
  v51 := Tryd.zeroValue94
  t53 := Tryd.underlying97
  a53 := Tryd.isAgg97
  z53 := Tryd.sizeOf97
  v53 := Tryd.zeroValue97
  t75 := Tryd.underlying62
  a75 := Tryd.isAgg62
  z75 := Tryd.sizeOf62
  v75 := Tryd.zeroValue62
  t76 := Tryd.underlying63
  a76 := Tryd.isAgg63
  z76 := Tryd.sizeOf63
  v76 := Tryd.zeroValue63
  t85 := Tryd.underlying82
  a85 := Tryd.isAgg82
  z85 := Tryd.sizeOf82
  v85 := Tryd.zeroValue82
  t127 := Tryd.underlying77
  a127 := Tryd.isAgg77
  z127 := Tryd.sizeOf77
  v127 := Tryd.zeroValue77
  t143 := Tryd.underlying106
  a143 := Tryd.isAgg106
  z143 := Tryd.sizeOf106
  v143 := Tryd.zeroValue106
  t145 := Tryd.underlying108
  a145 := Tryd.isAgg108
  z145 := Tryd.sizeOf108
  v145 := Tryd.zeroValue108
  t167 := Tryd.underlying81
  a167 := Tryd.isAgg81
  z167 := Tryd.sizeOf81
  v167 := Tryd.zeroValue81
  t168 := Tryd.underlying84
  a168 := Tryd.isAgg84
  z168 := Tryd.sizeOf84
  v168 := Tryd.zeroValue84
  t171 := Tryd.underlying109
  a171 := Tryd.isAgg109
  z171 := Tryd.sizeOf109
  v171 := Tryd.zeroValue109
  t173 := Tryd.underlying112
  a173 := Tryd.isAgg112
  z173 := Tryd.sizeOf112
  v173 := Tryd.zeroValue112
  t175 := Tryd.underlying98
  a175 := Tryd.isAgg98
  z175 := Tryd.sizeOf98
  v175 := Tryd.zeroValue98
  t210 := Tryd.underlying102
  a210 := Tryd.isAgg102
  z210 := Tryd.sizeOf102
  v210 := Tryd.zeroValue102
  t212 := Tryd.underlying115
  a212 := Tryd.isAgg115
  z212 := Tryd.sizeOf115
  v212 := Tryd.zeroValue115
  t213 := Tryd.underlying116
  a213 := Tryd.isAgg116
  z213 := Tryd.sizeOf116
  t232 := Tryd.underlying119
  a232 := Tryd.isAgg119
  z232 := Tryd.sizeOf119
  v232 := Tryd.zeroValue119
  t233 := Tryd.underlying120
  a233 := Tryd.isAgg120
  z233 := Tryd.sizeOf120
  v233 := Tryd.zeroValue120
  g15 := by kernel_rfl
  g16 := by kernel_rfl
  g17 := by kernel_rfl
  g18 := by kernel_rfl
  g19 := by kernel_rfl
  t80 := Tryd.underlying70
  a80 := Tryd.isAgg70
  z80 := Tryd.sizeOf70
  v80 := Tryd.zeroValue70
  i0 := by kernel_rfl
  i2 := by kernel_rfl
  i3 := by kernel_rfl
  i4 := by kernel_rfl
  i5 := by kernel_rfl
  i9 := by kernel_rfl
  i20 := by kernel_rfl
  i21 := by kernel_rfl
  i37 := by kernel_rfl
  i46 := by kernel_rfl
  i51 := by kernel_rfl
  i53 := by kernel_rfl
  i75 := by kernel_rfl
  i76 := by kernel_rfl
  i80 := by kernel_rfl
  i85 := by kernel_rfl
  i127 := by kernel_rfl
  i143 := by kernel_rfl
  i145 := by kernel_rfl
  i167 := by kernel_rfl
  i168 := by kernel_rfl
  i171 := by kernel_rfl
  i173 := by kernel_rfl
  i175 := by kernel_rfl
  i210 := by kernel_rfl
  i212 := by kernel_rfl
  i232 := by kernel_rfl
  i233 := by kernel_rfl
  m15 := by kernel_rfl
  m16 := by kernel_rfl
  m17 := by kernel_rfl
  m18 := by kernel_rfl
  m19 := by kernel_rfl
  c0 := by kernel_rfl
  c2 := by kernel_rfl
  c3 := by kernel_rfl
  c4 := by kernel_rfl
  c5 := by kernel_rfl
  c9 := by kernel_rfl
  c20 := by kernel_rfl
  c21 := by kernel_rfl
  c37 := by kernel_rfl
  c46 := by kernel_rfl
  c51 := by kernel_rfl
  c53 := by kernel_rfl
  c75 := by kernel_rfl
  c76 := by kernel_rfl
  c80 := by kernel_rfl
  c85 := by kernel_rfl
  c127 := by kernel_rfl
  c143 := by kernel_rfl
  c145 := by kernel_rfl
  c167 := by kernel_rfl
  c168 := by kernel_rfl
  c171 := by kernel_rfl
  c173 := by kernel_rfl
  c175 := by kernel_rfl
  c210 := by kernel_rfl
  c212 := by kernel_rfl
  c213 := by kernel_rfl
  c232 := by kernel_rfl
  c233 := by kernel_rfl }
def Tryd.laysMax_ren : Go.Shelf.Ren := ⟨fun | 219 => 49 | 217 => 57 | 225 => 58 | 224 => 59 | 267 => 60 | 266 => 69 | 314 => 70 | n => n, fun | 9 => 9 | 3 => 3 | 4 => 4 | 5 => 5 | 46 => 80 | 146 => 95 | 51 => 94 | n => n, fun | 1 => 1 | n => n⟩
theorem Tryd.laysMax : Go.Proofs.LaysM.n219 Tryd.prog Tryd.laysMax_ren := {
  mixed := by kernel_rfl
  f217 := Tryd.func57.trans (congrArg some (by kernel_rfl))
  f219 := Tryd.func49.trans (congrArg some (by kernel_rfl))
  f224 := Tryd.func59.trans (congrArg some (by kernel_rfl))
  f225 := Tryd.func58.trans (congrArg some (by kernel_rfl))
  f266 := Tryd.func69.trans (congrArg some (by kernel_rfl))
  f267 := Tryd.func60.trans (congrArg some (by kernel_rfl))
  f314 := Tryd.func70.trans (congrArg some (by kernel_rfl))
  t3 := Tryd.underlying3
  a3 := Tryd.isAgg3
  z3 := Tryd.sizeOf3
  v3 := Tryd.zeroValue3
  t4 := Tryd.underlying4
  a4 := Tryd.isAgg4
  z4 := Tryd.sizeOf4
  v4 := Tryd.zeroValue4
  t5 := Tryd.underlying5
  a5 := Tryd.isAgg5
  z5 := Tryd.sizeOf5
  v5 := Tryd.zeroValue5
  t9 := Tryd.underlying9
  a9 := Tryd.isAgg9
  z9 := Tryd.sizeOf9
  v9 := Tryd.zeroValue9
  t46 := Tryd.underlying80
  a46 := Tryd.isAgg80
  z46 := Tryd.sizeOf80
  v46 := Tryd.zeroValue80
  t51 := Tryd.underlying94
  a51 := Tryd.isAgg94
  z51 := Tryd.sizeOf94
  v51 := Tryd.zeroValue94
  t146 := Tryd.underlying95
  a146 := Tryd.isAgg95
  z146 := Tryd.sizeOf95
  v146 := Tryd.zeroValue95
  g1 := by kernel_rfl
  i3 := by kernel_rfl
  i4 := by kernel_rfl
  i5 := by kernel_rfl
  i9 := by kernel_rfl
  i46 := by kernel_rfl
  i51 := by kernel_rfl
  i146 := by kernel_rfl
  m1 := by kernel_rfl
  s1_3 := fun w h => Go.Proofs.cell_of_shapedOpen_int (zero := #[.int .i64 0]) (t := 3) h (of_decide_eq_true (by kernel_rfl)) (by kernel_rfl) rfl (by kernel_rfl) (by kernel_rfl) Tryd.underlying3 }
def Tryd.laysItoa_ren : Go.Shelf.Ren := ⟨fun | 171 => 52 | 243 => 66 | 246 => 74 | 283 => 77 | 284 => 78 | 285 => 79 | 286 => 80 | 129 => 82 | 317 => 81 | 318 => 83 | 319 => 84 | 320 => 85 | 337 => 86 | 338 => 87 | n => n, fun | 3 => 3 | 9 => 9 | 2 => 2 | 4 => 4 | 171 => 109 | 0 => 0 | 53 => 97 | 37 => 58 | 5 => 5 | 173 => 112 | 212 => 115 | 51 => 94 | 20 => 20 | 213 => 116 | 46 => 80 | 232 => 119 | 233 => 120 | n => n, fun | 17 => 6 | 18 => 7 | 19 => 8 | n => n⟩
theorem Tryd.laysItoa : Go.Proofs.LaysM.n171 Tryd.prog Tryd.laysItoa_ren := {
  mixed := by kernel_rfl
  f129 := Tryd.func82.trans (congrArg some (by kernel_rfl))
  f171 := Tryd.func52.trans (congrArg some (by kernel_rfl))
  f243 := Tryd.func66.trans (congrArg some (by kernel_rfl))
  f246 := Tryd.func74.trans (congrArg some (by kernel_rfl))
  f283 := Tryd.func77.trans (congrArg some (by kernel_rfl))
  f284 := Tryd.func78.trans (congrArg some (by kernel_rfl))
  f285 := Tryd.func79.trans (congrArg some (by kernel_rfl))
  f286 := Tryd.func80.trans (congrArg some (by kernel_rfl))
  f317 := Tryd.func81.trans (congrArg some (by kernel_rfl))
  f318 := Tryd.func83.trans (congrArg some (by kernel_rfl))
  f319 := Tryd.func84.trans (congrArg some (by kernel_rfl))
  f320 := Tryd.func85.trans (congrArg some (by kernel_rfl))
  f337 := Tryd.func86.trans (congrArg some (by kernel_rfl))
  f338 := Tryd.func87.trans (congrArg some (by kernel_rfl))
  t0 := Tryd.underlying0
  a0 := Tryd.isAgg0
  z0 := Tryd.sizeOf0
  v0 := Tryd.zeroValue0
  t2 := Tryd.underlying2
  a2 := Tryd.isAgg2
  z2 := Tryd.sizeOf2
  v2 := Tryd.zeroValue2
  t3 := Tryd.underlying3
  a3 := Tryd.isAgg3
  z3 := Tryd.sizeOf3
  v3 := Tryd.zeroValue3
  t4 := Tryd.underlying4
  a4 := Tryd.isAgg4
  z4 := Tryd.sizeOf4
  v4 := Tryd.zeroValue4
  t5 := Tryd.underlying5
  a5 := Tryd.isAgg5
  z5 := Tryd.sizeOf5
  v5 := Tryd.zeroValue5
  t9 := Tryd.underlying9
  a9 := Tryd.isAgg9
  z9 := Tryd.sizeOf9
  v9 := Tryd.zeroValue9
  t20 := Tryd.underlying20
  a20 := Tryd.isAgg20
  z20 := Tryd.sizeOf20
  v20 := Tryd.zeroValue20
  t37 := Tryd.underlying58
  a37 := Tryd.isAgg58
  z37 := Tryd.sizeOf58
  v37 := Tryd.zeroValue58
  t46 := Tryd.underlying80
  a46 := Tryd.isAgg80
  z46 := Tryd.sizeOf80
  v46 := Tryd.zeroValue80
  t51 := Tryd.underlying94
  a51 := Tryd.isAgg94
  z51 := Tryd.sizeOf94
  v51 := Tryd.zeroValue94
  t53 := Tryd.underlying97
  a53 := Tryd.isAgg97
  z53 := Tryd.sizeOf97
  v53 := Tryd.zeroValue97
  t171 := Tryd.underlying109
  a171 := Tryd.isAgg109
  z171 := Tryd.sizeOf109
  v171 := Tryd.zeroValue109
  t173 := Tryd.underlying112
  a173 := Tryd.isAgg112
  z173 := Tryd.sizeOf112
  v173 := Tryd.zeroValue112
  t212 := Tryd.underlying115
  a212 := Tryd.isAgg115
  z212 := Tryd.sizeOf115
  v212 := Tryd.zeroValue115
  t213 := Tryd.underlying116
  a213 := Tryd.isAgg116
  z213 := Tryd.sizeOf116
  t232 := Tryd.underlying119
  a232 := Tryd.isAgg119
  z232 := Tryd.sizeOf119
  v232 := Tryd.zeroValue119
  t233 := Tryd.underlying120
  a233 := Tryd.isAgg120
  z233 := Tryd.sizeOf120
  v233 := Tryd.zeroValue120
  g17 := by kernel_rfl
  g18 := by kernel_rfl
  g19 := by kernel_rfl
  i0 := by kernel_rfl
  i2 := by kernel_rfl
  i3 := by kernel_rfl
  i4 := by kernel_rfl
  i5 := by kernel_rfl
  i9 := by kernel_rfl
  i20 := by kernel_rfl
  i37 := by kernel_rfl
  i46 := by kernel_rfl
  i51 := by kernel_rfl
  i53 := by kernel_rfl
  i171 := by kernel_rfl
  i173 := by kernel_rfl
  i212 := by kernel_rfl
  i232 := by kernel_rfl
  i233 := by kernel_rfl
  m17 := by kernel_rfl
  m18 := by kernel_rfl
  m19 := by kernel_rfl }
theorem Tryd.extraJoin : Builder.Extra Tryd.prog Tryd.laysJoin_ren := {
  sizeBuilder := by kernel_rfl
  liesBuilder := by kernel_rfl
  t5 := Tryd.underlying5
  a5 := Tryd.isAgg5
  z5 := Tryd.sizeOf5
  v5 := Tryd.zeroValue5
  infoByte := by kernel_rfl
  cellsByte := by kernel_rfl
  sizeByte := by kernel_rfl
  neB5 := by decide }
end Go.Proofs
/- The package variables that the program reads, as facts on a world. No statement of the seat is proved here. -/
namespace Go.Proofs.YtpneepiboheldaaDoor
open Go.RowKit Go.Sort
set_option linter.unusedVariables false

/-- the names, as the program's text lays them -/
def featL : List (List UInt8) := [[110, 97, 109, 101], [116, 111, 107, 101, 110, 115], [115, 111, 117, 110, 100], [99, 105, 116, 121], [121, 101, 97, 114], [112, 104, 111, 110, 101]]
def featName : String := "loop.example/g01923/impl.featureNames"
structure GTab (w : World) : Prop where
  feat : w.var? Tryd.prog featName = some (featL.map fun s => Value.string ⟨s.toArray⟩).toArray
  pow : Lib.TabIs Tryd.prog w "internal/strconv.uint64pow10" .u64 Lib.pow10Tab
  eS : ∃ t p, w.var? Tryd.prog "strconv.ErrSyntax" = some #[.iface t p]
  eR : ∃ t p, w.var? Tryd.prog "strconv.ErrRange" = some #[.iface t p]
  mx : ∃ m, w.cell? ⟨1, 0, none⟩ = some (.int .i64 m)
theorem var_fr {P : Program} {w w' : World} {n : String} {cs : Array Value} (h : w.var? P n = some cs) (hf : Fr w w') : w'.var? P n = some cs := by
  unfold World.var? at *
  cases hg : P.globalNamed n with
  | none => rw [hg] at h; cases h
  | some g =>
    rw [hg] at h
    simp only [Option.bind_some] at h ⊢
    have hlt : g < w.heap.size := by
      rcases Nat.lt_or_ge g w.heap.size with hlt | hge
      · exact hlt
      · rw [Array.getElem?_eq_none hge] at h
        cases h
    rw [hf.block g hlt]
    exact h
theorem GTab.fr {w w' : World} (h : GTab w) (hf : Fr w w') : GTab w' where
  feat := var_fr h.feat hf
  pow := var_fr h.pow hf
  eS := let ⟨t, p, e⟩ := h.eS; ⟨t, p, var_fr e hf⟩
  eR := let ⟨t, p, e⟩ := h.eR; ⟨t, p, var_fr e hf⟩
  mx := let ⟨m, e⟩ := h.mx; ⟨m, (hf.cell (p := ⟨1, 0, none⟩) (cell_lt' e)).trans e⟩
theorem var_cell {P : Program} {w : World} {n : String} {cs : Array Value} {g : Nat} (h : w.var? P n = some cs) (hg : P.globalNamed n = some g) {i : Nat} {v : Value} (hi : cs[i]? = some v) : w.cell? ⟨g, i, none⟩ = some v := by
  have := World.var?_cell hg h i
  rw [this, hi]
section
variable {P : Program} {R : Reg} {w : World} {d : Option Nat} {t : TypeId} {p : String} {af : Array Edge} {g : Option (Nat × Bool)}
theorem of_indexAddr_g {T e n gb : Nat} {ix : Operand} {k : IntKind} {i : Int} (hi : evalR R ix = .int k i) (hu : P.underlying T = some (.array n e)) (hsz : ∀ w, (sizeOf e).run P w = .ok 1 w) (hr : inR i n = true) :
    OpF P ⟨d, .indexAddr T (.global gb) ix, t, p, af, g⟩ R w (.raw (.pointer (some ⟨gb, i.toNat, none⟩))) := by
  obtain ⟨i0, i1⟩ := inR_iff.1 hr
  refine opr_val (v := .pointer (some ⟨gb, i.toNat, none⟩)) (w' := w) ?_ ⟨rfl, Fr.refl _⟩
  have hadd : ∀ j, (⟨gb, 0, none⟩ : Addr).add j = ⟨gb, j, none⟩ := fun j => by
    unfold Addr.add
    split
    · rename_i h; subst h; rfl
    · simp
  have hg' : evalR R (.global gb) = .pointer (some ⟨gb, 0, none⟩) := rfl
  simp [execOp, Instr.indexAt, Instr.sureAddr, hg', hi, asIntOf, underlying, hu, i0, i1, hsz, hadd]
end
end Go.Proofs.YtpneepiboheldaaDoor
/- How an argument of a law reads: relations between the cells of a value and plain Lean data, and their proofs off the form's own reading. No statement of the seat is proved here. -/
namespace Go.Proofs.YtpneepiboheldaaDoor
open Go.RowKit Go.ChangeShapes Go.WideShapes Go.Deep

/-- 'R w B x cs': in w the cells cs hold x, all that they lead to lies below block B -/
abbrev Rel (α : Type) := World → Nat → α → List Value → Prop
def strR : Rel ByteArray := fun _ _ s cs => cs = [.string s] ∧ s.size ≤ maxLen
section
variable {P : Program}
end
end Go.Proofs.YtpneepiboheldaaDoor
/- From the row's list of package variables to the tables that the walk reads. No statement of the seat is proved here. -/
namespace Go.Proofs.YtpneepiboheldaaDoor
open Go.RowKit
set_option linter.unusedVariables false

theorem strs_of_tab {H : Type} {enc : TypeId × Value → H} {P : Program} {w : World} {base : Nat} {sp : Nat → Bool} {held : Bool} {fuel : Nat} {t e : TypeId} {n : Nat} {cs : List Value} {ss : List (List UInt8)} {p : List MemPlace}
    (ht : P.underlying t = some (.array n e)) (he : P.underlying e = some .string) (hce : P.cellsOf e = 1) (hct : P.cellsOf t = n)
    (h : DataW.trod enc P w base sp held fuel t cs = some (.agg (ss.map fun s => (.lit (.string s) : DataW H)), p)) : cs = ss.map fun s => Value.string ⟨s.toArray⟩ := by
  cases fuel with
  | zero => simp [DataW.trod] at h
  | succ fuel =>
    simp only [DataW.trod, ht, hce, hct, Nat.mul_one] at h
    split at h
    · rename_i hl
      obtain ⟨xs, hm, hx⟩ := Option.map_eq_some_iff.1 h
      have hxs : xs.map (·.1) = ss.map fun s => (DataW.lit (.string s) : DataW H) := by
        have := congrArg Prod.fst hx
        simpa using this
      have hxl : xs.length = n := by simpa using Lib.mapM_length hm
      have hzl : ss.length = n := by
        have := congrArg List.length hxs
        simp at this
        omega
      apply List.ext_getElem?
      intro i
      by_cases hi : i < n
      · obtain ⟨b, hb, hf⟩ := Lib.mapM_at hm i i (by simp [hi])
        obtain ⟨s, hc, rfl, _⟩ := DataW.trod_string he hf
        have h1 : cs[i]? = some (.string s) := by
          have := congrArg (·[0]?) hc
          simpa [List.getElem?_take, List.getElem?_drop] using this
        have h2 : (xs.map (·.1))[i]? = some (DataW.lit (.string s.data.toList) : DataW H) := by simp [hb]
        rw [hxs] at h2
        simp only [List.getElem?_map, Option.map_eq_some_iff, DataW.lit.injEq, Lit.string.injEq] at h2
        obtain ⟨z, hz, rfl⟩ := h2
        simp only [h1, List.getElem?_map, hz, Option.map_some]
      · rw [List.getElem?_eq_none (by omega), List.getElem?_eq_none (by simp; omega)]
    · cases h
theorem laidVar_at {P : Program} {w : World} : ∀ (l : List (String × DataW Unit)) (ps : List MemPlace), DataW.LaidVars P w l ps → ∀ (i : Nat) n d, l[i]? = some (n, d) →
    ∃ g t cs fuel p, P.globalNamed n = some g ∧ (P.globals[g]?).map (·.type) = some t ∧ w.var? P n = some cs ∧ DataW.trod (fun _ => ()) P w 0 (fun _ => true) false fuel t cs.toList = some (d, p)
  | [], _, _, i, n, d, hi => by simp at hi
  | (n', d') :: r, ps, h, 0, n, d, hi => by
    obtain ⟨g, t, cs, fuel, p, q, h1, h2, h3, h4, _, _⟩ := h
    simp only [List.getElem?_cons_zero, Option.some.injEq, Prod.mk.injEq] at hi
    obtain ⟨rfl, rfl⟩ := hi
    exact ⟨g, t, cs, fuel, p, h1, h2, h3, h4⟩
  | (n', d') :: r, ps, h, i + 1, n, d, hi => by
    obtain ⟨g, t, cs, fuel, p, q, _, _, _, _, h5, _⟩ := h
    exact laidVar_at r q h5 i n d (by simpa using hi)
theorem drop_laid {P : Program} {W : World} : ∀ (i : Nat) (l : List (String × DataW Unit)), laidMet P l W → laidMet P (l.drop i) W
  | 0, l, h => h
  | i + 1, [], h => h
  | i + 1, x :: l, h => drop_laid i l h.tail
theorem drop_at {α : Type} : ∀ (i : Nat) (l : List α) (x : α), l[i]? = some x → ∃ r, l.drop i = x :: r
  | 0, y :: l, x, h => by simp at h; subst h; exact ⟨l, rfl⟩
  | i + 1, y :: l, x, h => drop_at i l x (by simpa using h)
  | 0, [], x, h => by simp at h
  | i + 1, [], x, h => by simp at h
theorem gFeat' : Tryd.prog.globalNamed featName = some 0 := by kernel_rfl
theorem tFeatG : (Tryd.prog.globals[0]?).map (·.type) = some 52 := by kernel_rfl
theorem cFeatG : Tryd.prog.cellsOf 52 = 6 := by kernel_rfl
theorem cStrG : Tryd.prog.cellsOf 9 = 1 := by kernel_rfl
theorem gPowG : Tryd.prog.globalNamed "internal/strconv.uint64pow10" = some 6 := by kernel_rfl
theorem tPowG : (Tryd.prog.globals[6]?).map (·.type) = some 115 := by kernel_rfl
theorem cPowG : Tryd.prog.cellsOf 115 = 20 := by kernel_rfl
theorem cU64G : Tryd.prog.cellsOf 97 = 1 := by kernel_rfl
theorem gESG : Tryd.prog.globalNamed "strconv.ErrSyntax" = some 4 := by kernel_rfl
theorem gERG : Tryd.prog.globalNamed "strconv.ErrRange" = some 5 := by kernel_rfl
theorem tESG : (Tryd.prog.globals[4]?).map (·.type) = some 62 := by kernel_rfl
theorem tERG : (Tryd.prog.globals[5]?).map (·.type) = some 62 := by kernel_rfl
theorem starG : "*" ++ "errors.errorString" = "*errors.errorString" := by decide
theorem rowErrG (u : TypeId) (h : Tryd.prog.typeName? 3 u = some "*errors.errorString") : u = 106 :=
  typeName_ptr_named (nm := "errors.errorString") (by rw [starG]; kernel_rfl) (by kernel_rfl) (by decide) u (by rw [starG]; exact h)
theorem cErrG : Tryd.prog.cellsOf 108 = 1 := by kernel_rfl
theorem err_of {l : List (String × DataW Unit)} {W : World} {n : String} {g : Nat} {text : List UInt8} (h : laidMet Tryd.prog l W) (i : Nat) (hi : l[i]? = some (n, .iface "*errors.errorString" (.ptr (.agg [.lit (.string text)])))) (hg : Tryd.prog.globalNamed n = some g) (ht : (Tryd.prog.globals[g]?).map (·.type) = some 62) : ∃ t p, W.var? Tryd.prog n = some #[.iface t p] := by
  obtain ⟨r, hr⟩ := drop_at i l _ hi
  have h2 := hr ▸ drop_laid i l h
  obtain ⟨a, s, hv, _⟩ := laid_sentinel h2 hg ht Tryd.underlying62 rowErrG Tryd.underlying106 Tryd.underlying108 rfl rfl Tryd.underlying9 cErrG cStrG
  exact ⟨_, _, hv⟩
theorem gtab_of {l : List (String × DataW Unit)} {W : World} (h : laidMet Tryd.prog l W) (hSh : W.ShapedOpen Tryd.prog) (i j k q : Nat) (h1 : l[i]? = some (featName, .agg (featL.map fun s => .lit (.string s)))) (h2 : l[j]? = some ("internal/strconv.uint64pow10", Lib.tabData .u64 Lib.pow10Tab))
    (h3 : l[k]? = some ("strconv.ErrSyntax", .iface "*errors.errorString" (.ptr (.agg [.lit (.string [105, 110, 118, 97, 108, 105, 100, 32, 115, 121, 110, 116, 97, 120])])))) (h4 : l[q]? = some ("strconv.ErrRange", .iface "*errors.errorString" (.ptr (.agg [.lit (.string [118, 97, 108, 117, 101, 32, 111, 117, 116, 32, 111, 102, 32, 114, 97, 110, 103, 101])])))) : GTab W := by
  have h0 := h
  obtain ⟨ps, hl, _⟩ := h
  exact {
    feat := by
      obtain ⟨g, t, cs, fuel, p, hg, ht, hv, hd⟩ := laidVar_at l ps hl i _ _ h1
      obtain rfl := Option.some.inj (gFeat'.symm.trans hg)
      obtain rfl := Option.some.inj (tFeatG.symm.trans ht)
      rw [hv, ← strs_of_tab Tryd.underlying52 Tryd.underlying9 cStrG cFeatG hd]
    pow := by
      obtain ⟨g, t, cs, fuel, p, hg, ht, hv, hd⟩ := laidVar_at l ps hl j _ _ h2
      obtain rfl := Option.some.inj (gPowG.symm.trans hg)
      obtain rfl := Option.some.inj (tPowG.symm.trans ht)
      unfold Lib.TabIs
      rw [hv, ← Lib.cells_of_tab Tryd.underlying115 Tryd.underlying97 cU64G cPowG hd]
    eS := err_of h0 k h3 gESG tESG
    eR := err_of h0 q h4 gERG tERG
    mx := Tryd.laysMax.s1_3 W hSh
  }
end Go.Proofs.YtpneepiboheldaaDoor
/- Closed facts on the program that every frame of a law over the table takes. -/
namespace Go.Proofs.YtpneepiboheldaaDoor
open Go.RowKit
theorem own : ownKnob Tryd.prog.godebug = none := by kernel_rfl
theorem enters : Tryd.pinned.checked.prog.mayEnter = true := by kernel_rfl
theorem liftsNo : Tryd.pinned.checked.prog.liftsFinal = false := by kernel_rfl
theorem heardT : Tryd.pinned.checked.prog.stopsHeard = true := by kernel_rfl
theorem laidOut : laidOutB Tryd.prog = true := by kernel_rfl
end Go.Proofs.YtpneepiboheldaaDoor
/- From the relations of a law's arguments (Rep) to the readings of printed proofs (Enc), with what the relation says of the numbers. No statement of the seat is proved here. -/
namespace Go.Proofs.YtpneepiboheldaaDoor
open Go.RowKit
set_option linter.unusedVariables false

/-- cells that R reads as x, E reads as f x, and Q holds of f x -/
structure Br {α β : Type} (R : Rel α) (E : Enc β) (f : α → β) (Q : β → Prop) : Prop where
  get : ∀ {w : World} {x : α} {cs : List Value}, R w w.heap.size x cs → E.rep av0 w (f x) cs ∧ Q (f x)
def qB (s : List UInt8) : Prop := s.length ≤ maxLen
theorem br_str : Br strR eStr (fun s => s.data.toList) qB := Br.mk fun {w x cs} h => ⟨⟨x, h.1, rfl, h.2⟩, by
  unfold qB
  rw [Array.length_toList]
  exact h.2⟩
/-- a law's argument: a struct -/
theorem Br.st {α β : Type} {R : Rel α} {E : Enc β} {f : α → β} {Q : β → Prop} (h : Br R E f Q) (ha : E.agg = true) {w : World} {x : α} {cs : List Value} (hr : R w w.heap.size x cs) : Rep E av0 w (.agg cs.toArray) (f x) :=
  ⟨cs, by unfold Enc.val; rw [if_pos ha], (h.get hr).1⟩
/-- a law's argument: one cell -/
theorem Br.cell {α β : Type} {R : Rel α} {E : Enc β} {f : α → β} {Q : β → Prop} (h : Br R E f Q) (ha : E.agg = false) {w : World} {x : α} {v : Value} (hr : R w w.heap.size x [v]) : Rep E av0 w v (f x) :=
  ⟨[v], by unfold Enc.val; rw [ha]; rfl, (h.get hr).1⟩
theorem av0_ok (w : World) : AvOK av0 w := fun _ _ h => h.elim
theorem law_of {P : Program} {fn : FuncId} {args : Array Value} {w : World} (h : Calls P fn args w fun e w' => ∃ v, e = .returned v ∧ (v = .bool true ∧ Fr w w')) : Calls P fn args w fun e w' => e = .returned (.bool true) ∧ Below w.heap.size w w' :=
  h.mono fun e w' ⟨v, he, hv, hf⟩ => ⟨by rw [he, hv], hf.toBelow⟩
end Go.Proofs.YtpneepiboheldaaDoor
/- Regions in the text's order, cut into parts: single operations that may do whatever to the objects, and runs of operations as before. No statement of the seat is proved here. -/
namespace Go.Proofs.YtpneepiboheldaaDoor
open Go.RowKit
set_option linter.unusedVariables false

/-- the operations from k on, one after another -/
def SG (P : Program) (n : Nat) (ops : List Oper) (k : Nat) (R : Reg) (w : World) (Q : Exit → Reg → World → Prop) : Prop :=
  ∀ a : Act, Pl n a → regs a = R → wpOps P ops.toArray (PQ n Q) (List.range' k (ops.length - k)) a w
section
variable {P : Program} {n : Nat} {ops : List Oper} {k : Nat} {R : Reg} {w : World} {Q : Exit → Reg → World → Prop}
theorem SG.of {id : Nat} (h : SG P n ops 0 R w Q) : HT P n (.region id ops.toArray false) R w Q := fun a hpl hR => by
  refine wp_region ?_
  have := h a hpl hR
  rw [Nat.sub_zero] at this
  rw [List.range_eq_range']
  simpa using this
theorem SG.fin (hk : ops.length = k) (h : Q .normal R w) : SG P n ops k R w Q := fun a hpl hR => by
  rw [hk, Nat.sub_self]
  simp only [List.range'_zero, wpOps]
  exact ⟨hpl, hR ▸ h⟩
theorem SG.step {o : Oper} (ho : ops[k]? = some o) (hg : o.guard = none) (hd : ∀ d, o.dst = some d → d < n) (h : OpR P o R w fun v w' => SG P n ops (k + 1) (updO R o.dst v) w' Q) : SG P n ops k R w Q := fun a hpl hR => by
  have hk : k < ops.length := (List.getElem?_eq_some_iff.1 ho).1
  rw [show ops.length - k = (ops.length - (k + 1)) + 1 by omega, List.range'_succ, wpOps_cons]
  rw [← hR] at h
  refine opwp_of_opr hg h (fun v w' hs => ?_) k (by simpa using ho)
  refine hs _ ⟨by rw [put_defers']; exact hpl.1, by rw [put_size]; exact hpl.2⟩ ?_
  exact regs_put _ _ _ fun d hdd => Nat.lt_of_lt_of_le (hd d hdd) hpl.2
/-- one operation with a register -/
theorem SG.op {o : Oper} (d : Nat) (ho : ops[k]? = some o) (hg : o.guard = none) (hd : o.dst = some d) (hn : Nat.blt d n = true) {K : Value → World → Prop} (h : OpR P o R w K)
    (hk : ∀ v w', K v w' → ∀ R', (∀ t, Nat.beq t d = false → R' t = R t) → R' d = v → SG P n ops (k + 1) R' w' Q) : SG P n ops k R w Q := by
  refine SG.step ho hg (fun d' h' => ?_) (h.mono fun v w' hv => ?_)
  · rw [hd] at h'
    injection h' with h'
    subst h'
    simpa using hn
  · rw [hd]
    refine hk v w' hv _ (fun t ht => ?_) (upd_same _ _ _)
    show (bif Nat.beq t d then v else R t) = R t
    rw [ht]
    rfl
/-- what stands of the operations before k -/
def Past (A : Av) (R : Reg) (w : World) : Nat → List EntR → Prop
  | 0, _ => True
  | _ + 1, [] => True
  | k + 1, x :: l => (x.g = true ∧ x.con = [] ∧ x.res = none ∧ (match x.o.dst with | some d => (x.f A).ok (R d) w | none => True)) ∧ Past A R w k l
theorem Past.at {A : Av} : ∀ (l : List EntR) (k : Nat), Past A R w k l → ∀ (i : Nat) x, i < k → l[i]? = some x → x.g = true ∧ x.con = [] ∧ x.res = none ∧ ∀ d, x.o.dst = some d → (x.f A).ok (R d) w
  | [], k, _, i, x, _, hx => by simp at hx
  | y :: l, 0, _, i, x, hi, _ => by omega
  | y :: l, k + 1, h, 0, x, _, hx => by
    simp only [List.getElem?_cons_zero, Option.some.injEq] at hx
    subst hx
    obtain ⟨⟨h1, h2, h3, h4⟩, _⟩ := h
    refine ⟨h1, h2, h3, fun d hd => ?_⟩
    rw [hd] at h4
    exact h4
  | y :: l, k + 1, h, i + 1, x, hi, hx => Past.at l k h.2 i x (by omega) (by simpa using hx)
theorem SG.textR {A : Av} {rest : List Oper} (ini : List Ob) (l : List EntR) (k' : Nat) (hops : ops = l.map (·.o) ++ rest) (hk' : l.length = k') (hkk : Nat.ble k k' = true) (hb : backFrom 0 (l.map (·.o)) = true) (hs : dstOK n (l.map (·.o)) = true) (hw : Wf ini l) (hi : IniOK ini A w) (hA : AvOK A w)
    (hp : Past A R w k l) (ho : OblsR P ini l A R w k (l.drop k)) (ha : AfterR ini l A R w (fun R w => SG P n ops k' R w Q)) : SG P n ops k R w Q := fun a hpl hR => by
  have hkk : k ≤ k' := Nat.le_of_ble_eq_true hkk
  have hlen : ops.length = k' + rest.length := by rw [hops, List.length_append, List.length_map, hk']
  have hopl : ∀ (i : Nat) x, l[i]? = some x → ops.toArray[i]? = some x.o := fun i x hx => by
    have hlt := (List.getElem?_eq_some_iff.1 hx).1
    rw [List.getElem?_toArray, hops, List.getElem?_append_left (by rw [List.length_map]; exact hlt), List.getElem?_map, hx]
    rfl
  have hmap : ∀ (i : Nat) x, l[i]? = some x → (l.map (·.o))[i]? = some x.o := fun i x hx => by
    rw [List.getElem?_map, hx]
    rfl
  have hobl : ∀ (i : Nat) x, k ≤ i → l[i]? = some x → OblR P ini l A R w i x := fun i x hki hx => by
    have := OblsR.at (l.drop k) k ho (i - k) x (by rw [List.getElem?_drop, show k + (i - k) = i by omega]; exact hx)
    rwa [show k + (i - k) = i by omega] at this
  have key : ∀ m j, m + j = l.length → k ≤ j → ∀ (a : Act) (ρ : Nat → Value) (σ : Nat → Nat → Prop) (A' : Av) (w' : World), Pl n a → InvR ini l A R w (fun i => Nat.blt i j) ρ σ A' (regs a) w' →
      wpOps P ops.toArray (PQ n Q) (List.range' j (ops.length - j)) a w' := by
    intro m
    induction m with
    | zero =>
      intro j hj hkj a ρ σ A' w' hpl hI
      have := ha _ ρ σ A' _ _ (fun i hi => by simpa using (by omega : i < j)) hI a hpl rfl
      rwa [show k' = j by omega] at this
    | succ m ih =>
      intro j hj hkj a ρ σ A' w' hpl hI
      rw [show ops.length - j = (ops.length - (j + 1)) + 1 by omega, List.range'_succ, wpOps_cons]
      have hkl : j < l.length := by omega
      have hx : l[j]? = some l[j] := List.getElem?_eq_getElem hkl
      refine step_anyR1 (done := fun i => Nat.blt i j) hw hopl (fun i x d hx hdd => dstOK_spec hs (hmap i x hx) hdd) hx (hobl j _ hkj hx) (nblt_no (Nat.le_refl j)) (fun e he hbe => ?_) (fun i y hy hex => ?_) hpl hI (fun a' ρ' σ' A'' w'' hpl' hI' => ih (j + 1) (by omega) (by omega) a' ρ' σ' A'' w'' hpl' ?_)
      · have := backFrom_spec _ 0 hb j _ (hmap j _ hx) e he hbe
        show Nat.blt e.on j = true
        simpa using this
      · obtain ⟨e, he, hbe, hon⟩ := hex
        have := backFrom_spec _ 0 hb i _ (hmap i _ hy) e he hbe
        exact nblt_no (by omega)
      · have : setB (fun i => Nat.blt i j) j = fun i => Nat.blt i (j + 1) := by
          funext i
          by_cases e : i = j
          · subst e; rw [setB_same]; simp
          · rw [setB_ne _ e, Bool.eq_iff_iff]; simp; omega
        rw [← this]
        exact hI'
  refine key (k' - k) k (by omega) (Nat.le_refl k) a (fun id => ((ini[id]?).map (·.u)).getD undef) (fun id => ((ini[id]?).map (·.S)).getD fun _ => False) A w hpl ?_
  have hdn : ∀ i, Nat.blt i k = true → i < k := fun i h => by simpa using h
  have hlive : ∀ id r, resAt ini l id = some r → Live ini l (fun i => Nat.blt i k) id → id < ini.length := fun id r hr h => by
    rcases h.1 with h1 | h1
    · exact h1
    · rcases Nat.lt_or_ge id ini.length with h2 | h2
      · exact h2
      · exfalso
        unfold resAt at hr
        rw [List.getElem?_eq_none h2] at hr
        cases hx : l[id - ini.length]? with
        | none => rw [hx] at hr; cases hr
        | some x =>
          rw [hx] at hr
          have := (Past.at l k hp _ x (hdn _ h1) hx).2.2.1
          simp only [Option.bind_some, this] at hr
          cases hr
  have kk : ∀ id r, resAt ini l id = some r → Live ini l (fun i => Nat.blt i k) id → ∃ p, ini[id]? = some p ∧ p.r = r ∧ ((ini[id]?).map (·.u)).getD undef = p.u ∧ (((ini[id]?).map (·.S)).getD fun _ => False) = p.S := fun id r hr hl => by
    obtain ⟨p, hp', hr'⟩ := resAt_ini (l := l) (hlive id r hr hl)
    rw [hr'] at hr
    injection hr with hr
    exact ⟨p, hp', hr, by rw [hp']; rfl, by rw [hp']; rfl⟩
  rw [← hR] at hp
  refine ⟨Ch.refl _ _, (Fr.refl w).stp A, hA, hA, fun _ _ h _ => h, fun t _ => by rw [hR], fun i x d hx hd hxd hg => ?_, fun i x d hx hd hxd hg => ?_, fun id r hr hl => ?_, fun id r hr hl q hq o => ?_, fun id id' r r' hr hr' hl hl' hne q hq => ?_, fun id r hr hl q _ hq => ?_, fun id p hp' => (by rw [hp']; exact ⟨rfl, rfl⟩), fun i x d hx hd hres => ?_, fun i x c hx hd hres => ?_⟩
  · exact (Past.at l k hp i x (hdn i hd) hx).2.2.2 d hxd
  · have := (Past.at l k hp i x (hdn i hd) hx).1
    rw [this] at hg
    cases hg
  · obtain ⟨p, hp', rfl, he, hs'⟩ := kk id r hr hl
    rw [he, hs']
    exact ⟨(hi.ok id p hp').1, hi.own id p hp'⟩
  · obtain ⟨p, hp', rfl, he, hs'⟩ := kk id r hr hl
    rw [hs'] at hq
    exact (hi.ok id p hp').2 q hq o
  · obtain ⟨p, hp', rfl, he, hs'⟩ := kk id r hr hl
    obtain ⟨p2, hp2, rfl, he2, hs2⟩ := kk id' r' hr' hl'
    rw [hs'] at hq
    rw [hs2]
    exact hi.dis id id' p p2 hp' hp2 hne q hq
  · obtain ⟨p, hp', rfl, he, hs'⟩ := kk id r hr hl
    rw [hs'] at hq
    exact ⟨id, p, hp', hq⟩
  · exact absurd (Past.at l k hp i x (hdn i hd) hx).2.2.1 hres
  · exact absurd (Past.at l k hp i x (hdn i hd) hx).2.2.1 hres
end
/-! ### what a call hands back -/
/-- the objects that a call gives: K: the blocks that it was handed -/
structure GPost (A0 : Av) (K : Nat → Prop) (w : World) (obs : List Ob) (A1 : Av) (w' : World) : Prop where
  ini : IniOK obs A1 w'
  avok : AvOK A1 w'
  low : ∀ b o, A0 b o → A1 b o
  up : ∀ b o, A1 b o → A0 b o ∨ isIni obs b
  new : ∀ k, isIni obs k → w.heap.size ≤ k ∨ K k
  ch : Ch K w w'
abbrev subS (A : Av) (S : Nat → Prop) : Av := fun b o => A b o ∧ ¬ S b
section
variable {ini obs : List Ob} {A A0 A1 : Av} {w w' : World} {K : Nat → Prop}
theorem IniOK.shrink (h : IniOK ini A w) (h1 : ∀ b o, A1 b o → A b o) (h2 : ∀ k, isIni ini k → ∀ o, A1 k o) : IniOK ini A1 w :=
  ⟨fun i p hp => ⟨(Res.stabS (h.ok i p hp).1 (h.own i p hp) (fun _ _ => rfl) (stp_down h1)).1, fun k hk => h2 k ⟨i, p, hp, hk⟩⟩, fun i p hp => (Res.stabS (h.ok i p hp).1 (h.own i p hp) (fun _ _ => rfl) (stp_down h1)).2, h.dis⟩
/-- the callee's last word -/
theorem GPost.of (hO : IniOK obs A w') (hA : AvOK A w') (hAA : ∀ b o, A0 b o → A b o) (hge : ∀ k, isIni obs k → w.heap.size ≤ k ∨ K k) (hF : Ch K w w') : ∃ A1, (∀ b o, A1 b o → A b o) ∧ GPost A0 K w obs A1 w' := by
  have hsub : ∀ b o, (A0 b o ∨ isIni obs b) → A b o := fun b o h => h.elim (hAA b o) fun ⟨i, p, hp, hk⟩ => (hO.ok i p hp).2 b hk o
  exact ⟨fun b o => A0 b o ∨ isIni obs b, hsub, hO.shrink hsub fun k hk o => .inr hk, fun b o h => hA b o (hsub b o h), fun _ _ h => .inl h, fun _ _ h => h, hge, hF⟩
theorem stp_call (hA : AvOK A w) (h : GPost (subS A K) K w obs A1 w') (hK : ∀ k, K k → ∀ o, A k o) : Stp A A1 w w' :=
  ⟨h.ch.size, fun b o v hv hn => (World.cell?_of_block (w := w) (h.ch.block b (cell_lt' hv) fun hk => hn (hK b hk o))).trans hv, fun b o hb h1 => (h.up b o h1).elim (·.1) fun h2 => (h.new b h2).elim (fun h3 => by omega) fun h3 => hK b h3 o⟩
/-- the caller goes on: object i has gone into the call -/
theorem GPost.next (hO : IniOK ini A w) (hA : AvOK A w) (i : Nat) {p : Ob} (hp : ini[i]? = some p) (h : GPost (subS A p.S) p.S w obs A1 w') : IniOK (obs ++ ini.eraseIdx i) A1 w' := by
  have hK : ∀ k, p.S k → ∀ o, A k o := (hO.ok i p hp).2
  have hst := stp_call hA h hK
  have hlt : ∀ (j : Nat) q, ini[j]? = some q → ∀ k, q.S k → k < w.heap.size := fun j q hq k hk => Res.ltS (hO.ok j q hq).1 (hO.own j q hq) hk
  have her : ∀ (j : Nat) q, (ini.eraseIdx i)[j]? = some q → ∃ j', j' ≠ i ∧ ini[j']? = some q ∧ (j' = if j < i then j else j + 1) := fun j q hq => by
    rw [List.getElem?_eraseIdx] at hq
    split at hq
    · rename_i hlt; exact ⟨j, by omega, hq, by rw [if_pos hlt]⟩
    · rename_i hlt; exact ⟨j + 1, by omega, hq, by rw [if_neg hlt]⟩
  have hrest : ∀ (j : Nat) q, (ini.eraseIdx i)[j]? = some q → (q.r.ok A1 q.u w' ∧ q.r.own A1 q.u q.S w') ∧ ∀ k, q.S k → ∀ o, A1 k o := fun j q hq => by
    obtain ⟨j', hne, hj', _⟩ := her j q hq
    have hd : ∀ k, q.S k → ¬ p.S k := hO.dis j' i q p hj' hp hne
    exact ⟨Res.stabS (hO.ok j' q hj').1 (hO.own j' q hj') (fun k hk => h.ch.block k (hlt j' q hj' k hk) (hd k hk)) hst, fun k hk o => h.low k o ⟨(hO.ok j' q hj').2 k hk o, hd k hk⟩⟩
  have hobr : ∀ (i' j : Nat) p' q, obs[i']? = some p' → (ini.eraseIdx i)[j]? = some q → ∀ k, p'.S k → ¬ q.S k := fun i' j p' q hp' hq k hk hk' => by
    obtain ⟨j', hne, hj', _⟩ := her j q hq
    rcases h.new k ⟨i', p', hp', hk⟩ with h1 | h1
    · have := hlt j' q hj' k hk'
      omega
    · exact hO.dis j' i q p hj' hp hne k hk' h1
  refine ⟨fun j q hq => ?_, fun j q hq => ?_, fun j j' q q' hq hq' hne k hk => ?_⟩
  · rcases Nat.lt_or_ge j obs.length with hl | hl
    · rw [List.getElem?_append_left hl] at hq
      exact h.ini.ok j q hq
    · rw [List.getElem?_append_right hl] at hq
      exact ⟨(hrest _ q hq).1.1, (hrest _ q hq).2⟩
  · rcases Nat.lt_or_ge j obs.length with hl | hl
    · rw [List.getElem?_append_left hl] at hq
      exact h.ini.own j q hq
    · rw [List.getElem?_append_right hl] at hq
      exact (hrest _ q hq).1.2
  · rcases Nat.lt_or_ge j obs.length with hl | hl <;> rcases Nat.lt_or_ge j' obs.length with hl' | hl'
    · rw [List.getElem?_append_left hl] at hq
      rw [List.getElem?_append_left hl'] at hq'
      exact h.ini.dis j j' q q' hq hq' hne k hk
    · rw [List.getElem?_append_left hl] at hq
      rw [List.getElem?_append_right hl'] at hq'
      exact hobr _ _ _ _ hq hq' k hk
    · rw [List.getElem?_append_right hl] at hq
      rw [List.getElem?_append_left hl'] at hq'
      exact fun hk' => hobr _ _ _ _ hq' hq k hk' hk
    · rw [List.getElem?_append_right hl] at hq
      rw [List.getElem?_append_right hl'] at hq'
      obtain ⟨a, _, ha, ea⟩ := her _ q hq
      obtain ⟨b, _, hb, eb⟩ := her _ q' hq'
      exact hO.dis a b q q' ha hb (by rw [ea, eb]; split <;> split <;> omega) k hk
/-- the same where nothing went in -/
theorem GPost.next0 (hO : IniOK ini A w) (hA : AvOK A w) (h : GPost A (fun _ => False) w obs A1 w') : IniOK (obs ++ ini) A1 w' ∧ Stp A A1 w w' := by
  have e : subS A (fun _ => False) = A := by
    funext b o
    simp [subS]
  have h' : GPost (subS A fun _ => False) (fun _ => False) w obs A1 w' := by rw [e]; exact h
  have hst := stp_call hA h' fun _ h => h.elim
  have hlt : ∀ (j : Nat) q, ini[j]? = some q → ∀ k, q.S k → k < w.heap.size := fun j q hq k hk => Res.ltS (hO.ok j q hq).1 (hO.own j q hq) hk
  have hrest : ∀ (j : Nat) q, ini[j]? = some q → (q.r.ok A1 q.u w' ∧ q.r.own A1 q.u q.S w') ∧ ∀ k, q.S k → ∀ o, A1 k o := fun j q hj =>
    ⟨Res.stabS (hO.ok j q hj).1 (hO.own j q hj) (fun k hk => h.ch.block k (hlt j q hj k hk) fun h => h) hst, fun k hk o => h.low k o ((hO.ok j q hj).2 k hk o)⟩
  have hobr : ∀ (i' j : Nat) p' q, obs[i']? = some p' → ini[j]? = some q → ∀ k, p'.S k → ¬ q.S k := fun i' j p' q hp' hq k hk hk' => by
    rcases h.new k ⟨i', p', hp', hk⟩ with h1 | h1
    · have := hlt j q hq k hk'
      omega
    · exact h1
  refine ⟨⟨fun j q hq => ?_, fun j q hq => ?_, fun j j' q q' hq hq' hne k hk => ?_⟩, hst⟩
  · rcases Nat.lt_or_ge j obs.length with hl | hl
    · rw [List.getElem?_append_left hl] at hq
      exact h.ini.ok j q hq
    · rw [List.getElem?_append_right hl] at hq
      exact ⟨(hrest _ q hq).1.1, (hrest _ q hq).2⟩
  · rcases Nat.lt_or_ge j obs.length with hl | hl
    · rw [List.getElem?_append_left hl] at hq
      exact h.ini.own j q hq
    · rw [List.getElem?_append_right hl] at hq
      exact (hrest _ q hq).1.2
  · rcases Nat.lt_or_ge j obs.length with hl | hl <;> rcases Nat.lt_or_ge j' obs.length with hl' | hl'
    · rw [List.getElem?_append_left hl] at hq
      rw [List.getElem?_append_left hl'] at hq'
      exact h.ini.dis j j' q q' hq hq' hne k hk
    · rw [List.getElem?_append_left hl] at hq
      rw [List.getElem?_append_right hl'] at hq'
      exact hobr _ _ _ _ hq hq' k hk
    · rw [List.getElem?_append_right hl] at hq
      rw [List.getElem?_append_left hl'] at hq'
      exact fun hk' => hobr _ _ _ _ hq' hq k hk' hk
    · rw [List.getElem?_append_right hl] at hq
      rw [List.getElem?_append_right hl'] at hq'
      exact hO.dis _ _ q q' hq hq' (by omega) k hk
/-- an object turned: its blocks are among those that it had -/
theorem IniOK.put (h : IniOK ini A w) (i : Nat) {p : Ob} (hi : ini[i]? = some p) (p' : Ob) (hok : p'.r.ok A p'.u w) (hown : p'.r.own A p'.u p'.S w) (hS : ∀ k, p'.S k → p.S k) : IniOK (ini.set i p') A w := by
  have hl := (List.getElem?_eq_some_iff.1 hi).1
  have hat : ∀ (j : Nat) q, (ini.set i p')[j]? = some q → ∃ q0, ini[j]? = some q0 ∧ (∀ k, q.S k → q0.S k) ∧ (j = i ∧ q = p' ∨ j ≠ i ∧ q0 = q) := fun j q hq => by
    by_cases e : j = i
    · subst e
      rw [List.getElem?_set_self hl] at hq
      injection hq with hq
      subst hq
      exact ⟨_, hi, hS, .inl ⟨rfl, rfl⟩⟩
    · rw [List.getElem?_set_ne (Ne.symm e)] at hq
      exact ⟨q, hq, fun _ h => h, .inr ⟨e, rfl⟩⟩
  refine ⟨fun j q hq => ?_, fun j q hq => ?_, fun j j' q q' hq hq' hne k hk hk' => ?_⟩
  · obtain ⟨q0, h0, hS', hc⟩ := hat j q hq
    rcases hc with ⟨rfl, rfl⟩ | ⟨_, rfl⟩
    · exact ⟨hok, fun k hk => (h.ok _ _ h0).2 k (hS' k hk)⟩
    · exact h.ok j _ h0
  · obtain ⟨q0, h0, hS', hc⟩ := hat j q hq
    rcases hc with ⟨rfl, rfl⟩ | ⟨_, rfl⟩
    · exact hown
    · exact h.own j _ h0
  · obtain ⟨q0, h0, hS', _⟩ := hat j q hq
    obtain ⟨q0', h0', hS'', _⟩ := hat j' q' hq'
    exact h.dis j j' q0 q0' h0 h0' hne k (hS' k hk) (hS'' k hk')
/-- a tree's blocks under another bound -/
theorem IniOK.reK (h : IniOK ini A w) (i : Nat) {u : Value} {S : Nat → Prop} {K K' : Nat → Prop} {p : SP} (hi : ini[i]? = some ⟨u, S, .gen K p⟩) (hK : ∀ k, K k → K' k) : IniOK (ini.set i ⟨u, S, .gen K' p⟩) A w :=
  h.put i hi ⟨u, S, .gen K' p⟩ trivial ⟨fun k hk => hK k ((h.own i _ hi).1 k hk), (h.own i _ hi).2⟩ fun _ h => h
/-- a variable's tree, as the value that it holds -/
theorem IniOK.unbox {P : Program} {R : Reg} (h : IniOK ini A w) (i : Nat) {u : Value} {S : Nat → Prop} {K : Nat → Prop} {α : Type} {F : OE α} {x : α} {pins : List Pin} {T T' : TypeId} {r : Nat} (hi : ini[i]? = some ⟨u, S, trR K (oPt T' F) x pins⟩) (hR : R r = u) (hag : ∀ w, (isAgg T).run P w = .ok F.E.agg w) (hsz : ∀ w, (sizeOf T).run P w = .ok F.E.size w) :
    ∃ v S1, ResVal P R w (.cell r T) v ∧ IniOK (ini.set i ⟨v, S1, trR K F x []⟩) A w := by
  obtain ⟨hK, ⟨cs, e, b, ds, S1, rfl, h1, h2, h3, h4⟩, _⟩ := h.own i _ hi
  have hu : u = .pointer (some ⟨b, 0, none⟩) := e
  have hsub : ∀ k, S1 k → S k := fun k hk => (h4 k).2 (.inr hk)
  refine ⟨F.E.val ds, S1, ⟨⟨b, 0, none⟩, by rw [hR, hu], ?_⟩, h.put i hi ⟨F.E.val ds, S1, trR K F x []⟩ trivial ⟨fun k hk => hK k (hsub k hk), ⟨ds, rfl, h2⟩, fun q hq => by cases hq⟩ hsub⟩
  have := run_loadVar (P := P) (w := w) (b := b) (o := 0) hag hsz (F.len h2) F.E.one (fun j v hj => by rw [h1.cell, Nat.zero_add]; simpa using hj)
  simpa [Enc.val] using this
/-- objects that become parts of another -/
theorem IniOK.join (h : IniOK ini A w) (L : List (Nat × Ob)) (hL : Among ini L) (p : Ob) (hok : p.r.ok A p.u w) (hown : p.r.own A p.u p.S w) (hS : ∀ k, p.S k → ∃ (j : Nat) (q : Ob), ini[j]? = some q ∧ q.S k ∧ (L.all fun x => !Nat.beq x.1 j) = true) : IniOK (p :: L.map (·.2)) A w := by
  have hs := h.sub L hL
  have key : ∀ (i : Nat) q, (L.map (·.2))[i]? = some q → ∀ k, p.S k → ¬ q.S k := fun i q hq k hk hk' => by
    rw [List.getElem?_map] at hq
    cases hx : L[i]? with
    | none => rw [hx] at hq; cases hq
    | some x =>
      rw [hx] at hq
      injection hq with hq
      subst hq
      obtain ⟨j, q', hj, hk2, hall⟩ := hS k hk
      exact h.dis j x.1 q' x.2 hj (Among.at L hL i x hx) (fun e => allne hall (List.mem_of_getElem? hx) e.symm) k hk2 hk'
  refine ⟨fun i q hq => ?_, fun i q hq => ?_, fun i j q q' hq hq' hne k hk => ?_⟩
  · cases i with
    | zero =>
      simp only [List.getElem?_cons_zero, Option.some.injEq] at hq
      subst hq
      exact ⟨hok, fun k hk => by obtain ⟨j, q', hj, hk2, _⟩ := hS k hk; exact (h.ok j q' hj).2 k hk2⟩
    | succ i => exact hs.ok i q (by simpa using hq)
  · cases i with
    | zero =>
      simp only [List.getElem?_cons_zero, Option.some.injEq] at hq
      subst hq
      exact hown
    | succ i => exact hs.own i q (by simpa using hq)
  · cases i with
    | zero =>
      simp only [List.getElem?_cons_zero, Option.some.injEq] at hq
      subst hq
      cases j with
      | zero => exact (hne rfl).elim
      | succ j => exact key j q' (by simpa using hq') k hk
    | succ i =>
      cases j with
      | zero =>
        simp only [List.getElem?_cons_zero, Option.some.injEq] at hq'
        subst hq'
        exact fun hk' => key i q (by simpa using hq) k hk' hk
      | succ j => exact hs.dis i j q q' (by simpa using hq) (by simpa using hq') (by omega) k hk
theorem Ch.no {w w' : World} (h : Ch (fun _ => False) w w') : Fr w w' := ⟨⟨h.os, h.tape, h.output, h.size, fun k hk => h.block k hk fun h => h⟩, h.drawn⟩
/-! ### trees that read nothing but what they own -/
/-- an object that holds whatever is to be avoided -/
def ObPure (p : Ob) : Prop := ∀ A A' w, p.r.ok A p.u w → p.r.own A p.u p.S w → p.r.ok A' p.u w ∧ p.r.own A' p.u p.S w
def allPure : List Ob → Prop
  | [] => True
  | p :: l => ObPure p ∧ allPure l
theorem allPure.at : ∀ (l : List Ob), allPure l → ∀ (i : Nat) p, l[i]? = some p → ObPure p
  | [], _, i, p, h => by simp at h
  | q :: l, h, 0, p, hp => by simp at hp; subst hp; exact h.1
  | q :: l, h, i + 1, p, hp => allPure.at l h.2 i p (by simpa using hp)
/-! ### a struct built of parts that are our own -/
end
end Go.Proofs.YtpneepiboheldaaDoor
/- A row at a place in a tree that grows: between the append and the store the tree lacks the place, and a store there makes it whole. No statement of the seat is proved here. -/
namespace Go.Proofs.YtpneepiboheldaaDoor
open Go.RowKit
set_option linter.unusedVariables false

/-- u is a value of our own that reads y; put at the address a it makes a tree whole -/
def pdP {β : Type} (F : OE β) (a : Value) (Q : β → Pw) (y : β) : SP where
  P := fun A w S u => ∃ (b off : Nat) (S1 S2 : Nat → Prop) (cs : List Value), a = .pointer (some ⟨b, off, none⟩) ∧ u = F.E.val cs ∧ F.own A w S1 y cs ∧ (∀ k, S k ↔ S2 k ∨ S1 k) ∧ (∀ k, S1 k → ¬ S2 k) ∧ S2 b ∧ (∃ arr T, Blk w b T arr ∧ off + F.E.size ≤ arr.size) ∧ (∀ k, S2 k → k < w.heap.size) ∧
    ∀ (A' : Av) (w' : World) (S1' : Nat → Prop) (y' : β) (ds : List Value), F.own A' w' S1' y' ds → (∀ (j : Nat) u, ds[j]? = some u → w'.cell? ⟨b, off + j, none⟩ = some u) → Up b off F.E.size w w' → (∀ k, S2 k → k ≠ b → w'.heap[k]? = w.heap[k]?) → Stp A A' w w' → (∀ k, S1' k → ¬ S2 k) → Q y' A' w' (fun k => S2 k ∨ S1' k)
  lt := by
    rintro A w S u k ⟨b, off, S1, S2, cs, rfl, rfl, h1, h2, h3, h4, h5, h6, h7⟩ hk
    rcases (h2 k).1 hk with h | h
    · exact h6 k h
    · exact F.lt h1 h
  stab := by
    rintro A A1 w w1 S u ⟨b, off, S1, S2, cs, rfl, rfl, h1, h2, h3, h4, ⟨arr, T, h5, h5'⟩, h6, h7⟩ hb hs
    have hbb := hb b ((h2 b).2 (.inl h4))
    refine ⟨b, off, S1, S2, cs, rfl, rfl, F.stab h1 (fun k hk => hb k ((h2 k).2 (.inr hk))) hs, h2, h3, h4, ⟨arr, T, hbb.trans h5, h5'⟩, fun k hk => Nat.lt_of_lt_of_le (h6 k hk) hs.size, fun A' w' S1' y' ds k1 k2 k3 k4 k5 k6 => ?_⟩
    obtain ⟨arr0, arr1, T0, j1, j2, j3, j4⟩ := k3
    exact h7 A' w' S1' y' ds k1 k2 ⟨arr0, arr1, T0, hbb.symm.trans j1, j2, j3, j4⟩ (fun k hk hne => (k4 k hk hne).trans (hb k ((h2 k).2 (.inl hk)))) (hs.trans k5) k6
/-- p holds of the value v, whatever the register says -/
def fixP (v : Value) (p : SP) : SP where
  P := fun A w S _ => p.P A w S v
  lt := fun h hk => p.lt h hk
  stab := fun h hb hs => p.stab h hb hs
section
variable {A A0 : Av} {w : World} {ini : List Ob}
theorem IniOK.refix (h : IniOK ini A w) (i : Nat) {u v : Value} {S K : Nat → Prop} {p : SP} (hi : ini[i]? = some ⟨u, S, .gen K (fixP v p)⟩) : IniOK (ini.set i ⟨v, S, .gen K p⟩) A w :=
  h.put i hi ⟨v, S, .gen K p⟩ trivial ⟨(h.own i _ hi).1, (h.own i _ hi).2⟩ fun _ h => h
end
section
variable {P : Program} {R : Reg} {w : World} {d : Option Nat} {t : TypeId} {p : String} {af : Array Edge} {g : Option (Nat × Bool)} {A A0 : Av} {α β : Type} {S S0 : Nat → Prop}
variable {E : Enc α} {F : OE α} {x ix : Operand} {T e : TypeId} {K : Nat → Prop} {u a v : Value}
/-- an append at a row at a place -/
theorem took_appendP {y : Operand} {ty : TypeId} {xs ys : List α} {Q : List α → Pw} {u0 : Value} {S' : Nat → Prop} {dd : Nat} (h : HoleA (oSl e (oRd E)) A w S a xs Q) (hp : PinOK w S' (a, [v])) (hx : evalR R x = v) (hav : ∀ k, S k → ∀ o, A k o) (hB : ∀ k, S k → K k) (hBw : ∀ k, w.heap.size ≤ k → K k) (hlt : ∀ k, S k → k < w.heap.size)
    (hy : Rep (eSl E) A w (evalR R y) ys) (ht : P.underlying T = some (.slice e)) (he : ElF P e E.size) (hl : lenOK (xs.length + ys.length) = true) (hT : e ≠ tByte := by decide) :
    OpR P ⟨some dd, .call ⟨.builtin .append, #[x, y], #[T, T]⟩, ty, p, af, g⟩ R w (TookS A true u0 S (.gen K (pdP (oSl e (oRd E)) a Q (xs ++ ys))) (fun _ => .any) w) := by
  obtain ⟨b, off, S1, cs, rfl, h⟩ := h
  obtain ⟨b', o', e0, _, hc⟩ := hp
  injection e0 with e0
  injection e0 with e0
  injection e0 with e1 e2
  subst e1 e2
  have hl1 : cs.length = 1 := (oSl e (oRd E)).len h.own
  obtain rfl : cs = [v] := by
    match cs, hl1 with
    | [c], _ =>
      have h1 := h.at' 0 c rfl
      have h2 := hc 0 v rfl
      rw [h1] at h2
      injection h2 with h2
      rw [h2]
  obtain ⟨hv, rfl⟩ := vec_of_own (B := 0) (v := v) h.own rfl (fun _ _ => Nat.zero_le _)
  have hS1 : ∀ k, ownsB v k → S k := h.sub
  have hbo : ¬ ownsB v b := h.out
  refine (took_append (P := P) (p := p) (af := af) (g := g) (ty := ty) (dd := dd) (B := 0) hx hv (fun k hk => hav k (hS1 k hk)) (Nat.zero_le _) hy ht he hl).mono ?_
  rintro v' w2 ⟨u2, rfl, hch, hsame, hst0, hok, _⟩
  have hch' : Ch S w w2 := ⟨hch.os, hch.tape, hch.output, hch.size, fun k hk hn => hch.block k hk fun hk' => hn (hS1 k hk'), hch.drawn⟩
  have hold : ∀ k, S k → ¬ ownsB v k → w2.heap[k]? = w.heap[k]? := fun k hk hn => hch.block k (hlt k hk) hn
  have hsub : ∀ k, k < w.heap.size → ((S k ∧ ¬ ownsB v k) ∨ ownsB u2 k) → S k := fun k hk hs => hs.elim (·.1) fun hs => hS1 k (hsame k hk hs)
  have hst := stp_swapS (A := A) hav hch' hsub
  refine ⟨u2, fun k => (S k ∧ ¬ ownsB v k) ∨ ownsB u2 k, rfl, hch', hsub, hst, trivial, ⟨fun k hk => ?_, ?_⟩, trivial⟩
  · rcases hk with hk | hk
    · exact hB k hk.1
    · rcases Nat.lt_or_ge k w.heap.size with hl2 | hg
      · exact hB k (hS1 k (hsame k hl2 hk))
      · exact hBw k hg
  · obtain ⟨cs2, he2, ho2⟩ := own_of_vec hok hT
    obtain ⟨arr, T0, hblk, hsz⟩ := h.blk
    have hdis : ∀ k, ownsB u2 k → ¬ (S k ∧ ¬ ownsB v k) := fun k hk hn => hn.2 (hsame k (hlt k hn.1) hk)
    have hb2 := hold b h.inb hbo
    refine ⟨b, off, ownsB u2, fun k => S k ∧ ¬ ownsB v k, cs2, rfl, he2, OE.stab _ ho2 (fun _ _ => rfl) (stp_down fun k o hk => ?_), fun k => Iff.rfl, hdis, ⟨h.inb, hbo⟩, ⟨arr, T0, hb2.trans hblk, hsz⟩, fun k hk => Nat.lt_of_lt_of_le (hlt k hk.1) hch.size, fun A' w' S1' y' ds k1 k2 k3 k4 k5 k6 => ?_⟩
    · rcases hk with ⟨h1, h2⟩ | ⟨h1, h2⟩ | h1
      · exact .inl ⟨h1, fun hk => h2 (hS1 k hk)⟩
      · exact .inl ⟨hav k h1 o, h2⟩
      · exact .inr h1
    · obtain ⟨arr0, arr1, T1, j1, j2, j3, j4⟩ := k3
      exact h.put A' w' S1' y' ds k1 k2 ⟨arr0, arr1, T1, hb2.symm.trans j1, j2, j3, j4⟩ (fun k a1 a2 a3 => (k4 k ⟨a1, a2⟩ a3).trans (hold k a1 a2)) (hst.trans k5) (fun k a1 a2 => Classical.byContradiction fun hn => k6 k a1 ⟨a2, hn⟩)
/-- the store that makes the tree whole -/
theorem took_putP {ad : Operand} {T' : TypeId} {y : α} {Q : α → Pw} {q : SP} (h : (pdP F a Q y).P A w S u) (hx : evalR R x = u) (had : evalR R ad = a) (hav : ∀ k, S k → ∀ o, A k o) (hB : ∀ k, S k → K k) (hsz : ∀ w, (sizeOf T').run P w = .ok F.E.size w) (hQ : ∀ A w S, Q y A w S → q.P A w S u) :
    OpR P ⟨none, .store T' ad x, t, p, af, g⟩ R w (TookS A false u S (.gen K q) (fun _ => .any) w) := by
  obtain ⟨b, off, S1, S2, cs, rfl, rfl, hv, hS, hd, hb2, ⟨arr, T0, hb, hle⟩, hl2, hput⟩ := h
  have hcs := F.len hv
  have hcl := F.cells hv
  have hvb : ¬ S1 b := fun h => hd b h hb2
  obtain ⟨w', h1, h2, h3⟩ := run_storeVar (P := P) (o := off) (v := evalR R x) hsz (by rw [hx, hcl]; exact F.oc hv) (by rw [hx, ← Array.length_toList, hcl]; exact hcs) hb hle
  rw [hx, hcl] at h3
  refine opr_skip (w' := w') ?_ ?_
  · simp only [execOp, Instr.storeAt, Instr.sureAddr, had]
    simp [h1]
  · have hch0 := h2.ch
    have hch : Ch S w w' := ⟨hch0.os, hch0.tape, hch0.output, hch0.size, fun k hk hn => hch0.block k hk fun e => hn ((hS k).2 (.inl (e ▸ hb2))), hch0.drawn⟩
    have hst := stp_swapS (S'' := S) hav hch fun _ _ h => h
    have hne : ∀ k, S1 k → k ≠ b := fun k hk e => hvb (e ▸ hk)
    have hv' : F.own (swapS A S S) w' S1 y cs := F.stab hv (fun k hk => h2.block k (hne k hk)) hst
    have hq := hput _ w' S1 y cs hv' (fun j u hj => ?_) ⟨arr, _, T0, hb, h3, lay_size _ _ _, fun j hj => ?_⟩ (fun k _ hk => h2.block k hk) hst hd
    · have e : (fun k => S2 k ∨ S1 k) = S := by funext k; rw [eq_iff_iff]; exact (hS k).symm
      rw [e] at hq
      exact ⟨_, S, rfl, hch, fun _ _ h => h, hst, trivial, ⟨hB, hQ _ _ _ hq⟩, trivial⟩
    · have hjl := (List.getElem?_eq_some_iff.1 hj).1
      rw [h3.cell, lay_at _ _ _ _ (by omega), if_pos (by omega), Nat.add_sub_cancel_left]
      exact hj
    · rw [lay_at _ _ _ _ (by omega), if_neg (by omega)]
/-- a tree's variable read for the last time: what it holds is a plain value from here on -/
theorem frz_loadT {y : α} {pins : List Pin} {T' : TypeId} {lk : Bool} (h : (trP (oPt T' F) y pins).P A w S u) (hx : evalR R x = u) (hav : ∀ k, S k → ∀ o, A k o) (hag : ∀ w, (isAgg T).run P w = .ok F.E.agg w) (hsz : ∀ w, (sizeOf T).run P w = .ok F.E.size w) :
    OpR P ⟨d, .load T x, t, p, af, g⟩ R w (TookS A lk u S .nul (fun A => .rep F.E A y) w) := by
  obtain ⟨⟨cs, e, b, ds, S1, rfl, h1, h2, h3, h4⟩, _⟩ := h
  have hu : u = .pointer (some ⟨b, 0, none⟩) := e
  have hst := stp_swapS (S'' := fun _ => False) hav (Ch.refl S w) fun _ _ h => h.elim
  refine opr_val (v := F.E.val ds) (w' := w) ?_ ⟨match lk with | true => _ | false => _, fun _ => False, by cases lk <;> rfl, Ch.refl _ _, fun _ _ h => h.elim, hst, trivial, rfl, ds, rfl, F.rep h2 (fun k o hk => hk.elim (·.1) False.elim) fun k o hk ha => ha.elim (fun ha => ha.2 ((h4 k).2 (.inr hk))) False.elim⟩
  have := run_loadVar (P := P) (w := w) (b := b) (o := 0) hag hsz (F.len h2) F.E.one (fun j v hj => by rw [h1.cell, Nat.zero_add]; simpa using hj)
  simp [execOp, Instr.loadAt, Instr.sureAddr, hx, hu, this, Enc.val]
theorem made_valT {o : Oper} {q : SP} (h : (execOp (evalR R) o).run P w = .ok (.value v) w) (hq : q.P A w (fun _ => False) v) (hB : ∀ k, w.heap.size ≤ k → K k) : OpR P o R w (MadeS A (.gen K q) (fun _ => .any) w) := by
  refine opr_val h ⟨fun _ => False, Fr.refl _, fun _ h => h.elim, trivial, ⟨fun _ h => h.elim, q.stab hq (fun _ h => h.elim) (stp_down fun b o h => h.elim id False.elim)⟩, trivial⟩
end
end Go.Proofs.YtpneepiboheldaaDoor
/- Base of chains: short forms, rows at places. No statement of the seat is proved here. -/
/- Operations under a guard whose outcome is known, one by one in the text's order. No statement of the seat is proved here. -/
namespace Go.Proofs.YtpneepiboheldaaDoor
open Go.RowKit
set_option linter.unusedVariables false

section
variable {P : Program} {n : Nat} {ops : List Oper} {k : Nat} {R : Reg} {w : World} {Q : Exit → Reg → World → Prop}
theorem yielded_at {j dj : Nat} {y : Oper} {a : Act} (hj : ops[j]? = some y) (hy : y.dst = some dj) : yielded ops.toArray a.tmps j = (match regs a dj with | .bool b => some b | _ => none) := by
  have hj' : ops.toArray[j]? = some y := by simpa using hj
  simp only [yielded, hj', regs]
  simp [hy]
  cases a.tmps[dj]? with
  | none => rfl
  | some v => cases v <;> rfl
theorem SG.skipV {o y : Oper} (d j dj : Nat) (want : Bool) (ho : ops[k]? = some o) (hg : o.guard = some (j, want)) (hj : ops[j]? = some y) (hy : y.dst = some dj) (hR : (match R dj with | .bool b => some b | _ => none) ≠ some want) (hd : o.dst = some d) (hn : Nat.blt d n = true)
    (hk : ∀ R', (∀ t, Nat.beq t d = false → R' t = R t) → R' d = undef → SG P n ops (k + 1) R' w Q) : SG P n ops k R w Q := fun a hpl hRa => by
  have hkl : k < ops.length := (List.getElem?_eq_some_iff.1 ho).1
  rw [show ops.length - k = (ops.length - (k + 1)) + 1 by omega, List.range'_succ, wpOps_cons]
  rw [← hRa] at hR
  have hw : ¬ Region.wanted o (yielded ops.toArray a.tmps) = true := by
    rw [show Region.wanted o (yielded ops.toArray a.tmps) = (yielded ops.toArray a.tmps j == some want) by simp [Region.wanted, hg], yielded_at hj hy]
    simpa using hR
  have ho' : ops.toArray[k]? = some o := by simpa using ho
  unfold wpOp
  rw [ho']
  dsimp only
  rw [if_neg hw]
  have hdn : d < n := by simpa using hn
  have hrp := regs_put a o.dst undef fun d' h' => by rw [hd] at h'; injection h' with h'; subst h'; exact Nat.lt_of_lt_of_le hdn hpl.2
  refine hk (regs (a.put o.dst undef)) (fun t ht => ?_) ?_ _ ⟨by rw [put_defers']; exact hpl.1, by rw [put_size]; exact hpl.2⟩ rfl
  · rw [hrp, hd, hRa]
    show (bif Nat.beq t d then undef else R t) = R t
    rw [ht]
    rfl
  · rw [hrp, hd]
    exact upd_same _ _ _
theorem SG.skip {o y : Oper} (d j dj : Nat) (want : Bool) (ho : ops[k]? = some o) (hg : o.guard = some (j, want)) (hj : ops[j]? = some y) (hy : y.dst = some dj) (hR : R dj = .bool !want) (hd : o.dst = some d) (hn : Nat.blt d n = true)
    (hk : ∀ R', (∀ t, Nat.beq t d = false → R' t = R t) → R' d = undef → SG P n ops (k + 1) R' w Q) : SG P n ops k R w Q :=
  SG.skipV d j dj want ho hg hj hy (by rw [hR]; cases want <;> simp) hd hn hk
end
end Go.Proofs.YtpneepiboheldaaDoor
/- What rests on the tables: Itoa, Join. No statement of the seat is proved here. -/
namespace Go.Proofs.YtpneepiboheldaaDoor
open Go.RowKit Go.Sort
set_option linter.unusedVariables false
/-! ### Itoa -/
def M_itoa (fu : Nat) (n : Int) : Option (List UInt8) := ck (i64B n) (some (Lib.itoa n))
theorem decDigits_le : ∀ (k u : Nat), u < 10 ^ (k + 1) → (Lib.decDigits u).length ≤ k + 1
  | 0, u, h => by
    rw [Lib.decDigits, dif_pos (by omega)]
    exact Nat.le_refl _
  | k + 1, u, h => by
    rw [Lib.decDigits]
    split
    · simp
    · rw [List.length_append]
      have := decDigits_le k (u / 10) (by rw [Nat.pow_succ] at h; omega)
      simp
      omega
theorem itoa_len {n : Int} (h0 : -9223372036854775808 ≤ n) (h1 : n ≤ 9223372036854775807) : (Lib.itoa n).length ≤ 21 := by
  unfold Lib.itoa
  split
  · rw [List.length_cons]
    have := decDigits_le 19 n.natAbs (by omega)
    omega
  · have := decDigits_le 19 n.toNat (by omega)
    omega
theorem fr_grown {w : World} (k : Nat) (os : Array Obj) : Fr w (grow (w.drewN k) os) := by
  refine ⟨⟨rfl, rfl, rfl, ?_, fun i hi => ?_⟩, fun _ => ?_⟩
  · simp [grow, World.drewN]
  · simp only [grow, World.drewN]
    rw [Array.getElem?_append_left hi]
  · simp [grow, World.drewN]
theorem M_itoa_ok {fu : Nat} {A0 : Av} {p0 : Int} {r : List UInt8} (hr : M_itoa fu p0 = some r) {w : World} {v0 : Value} (hA : AvOK A0 w) (hG : GTab w) (h0 : v0 = .int .i64 p0) :
    Calls Tryd.prog 52 #[v0] w fun e w' => ∃ v, e = .returned v ∧ (Rep eStr A0 w' v r ∧ Fr w w') := by
  obtain ⟨hb, hr⟩ := ck_some hr
  obtain rfl := Option.some.inj hr
  subst h0
  unfold i64B at hb
  rw [Bool.and_eq_true, decide_eq_true_eq, decide_eq_true_eq] at hb
  refine (Any.strconv_Itoa Tryd.laysItoa p0 hb.1 hb.2 w hG.pow).mono ?_
  rintro e w' ⟨he, k, os, rfl⟩
  refine ⟨_, he, ⟨_, rfl, _, rfl, rfl, ?_⟩, fr_grown k os⟩
  have := itoa_len hb.1 hb.2
  show (Lib.itoa p0).toArray.size ≤ maxLen
  simp only [List.size_toArray]
  exact Nat.le_trans this (by decide)
/-! ### Join -/
def joinL (sep : List UInt8) : List (List UInt8) → List UInt8 := fun xs => Lib.join xs sep
def M_join (fu : Nat) (xs : List (List UInt8)) (sep : List UInt8) : Option (List UInt8) := ck (lenOK xs.length && lenOK (joinL sep xs).length) (some (joinL sep xs))
theorem fr_below {w w' : World} (hn : ¬ DK) (h : Below w.heap.size w w') : Fr w w' := ⟨h, fun h => (hn h).elim⟩
theorem rep_strs {A : Av} {w : World} {v : Value} {xs : List (List UInt8)} (h : Rep (eSl eStr) A w v xs) : ∃ a c, v = .slice a xs.length c ∧ xs.length ≤ c ∧ (0 < xs.length → ∃ b off, a = some ⟨b, off, none⟩ ∧ b < w.heap.size ∧ ∀ (j : Nat) x, xs[j]? = some x → w.cell? ⟨b, off + j, none⟩ = some (.string ⟨x.toArray⟩)) := by
  obtain ⟨cs, hv, a, n, c, rfl, rfl, h2, h3, h4⟩ := h
  refine ⟨a, c, hv, h2, fun hp => ?_⟩
  obtain ⟨b, off, ha, hb, h5⟩ := h4 hp
  refine ⟨b, off, ha, hb, fun j x hx => ?_⟩
  obtain ⟨⟨ds, ⟨s, rfl, rfl, _⟩, h7⟩, _⟩ := h5 j x hx
  have := h7 0 (.string s) rfl
  rw [Nat.add_zero, show off + j * eStr.size = off + j from by show off + j * 1 = _; omega] at this
  rw [this]
theorem noDK : ¬ DK := fun h => h
theorem M_join_ok {fu : Nat} {A0 : Av} {p0 : List (List UInt8)} {p1 r : List UInt8} (hr : M_join fu p0 p1 = some r) {w : World} {v0 v1 : Value} (hA : AvOK A0 w) (h0 : Rep (eSl eStr) A0 w v0 p0) (h1 : Rep eStr A0 w v1 p1) :
    Calls Tryd.prog 28 #[v0, v1] w fun e w' => ∃ v, e = .returned v ∧ (Rep eStr A0 w' v r ∧ Fr w w') := by
  obtain ⟨hb, hr⟩ := ck_some hr
  obtain rfl := Option.some.inj hr
  rw [Bool.and_eq_true] at hb
  have hb1 := lenOK_le hb.1
  have hb2 := lenOK_le hb.2
  obtain ⟨a, c, rfl, hc, hp⟩ := rep_strs h0
  obtain ⟨_, rfl, s, rfl, rfl, hs⟩ := h1
  show Calls Tryd.prog _ #[_, .string s] w _
  have fin : ∀ {l : List UInt8}, l.length ≤ 4294967296 → eStr.rep A0 w l [.string ⟨l.toArray⟩] := fun {l} h => ⟨_, rfl, rfl, by show l.toArray.size ≤ maxLen; simp only [List.size_toArray]; exact Nat.le_trans h (by decide)⟩
  match p0, hp, hb1, hb2, hc with
  | [], hp, hb1, hb2, hc =>
    refine (Any.strings_Join_none Tryd.laysJoin Tryd.extraJoin a c s w).mono ?_
    rintro e w' ⟨he, rfl⟩
    exact ⟨_, he, ⟨_, rfl, _, rfl, rfl, by decide⟩, Fr.refl _⟩
  | [x], hp, hb1, hb2, hc =>
    obtain ⟨b, off, rfl, hbk, h5⟩ := hp (by simp)
    refine (Any.strings_Join_one Tryd.laysJoin Tryd.extraJoin b off c ⟨x.toArray⟩ s w (h5 0 x rfl)).mono ?_
    rintro e w' ⟨he, rfl⟩
    have hj : joinL s.data.toList [x] = x := by simp [joinL, Lib.join, List.intercalate]
    rw [hj] at hb2 ⊢
    exact ⟨_, he, ⟨_, rfl, fin hb2⟩, Fr.refl _⟩
  | x :: y :: xs, hp, hb1, hb2, hc =>
    obtain ⟨b, off, rfl, hbk, h5⟩ := hp (by simp)
    have hm : ((x :: y :: xs).map fun l => (⟨l.toArray⟩ : ByteArray)).map (·.data.toList) = x :: y :: xs := by simp [Function.comp_def]
    have key := Any.strings_Join_many Tryd.laysJoin Tryd.extraJoin b off c ((x :: y :: xs).map fun l => (⟨l.toArray⟩ : ByteArray)) s w (fun j z hz => by
      rw [List.getElem?_map] at hz
      cases hx : (x :: y :: xs)[j]? with
      | none => rw [hx] at hz; cases hz
      | some u => rw [hx] at hz; injection hz with hz; subst hz; exact h5 j u hx) hbk (by simp) (by rw [List.length_map]; omega) (by rw [List.length_map]; exact hc) (by rw [hm]; exact Nat.le_trans hb2 (by decide))
    rw [hm, List.length_map] at key
    refine key.mono ?_
    rintro e w' ⟨he, hbel⟩
    have := fin hb2
    exact ⟨_, he, ⟨_, rfl, eStr.stp ((fr_below noDK hbel).stp A0) this⟩, fr_below noDK hbel⟩
end Go.Proofs.YtpneepiboheldaaDoor
/- Errors as whether there is one; Atoi, Split, Cut over the library's laid contracts. No statement of the seat is proved here. -/
namespace Go.Proofs.YtpneepiboheldaaDoor
open Go.RowKit
set_option linter.unusedVariables false

/-- an error: nil or not -/
def eErr : Enc Bool where
  size := 1
  agg := false
  rep := fun _ _ x cs => (x = false ∧ cs = [.nilIface]) ∨ (x = true ∧ ∃ t p, cs = [.iface t p])
  len := by rintro A w x cs (⟨_, rfl⟩ | ⟨_, t, p, rfl⟩) <;> rfl
  one := fun _ => rfl
  oc := by rintro A w x cs (⟨_, rfl⟩ | ⟨_, t, p, rfl⟩) c hc <;> simp at hc <;> subst hc <;> rfl
  stp := fun _ h => h
section
variable {P : Program} {R : Reg} {w : World} {d : Option Nat} {t : TypeId} {p : String} {af : Array Edge} {g : Option (Nat × Bool)}
theorem of_err_neq {T T' : TypeId} {x : Operand} {a : Bool} {A : Av} (h : Rep eErr A w (evalR R x) a) (hu : P.underlying T = some (.interface (P.methodsAt T))) : OpF P ⟨d, .binOp .neq T x (.const .nilIface) T', t, p, af, g⟩ R w (.raw (.bool a)) := by
  refine opr_val (v := .bool a) (w' := w) ?_ ⟨rfl, Fr.refl _⟩
  have hy : evalR R (.const .nilIface) = .nilIface := rfl
  obtain ⟨cs, hx, (⟨rfl, rfl⟩ | ⟨rfl, t0, p0, rfl⟩)⟩ := h
  · have hx' : evalR R x = .nilIface := hx
    simp [execOp, hx', hy, eqGuard, run_neq_nil_nil w T hu]
  · have hx' : evalR R x = .iface t0 p0 := hx
    simp [execOp, hx', hy, eqGuard, run_neq_held_nil w T t0 p0 hu]
end
def atoiR (s : List UInt8) : Int × Bool := match Lib.atoiAll s with | .ok v => (v, false) | .range => (Lib.atoiSat s, true) | _ => (0, true)
def M_atoi (fu : Nat) (s : List UInt8) : Option (Int × Bool) := ck (lenOK s.length) (some (atoiR s))
theorem fr_of_below {w w' : World} (h : Below w.heap.size w w') : Fr w w' := fr_below noDK h
theorem M_atoi_ok {fu : Nat} {A0 : Av} {p0 : List UInt8} {r : Int × Bool} (hr : M_atoi fu p0 = some r) {w : World} {v0 : Value} (hA : AvOK A0 w) (hG : GTab w) (h0 : Rep eStr A0 w v0 p0) :
    Calls Tryd.prog 37 #[v0] w fun e w' => ∃ v, e = .returned v ∧ ((∃ a b, v = .tuple #[a, b] ∧ a = .int .i64 r.1 ∧ Rep eErr A0 w' b r.2) ∧ Fr w w') := by
  obtain ⟨hb, hr⟩ := ck_some hr
  obtain rfl := Option.some.inj hr
  have hb := lenOK_le hb
  obtain ⟨_, rfl, s, rfl, rfl, hs⟩ := h0
  have hsz : s.size = s.data.toList.length := Lib.size_eq s
  show Calls Tryd.prog _ #[.string s] w _
  unfold atoiR
  cases hc : Lib.atoiAll s.data.toList with
  | ok v =>
    refine (Any.strconv_Atoi_ok Tryd.laysAtoi s (by omega) v hc w).mono ?_
    rintro e w' ⟨he, hw⟩
    refine ⟨_, he, ⟨_, _, rfl, rfl, _, rfl, .inl ⟨rfl, rfl⟩⟩, fr_of_below ?_⟩
    rcases hw with rfl | ⟨t, rfl⟩
    · exact Below.refl _ _
    · exact Lib.bytesWorld_below _ _ _
  | range =>
    obtain ⟨t, p, hv⟩ := hG.eR
    refine (Any.strconv_Atoi_range_var Tryd.laysAtoi s (by omega) hc t p w hv).mono ?_
    rintro e w' ⟨N, he, _, _, hbel⟩
    exact ⟨_, he, ⟨_, _, rfl, rfl, _, rfl, .inr ⟨rfl, _, _, rfl⟩⟩, fr_of_below hbel⟩
  | _ =>
    obtain ⟨t, p, hv⟩ := hG.eS
    refine (Any.strconv_Atoi_syntax_var Tryd.laysAtoi s (by omega) hc t p w hv).mono ?_
    rintro e w' ⟨N, he, _, _, hbel⟩
    exact ⟨_, he, ⟨_, _, rfl, rfl, _, rfl, .inr ⟨rfl, _, _, rfl⟩⟩, fr_of_below hbel⟩
def M_cut (fu : Nat) (s sep : List UInt8) : Option (List UInt8 × List UInt8 × Bool) := ck (decide (s.length < 4294967281)) (some (Lib.cut s sep))
theorem rep_cut {A : Av} {w : World} {l : List UInt8} (h : l.length ≤ 4294967296) : Rep eStr A w (.string ⟨l.toArray⟩) l := ⟨_, rfl, ⟨l.toArray⟩, rfl, rfl, by show l.toArray.size ≤ maxLen; simp only [List.size_toArray]; exact Nat.le_trans h (by decide)⟩
theorem cut_len (s sep : List UInt8) : (Lib.cut s sep).1.length ≤ s.length ∧ (Lib.cut s sep).2.1.length ≤ s.length := by
  unfold Lib.cut
  split
  · simp only [List.length_take, List.length_drop]; omega
  · simp
theorem M_cut_ok {fu : Nat} {A0 : Av} {p0 p1 : List UInt8} {r : List UInt8 × List UInt8 × Bool} (hr : M_cut fu p0 p1 = some r) {w : World} {v0 v1 : Value} (hA : AvOK A0 w) (hG : GTab w) (h0 : Rep eStr A0 w v0 p0) (h1 : Rep eStr A0 w v1 p1) :
    Calls Tryd.prog 23 #[v0, v1] w fun e w' => ∃ v, e = .returned v ∧ ((∃ a b c, v = .tuple #[a, b, c] ∧ Rep eStr A0 w' a r.1 ∧ Rep eStr A0 w' b r.2.1 ∧ c = .bool r.2.2) ∧ Fr w w') := by
  obtain ⟨hb, hr⟩ := ck_some hr
  obtain rfl := Option.some.inj hr
  rw [decide_eq_true_eq] at hb
  obtain ⟨_, rfl, s, rfl, rfl, hs⟩ := h0
  obtain ⟨_, rfl, sep, rfl, rfl, hs1⟩ := h1
  have hsz : s.size = s.data.toList.length := Lib.size_eq s
  obtain ⟨m, hm⟩ := hG.mx
  have hl := cut_len s.data.toList sep.data.toList
  show Calls Tryd.prog _ #[.string s, .string sep] w _
  refine (Any.strings_Cut Tryd.laysCut s sep m w (by omega) hm).mono ?_
  rintro e w' ⟨he, n, rfl⟩
  exact ⟨_, he, ⟨_, _, _, rfl, rep_cut (by omega), rep_cut (by omega), rfl⟩, fr_of_below ⟨rfl, rfl, rfl, Nat.le_refl _, fun _ _ => rfl⟩⟩
/-- the parts of s between the places of sep -/
def splitM (s sep : List UInt8) : List (List UInt8) := (Lib.splitB ⟨sep.toArray⟩ 0 (Lib.countB ⟨s.toArray⟩ ⟨sep.toArray⟩) ⟨s.toArray⟩).map (·.data.toList)
def M_split (fu : Nat) (s sep : List UInt8) : Option (List (List UInt8)) := ck (decide (s.length < 4294967281) && decide (0 < sep.length)) (some (splitM s sep))
theorem splitB_len (sep : ByteArray) : ∀ (k : Nat) (s : ByteArray), ∀ x ∈ Lib.splitB sep 0 k s, x.size ≤ s.size
  | 0, s, x, hx => by rw [List.mem_singleton.1 hx]; exact Nat.le_refl _
  | k + 1, s, x, hx => by
    unfold Lib.splitB at hx
    split at hx
    · rw [List.mem_singleton.1 hx]; exact Nat.le_refl _
    · rcases List.mem_cons.1 hx with rfl | hx
      · rw [ByteArray.size_extract]; omega
      · have := splitB_len sep k _ x hx
        rw [ByteArray.size_extract] at this; omega
theorem M_split_ok {fu : Nat} {A0 : Av} {p0 p1 : List UInt8} {r : List (List UInt8)} (hr : M_split fu p0 p1 = some r) {w : World} {v0 v1 : Value} (hA : AvOK A0 w) (hG : GTab w) (h0 : Rep eStr A0 w v0 p0) (h1 : Rep eStr A0 w v1 p1) :
    Calls Tryd.prog 12 #[v0, v1] w fun e w' => ∃ v, e = .returned v ∧ (Rep (eSl eStr) A0 w' v r ∧ Fr w w') := by
  obtain ⟨hb, hr⟩ := ck_some hr
  obtain rfl := Option.some.inj hr
  rw [Bool.and_eq_true, decide_eq_true_eq, decide_eq_true_eq] at hb
  obtain ⟨_, rfl, s, rfl, rfl, hs⟩ := h0
  obtain ⟨_, rfl, sep, rfl, rfl, hs1⟩ := h1
  have hsz : s.size = s.data.toList.length := Lib.size_eq s
  have hsp : sep.size = sep.data.toList.length := Lib.size_eq sep
  obtain ⟨m, hm⟩ := hG.mx
  have e1 : (⟨s.data.toList.toArray⟩ : ByteArray) = s := by rw [Array.toArray_toList]
  have e2 : (⟨sep.data.toList.toArray⟩ : ByteArray) = sep := by rw [Array.toArray_toList]
  have hall := Lib.splitB_all sep (by omega) 0 _ s rfl
  have hcl := Lib.countB_le sep (by omega) s.size s (Nat.le_refl _)
  have hlen : (Lib.splitB sep 0 (Lib.countB s sep) s).length = Lib.countB s sep + 1 := hall
  show Calls Tryd.prog _ #[.string s, .string sep] w _
  refine (Any.strings_Split { Tryd.laysSplit with } Tryd.laysSplit.i9 s sep m w (by omega) hm (by omega)).mono ?_
  rintro e w' ⟨he, rfl⟩
  refine ⟨_, he, ?_, Fr.alloc w _⟩
  unfold splitM
  rw [e1, e2]
  refine ⟨_, rfl, some ⟨w.heap.size, 0, none⟩, _, _, rfl, by rw [List.length_map, hlen], Nat.le_refl _, by unfold maxLen; omega, fun _ => ⟨w.heap.size, 0, rfl, by simp, fun i x hx => ?_⟩⟩
  rw [List.getElem?_map] at hx
  obtain ⟨z, hz, rfl⟩ := Option.map_eq_some_iff.1 hx
  refine ⟨⟨[.string z], ⟨z, rfl, rfl, Nat.le_trans (splitB_len sep _ s z (List.mem_of_getElem? hz)) hs⟩, fun j u hj => ?_⟩, fun j _ ha => Nat.lt_irrefl _ (hA _ _ ha)⟩
  cases j with
  | zero =>
    simp only [List.getElem?_cons_zero, Option.some.injEq] at hj
    subst hj
    show (w.alloc _).cell? ⟨w.heap.size, 0 + i * 1 + 0, none⟩ = _
    unfold World.cell?
    rw [heap_alloc_new]
    simp [hz]
  | succ j => simp at hj
end Go.Proofs.YtpneepiboheldaaDoor
/- The table of the features' names. No statement of the seat is proved here. -/
namespace Go.Proofs.YtpneepiboheldaaDoor
open Go.RowKit
set_option linter.unusedVariables false
theorem gFeat : Tryd.prog.globalNamed featName = some 0 := by kernel_rfl
/-- an element of the table, at its address -/
theorem GTab.featAt {w : World} (h : GTab w) {A : Av} {i : Int} (hi : inR i featL.length = true) {v : Value} (hv : v = .pointer (some ⟨0, i.toNat, none⟩)) : PRep eStr A w v (gtD featL i) := by
  obtain ⟨i0, i1⟩ := inR_iff.1 hi
  have hlt : i.toNat < featL.length := by omega
  have hc := var_cell h.feat gFeat (i := i.toNat) (v := .string ⟨(gtD featL i).toArray⟩) (by
    rw [List.getElem?_toArray, List.getElem?_map, List.getElem?_eq_getElem hlt]
    simp only [Option.map_some, gtD, List.getD_eq_getElem?_getD, List.getElem?_eq_getElem hlt, Option.getD_some])
  refine ⟨_, _, hv, cell_lt' hc, [.string ⟨(gtD featL i).toArray⟩], ⟨⟨(gtD featL i).toArray⟩, rfl, by simp, ?_⟩, fun j u hj => ?_⟩
  · have key : ∀ s ∈ featL, s.length ≤ maxLen := by decide
    have hm : gtD featL i ∈ featL := by
      unfold gtD
      rw [List.getD_eq_getElem?_getD, List.getElem?_eq_getElem hlt]
      exact List.getElem_mem hlt
    have := key _ hm
    simpa [ByteArray.size] using this
  · cases j with
    | zero => simp at hj; subst hj; exact hc
    | succ j => simp at hj
/-- the whole table as a slice -/
theorem of_slice_g {P : Program} {R : Reg} {w : World} {d : Option Nat} {t : TypeId} {p : String} {af : Array Edge} {g : Option (Nat × Bool)} {T e n gb : Nat} (hu : P.underlying T = some (.array n e)) (hsz : ∀ w, (sizeOf e).run P w = .ok 1 w) (hn : 0 < n) :
    OpF P ⟨d, .slice T (.global gb) none none none, t, p, af, g⟩ R w (.raw (.slice (some ⟨gb, 0, none⟩) n n)) := by
  refine opr_val (v := .slice (some ⟨gb, 0, none⟩) n n) (w' := w) ?_ ⟨rfl, Fr.refl _⟩
  have hg' : evalR R (.global gb) = .pointer (some ⟨gb, 0, none⟩) := rfl
  have hadd : (⟨gb, 0, none⟩ : Addr).add (0 * 1) = ⟨gb, 0, none⟩ := rfl
  have hne : ¬ n = 0 := by omega
  simp [execOp, Instr.sliceAt, Instr.sliceBounds, Instr.sureAddr, hg', underlying, hu, hsz, hne]
  rfl
theorem GTab.featSl {w : World} (h : GTab w) {v : Value} (hv : v = .slice (some ⟨0, 0, none⟩) 6 6) : Rep (eSl eStr) av0 w v featL := by
  have hat : ∀ i : Nat, i < 6 → ∃ b o, (.pointer (some ⟨0, i, none⟩) : Value) = .pointer (some ⟨b, o, none⟩) ∧ b < w.heap.size ∧ PAt eStr av0 w b o (gtD featL (i : Int)) := fun i hi => h.featAt (A := av0) (i := (i : Int)) (inR_iff.2 ⟨by omega, by show (i : Int) < 6; omega⟩) (by rw [Int.toNat_natCast])
  obtain ⟨b0, o0, e0, h0, _⟩ := hat 0 (by omega)
  have hb : 0 < w.heap.size := by
    injection e0 with e0
    injection e0 with e0
    injection e0 with e0
    rw [e0]
    exact h0
  subst hv
  refine ⟨_, rfl, some ⟨0, 0, none⟩, 6, 6, rfl, rfl, Nat.le_refl _, by decide, fun _ => ⟨_, _, rfl, hb, fun i x hx => ?_⟩⟩
  have hi : i < 6 := (List.getElem?_eq_some_iff.1 hx).1
  obtain ⟨b, o, e, _, hp⟩ := hat i hi
  injection e with e
  injection e with e
  injection e with e1 e2
  subst e1 e2
  have hg : gtD featL (i : Int) = x := by
    unfold gtD
    rw [Int.toNat_natCast, List.getD_eq_getElem?_getD, hx]
    rfl
  rw [hg] at hp
  have he : 0 + i * eStr.size = i := by show 0 + i * 1 = i; omega
  rw [he]
  exact ⟨hp, fun _ _ h => h⟩
end Go.Proofs.YtpneepiboheldaaDoor
/- Trees that become plain variables. No statement of the seat is proved here. -/
namespace Go.Proofs.YtpneepiboheldaaDoor
open Go.RowKit
set_option linter.unusedVariables false

section
variable {α : Type} {F : OE α} {A A0 : Av} {w : World} {S K : Nat → Prop}
/-- a variable that is a tree becomes a variable whose content is read: what hangs at it is written no more -/
theorem IniOK.freezeT {T : TypeId} {u : Value} {x : α} {pins : List Pin} {rest : List Ob} {B : Nat} (h : IniOK (⟨u, S, trR K (oPt T F) x pins⟩ :: rest) A w) (hA : AvOK A w) (hAA : ∀ b o, A0 b o → A b o) (hA0 : ∀ b o, A0 b o → b < B) (hK : ∀ k, K k → B ≤ k) :
    ∃ (A' : Av) (b : Nat), u = .pointer (some ⟨b, 0, none⟩) ∧ (∀ b o, A' b o → A b o) ∧ (∀ b o, A0 b o → A' b o) ∧ AvOK A' w ∧ IniOK (ob (.pointer (some ⟨b, 0, none⟩)) (.box B T F.E x) :: rest) A' w := by
  have h0 := h.own 0 _ rfl
  obtain ⟨hSK, ⟨cs, hu, b, ds, S1, rfl, hb, hF, hnb, hset⟩, _⟩ := h0
  have hu : u = .pointer (some ⟨b, 0, none⟩) := hu
  subst hu
  have hSb : S b := (hset b).2 (.inl rfl)
  refine ⟨fun k o => A k o ∧ (S k → k = b), b, rfl, fun _ _ h => h.1, fun k o hk => ⟨hAA k o hk, fun hs => ?_⟩, fun k o hk => hA k o hk.1, ⟨?_, ?_, ?_⟩⟩
  · have h1 := hK k (hSK k hs)
    have h2 := hA0 k o hk
    omega
  · intro i p hp
    cases i with
    | zero =>
      obtain rfl := Option.some.inj hp
      refine ⟨⟨b, rfl, hK b (hSK b hSb), ds, hb, F.rep hF (fun _ _ h => h.1) fun k o hk h => ?_⟩, fun k hk o => ?_⟩
      · have e : k = b := h.2 ((hset k).2 (.inr hk))
        exact hnb (e ▸ hk)
      · obtain rfl : b = k := hk
        exact ⟨(h.ok 0 _ rfl).2 b hSb o, fun _ => rfl⟩
    | succ i =>
      have hp : rest[i]? = some p := hp
      have h1 := h.ok (i + 1) p hp
      have h2 := h.own (i + 1) p hp
      refine ⟨(Res.stabS h1.1 h2 (fun _ _ => rfl) (stp_down fun b o h => h.1)).1, fun k hk o => ⟨h1.2 k hk o, fun hs => ?_⟩⟩
      exact (h.dis (i + 1) 0 p _ hp rfl (by omega) k hk hs).elim
  · intro i p hp
    cases i with
    | zero =>
      obtain rfl := Option.some.inj hp
      exact rfl
    | succ i =>
      have hp : rest[i]? = some p := hp
      exact (Res.stabS (h.ok (i + 1) p hp).1 (h.own (i + 1) p hp) (fun _ _ => rfl) (stp_down fun b o h => h.1)).2
  · have hb0 : ∀ k, ownsB (.pointer (some ⟨b, 0, none⟩)) k → S k := fun k hk => by
      obtain rfl : b = k := hk
      exact hSb
    intro i j p q hp hq hne k hk hk2
    cases i with
    | zero =>
      obtain rfl := Option.some.inj hp
      cases j with
      | zero => exact hne rfl
      | succ j => exact h.dis 0 (j + 1) _ q rfl hq (by omega) k (hb0 k hk) hk2
    | succ i =>
      cases j with
      | zero =>
        obtain rfl := Option.some.inj hq
        exact h.dis (i + 1) 0 p _ hp rfl (by omega) k hk (hb0 k hk2)
      | succ j => exact h.dis (i + 1) (j + 1) p q hp hq hne k hk hk2
end

/-! a variable whose row has gone into another row: its content is read; later it is filled anew -/
section
variable {α : Type} {F : OE α} {A A0 : Av} {w : World} {S K : Nat → Prop}
theorem IniOK.boxR {E : Enc α} {T : TypeId} {x : α} {rest : List Ob} {B b : Nat} (h : IniOK (ob (.pointer (some ⟨b, 0, none⟩)) (.box B T E x) :: rest) A w) :
    IniOK (⟨.pointer (some ⟨b, 0, none⟩), ownsB (.pointer (some ⟨b, 0, none⟩)), trR (geB B) (oPt T (oRd E)) x []⟩ :: rest) A w := by
  obtain ⟨b', hu, hB, ds, hb, hr⟩ := (h.ok 0 _ rfl).1
  obtain rfl : b = b' := by injection hu with e; injection e with e; injection e with e
  refine h.put 0 rfl ⟨.pointer (some ⟨b, 0, none⟩), ownsB (.pointer (some ⟨b, 0, none⟩)), trR (geB B) (oPt T (oRd E)) x []⟩ trivial ⟨fun k hk => ?_, ⟨[.pointer (some ⟨b, 0, none⟩)], rfl, b, ds, fun _ => False, rfl, hb, ⟨fun _ h => h, hr⟩, fun h => h, fun k => ⟨fun hk => .inl (Eq.symm hk), fun hk => hk.elim Eq.symm False.elim⟩⟩, fun q hq => by cases hq⟩ fun _ h => h
  obtain rfl : b = k := hk
  exact hB
/-- .. at once -/
theorem IniOK.freezeR {T : TypeId} {u : Value} {x : α} {pins : List Pin} {rest : List Ob} {B : Nat} (h : IniOK (⟨u, S, trR (geB B) (oPt T F) x pins⟩ :: rest) A w) (hA : AvOK A w) (hAA : ∀ b o, A0 b o → A b o) (hA0 : ∀ b o, A0 b o → b < B) :
    ∃ (A' : Av) (S' : Nat → Prop), (∀ b o, A' b o → A b o) ∧ (∀ b o, A0 b o → A' b o) ∧ AvOK A' w ∧ IniOK (⟨u, S', trR (geB B) (oPt T (oRd F.E)) x []⟩ :: rest) A' w := by
  obtain ⟨A', b, rfl, h1, h2, h3, h4⟩ := h.freezeT hA hAA hA0 fun _ h => h
  exact ⟨A', _, h1, h2, h3, h4.boxR⟩
variable {P : Program} {R : Reg} {t : TypeId} {p : String} {af : Array Edge} {g : Option (Nat × Bool)} {x : Operand} {u : Value}
theorem took_refill {ad : Operand} {T' Tb : TypeId} {a0 y' : α} {Sv ST S0 : Nat → Prop} {cs : List Value} {pins : List Pin} (h : (trP (oPt Tb (oRd F.E)) a0 pins).P A w S0 u) (hv : F.own A w Sv y' cs) (hxv : evalR R x = F.E.val cs) (had : evalR R ad = u) (hd : ∀ k, S0 k → ¬ Sv k) (hST : ∀ k, ST k ↔ S0 k ∨ Sv k) (hav : ∀ k, ST k → ∀ o, A k o)
    (hB : ∀ k, ST k → K k) (hsz : ∀ w, (sizeOf T').run P w = .ok F.E.size w) : OpR P ⟨none, .store T' ad x, t, p, af, g⟩ R w (TookS A false u ST (trR K (oPt Tb F) y' []) (fun _ => .any) w) := by
  obtain ⟨⟨es, e, b, ds, S1, rfl, hb, ⟨hno, hr⟩, h3, h4⟩, _⟩ := h
  have hu : u = .pointer (some ⟨b, 0, none⟩) := e
  have hSb : S0 b := (h4 b).2 (.inl rfl)
  have hcs := F.len hv
  have hcl := F.cells hv
  have hvb : ¬ Sv b := hd b hSb
  have hdl := F.E.len hr
  obtain ⟨w', h1, h2, h3'⟩ := run_storeVar (P := P) (o := 0) (v := evalR R x) hsz (by rw [hxv, hcl]; exact F.oc hv) (by rw [hxv, ← Array.length_toList, hcl]; exact hcs) hb (by simp; omega)
  rw [hxv, hcl] at h3'
  refine opr_skip (w' := w') ?_ ?_
  · simp only [execOp, Instr.storeAt, Instr.sureAddr, had, hu]
    simp [h1]
  · have hch : Ch ST w w' := ⟨h2.ch.os, h2.ch.tape, h2.ch.output, h2.ch.size, fun k hk hn => h2.ch.block k hk fun e => hn ((hST k).2 (.inl (e ▸ hSb))), h2.ch.drawn⟩
    have hsub : ∀ k, k < w.heap.size → (k = b ∨ Sv k) → ST k := fun k _ hk => (hST k).2 (hk.elim (fun h => .inl (h ▸ hSb)) .inr)
    have hst := stp_swapS hav hch hsub
    have hne : ∀ k, Sv k → k ≠ b := fun k hk e => hvb (e ▸ hk)
    have hv' : F.own (swapS A ST fun k => k = b ∨ Sv k) w' Sv y' cs := F.stab hv (fun k hk => h2.block k (hne k hk)) hst
    refine ⟨u, fun k => k = b ∨ Sv k, rfl, hch, hsub, hst, trivial, ⟨fun k hk => hB k ((hST k).2 (hk.elim (fun h => .inl (h ▸ hSb)) .inr)), ⟨⟨[.pointer (some ⟨b, 0, none⟩)], hu, b, cs, Sv, rfl, ?_, hv', hvb, fun k => Iff.rfl⟩, fun q hq => by cases hq⟩⟩, trivial⟩
    have e2 : lay ds.toArray 0 cs = cs.toArray := by
      rw [lay_list _ _ _ (by omega), List.take_zero, List.nil_append, List.drop_of_length_le (by omega), List.append_nil]
    rw [← e2]
    exact h3'
theorem took_refill2 {ad : Operand} {T' Tb : TypeId} {a0 y' : α} {pins : List Pin} {ρ : Nat → Value} {σ : Nat → Nat → Prop} {c1 c2 : Nat} (hne : Nat.beq c1 c2 = false) (h : (trP (oPt Tb (oRd F.E)) a0 pins).P A w (σ c1) u) (hv : ∃ cs, ρ c2 = F.E.val cs ∧ F.own A w (σ c2) y' cs) (hx : evalR R x = ρ c2) (had : evalR R ad = u)
    (hav : ∀ d, d ∈ [c1, c2] → ∀ k, σ d k → ∀ o, A k o) (hdd : ∀ d d', d ∈ [c1, c2] → d' ∈ [c1, c2] → d ≠ d' → ∀ k, σ d k → ¬ σ d' k) (hB1 : ∀ k, σ c1 k → K k) (hB2 : ∀ k, σ c2 k → K k) (hsz : ∀ w, (sizeOf T').run P w = .ok F.E.size w) :
    OpR P ⟨none, .store T' ad x, t, p, af, g⟩ R w (TookS A false u (fun k => ∃ d, d ∈ [c1, c2] ∧ σ d k) (trR K (oPt Tb F) y' []) (fun _ => .any) w) := by
  obtain ⟨cs, e, hv⟩ := hv
  have hm1 : c1 ∈ [c1, c2] := .head _
  have hm2 : c2 ∈ [c1, c2] := .tail _ (.head _)
  have hne' : c1 ≠ c2 := fun h => by subst h; simp at hne
  have hST : ∀ k, (∃ d, d ∈ [c1, c2] ∧ σ d k) ↔ σ c1 k ∨ σ c2 k := fun k => by
    constructor
    · rintro ⟨d, hd, hk⟩
      rcases List.mem_cons.1 hd with hd | hd
      · exact .inl (hd ▸ hk)
      · exact .inr (List.mem_singleton.1 hd ▸ hk)
    · exact fun h => h.elim (fun h => ⟨c1, hm1, h⟩) fun h => ⟨c2, hm2, h⟩
  exact took_refill h hv (hx.trans e) had (hdd c1 c2 hm1 hm2 hne') hST (fun k ⟨d, hd, h⟩ => hav d hd k h) (fun k hk => ((hST k).1 hk).elim (hB1 k) (hB2 k)) hsz
end
end Go.Proofs.YtpneepiboheldaaDoor
/- Maps of the call's own, as functions of their keys. No statement of the seat is proved here. -/
namespace Go.Proofs.YtpneepiboheldaaDoor
open Go.RowKit Go.Maps Go.WideMaps
set_option linter.unusedVariables false
/-- an element reads as itself -/
def rdV (v : Value) : Option (DataW Value × List MemPlace) := some (.held v, [])
/-- block b is a map of at most n entries; f says what stands at a key (none: no entry) -/
def MapAt (P : Program) (k : TypeId) (w : World) (b n : Nat) (f : List UInt8 → Option Value) : Prop :=
  ∃ D : DataW Value, w.ownsMap P k rdV b n D ∧ ∀ s zd, D.atKey (.string s) zd = (match f s with | none => zd | some v => .held v)
variable {P : Program} {k t e : TypeId} {w : World} {b n : Nat} {f : List UInt8 → Option Value}
theorem MapAt.made (P : Program) (k : TypeId) (w : World) : MapAt P k (w.alloc (.map #[] 0)) w.heap.size 0 fun _ => none :=
  ⟨_, World.ownsMap_made w P k rdV, fun _ _ => rfl⟩
theorem MapAt.lt (h : MapAt P k w b n f) : b < w.heap.size := let ⟨_, h, _⟩ := h; h.lt
theorem MapAt.lookup (h : MapAt P k w b n f) (hk : P.underlying k = some .string) (ht : P.underlying t = some (.map k e)) {z : Value} (hz : (zeroValue e).run P w = .ok z w) {s : ByteArray} (hs : s.size ≤ maxLen) :
    (Instr.lookup t (.map (some b)) (.string s) false).run P w = .ok ((f s.data.toList).getD z) w := by
  obtain ⟨D, hD, hf⟩ := h
  obtain ⟨v, ps, hrun, hv⟩ := hD.lookup (Maps.string_keyed hk) ht hz (zd := .held z) (zp := []) rfl (keyOf_string_mk hk hs)
  rw [hf] at hv
  have : v = (f s.data.toList).getD z := by
    cases hfs : f s.data.toList with
    | none => rw [hfs] at hv; exact DataW.held.inj (Prod.mk.inj (Option.some.inj hv)).1
    | some u => rw [hfs] at hv; exact DataW.held.inj (Prod.mk.inj (Option.some.inj hv)).1
  rw [hrun, this]
theorem MapAt.same {w' : World} (h : MapAt P k w b n f) (hb : w'.heap[b]? = w.heap[b]?) : MapAt P k w' b n f := by
  obtain ⟨D, ⟨es, c, h1, h2⟩, hf⟩ := h
  exact ⟨D, ⟨es, c, hb.trans h1, h2⟩, hf⟩
/-- a map of rows of the call's own: at the key s stands the row ms s (or, where that is empty, perhaps nothing); the rows at the keys of 'out' have been taken out of it (their headers stand there still) -/
def mapSP {α : Type} (P : Program) (k : TypeId) (B : Nat) (T : TypeId) (E : Enc α) (ms : List UInt8 → List α) (out : List (List UInt8)) (n : Nat) : SP where
  P A w S u := ∃ b f, u = .map (some b) ∧ B ≤ b ∧ MapAt P k w b n f ∧ (∀ i, S i ↔ i = b ∨ ∃ s v, s ∉ out ∧ f s = some v ∧ ownsB v i) ∧
    (∀ s, s ∉ out → (f s = none → ms s = []) ∧ ∀ v, f s = some v → (Res.vec B T E (ms s)).ok A v w ∧ ¬ ownsB v b) ∧
    (∀ s s' v v' i, s ∉ out → s' ∉ out → s ≠ s' → f s = some v → f s' = some v' → ownsB v i → ¬ ownsB v' i)
  lt := by
    rintro A w S u i ⟨b, f, rfl, hB, hm, hS, hr, hd⟩ hi
    rcases (hS i).1 hi with rfl | ⟨s, v, hs, hv, ho⟩
    · exact hm.lt
    · exact Res.lt ((hr s hs).2 v hv).1 rfl ho
  stab := by
    rintro A A' w w' S u ⟨b, f, rfl, hB, hm, hS, hr, hd⟩ hb hs
    refine ⟨b, f, rfl, hB, hm.same (hb b ((hS b).2 (.inl rfl))), hS, fun s hn => ⟨(hr s hn).1, fun v hv => ⟨?_, ((hr s hn).2 v hv).2⟩⟩, hd⟩
    exact Res.stab ((hr s hn).2 v hv).1 (fun i hi => hb i ((hS i).2 (.inr ⟨s, v, hn, hv, hi⟩))) hs
/-- made -/
theorem mapSP.made {α : Type} {B : Nat} {T : TypeId} {E : Enc α} {A : Av} (hB : B ≤ w.heap.size) :
    (mapSP P k B T E (fun _ => []) [] 0).P A (w.alloc (.map #[] 0)) (fun i => i = w.heap.size) (.map (some w.heap.size)) :=
  ⟨_, _, rfl, hB, MapAt.made P k w, fun i => ⟨.inl, fun h => h.elim id fun ⟨s, v, _, h, _⟩ => (by cases h)⟩, fun s _ => ⟨fun _ => rfl, fun v h => (by cases h)⟩, fun s s' v v' i _ _ _ h => (by cases h)⟩
/-- looked up: the row comes out -/
theorem mapSP.lookup {α : Type} {B : Nat} {T : TypeId} {E : Enc α} {A : Av} {ms : List UInt8 → List α} {out : List (List UInt8)} {S : Nat → Prop} {u : Value} (h : (mapSP P k B T E ms out n).P A w S u)
    (hk : P.underlying k = some .string) (ht : P.underlying t = some (.map k e)) (hz : (zeroValue e).run P w = .ok (.slice none 0 0) w) {s : ByteArray} (hs : s.size ≤ maxLen) (ho : s.data.toList ∉ out)
    (hnil : (Res.vec B T E ([] : List α)).ok A (.slice none 0 0) w) :
    ∃ v S', (Instr.lookup t u (.string s) false).run P w = .ok v w ∧ (Res.vec B T E (ms s.data.toList)).ok A v w ∧ (mapSP P k B T E ms (s.data.toList :: out) n).P A w S' u ∧ (∀ i, S i ↔ S' i ∨ ownsB v i) ∧ ∀ i, ownsB v i → ¬ S' i := by
  obtain ⟨b, f, rfl, hB, hm, hS, hr, hd⟩ := h
  have hrun := hm.lookup hk ht hz hs
  refine ⟨(f s.data.toList).getD (.slice none 0 0), fun i => i = b ∨ ∃ s' v, s' ∉ s.data.toList :: out ∧ f s' = some v ∧ ownsB v i, hrun, ?_, ⟨b, f, rfl, hB, hm, fun i => Iff.rfl, fun s' hs' => hr s' fun h => hs' (.tail _ h), fun s1 s2 v1 v2 i h1 h2 => hd s1 s2 v1 v2 i (fun h => h1 (.tail _ h)) fun h => h2 (.tail _ h)⟩, fun i => ?_, fun i hi h => ?_⟩
  · cases hf : f s.data.toList with
    | none => rw [(hr _ ho).1 hf]; exact hnil
    | some v => exact ((hr _ ho).2 v hf).1
  · rw [hS i]
    constructor
    · rintro (rfl | ⟨s', v, h1, h2, h3⟩)
      · exact .inl (.inl rfl)
      · by_cases e : s' = s.data.toList
        · subst e; exact .inr (by rw [h2]; exact h3)
        · exact .inl (.inr ⟨s', v, fun h => (List.mem_cons.1 h).elim e h1, h2, h3⟩)
    · rintro ((rfl | ⟨s', v, h1, h2, h3⟩) | h)
      · exact .inl rfl
      · exact .inr ⟨s', v, fun h => h1 (.tail _ h), h2, h3⟩
      · cases hf : f s.data.toList with
        | none => rw [hf] at h; exact h.elim
        | some v => rw [hf] at h; exact .inr ⟨_, v, ho, hf, h⟩
  · cases hf : f s.data.toList with
    | none => rw [hf] at hi; exact hi.elim
    | some v =>
      rw [hf] at hi
      rcases h with rfl | ⟨s', v', h1, h2, h3⟩
      · exact ((hr _ ho).2 v hf).2 hi
      · exact hd _ s' v v' i ho (fun h => h1 (.tail _ h)) (fun e => h1 (e ▸ .head _)) hf h2 hi h3
theorem IniOK.snoc {ini : List Ob} {A : Av} {w : World} (h : IniOK ini A w) (p : Ob) (hok : p.r.ok A p.u w) (hav : ∀ k, p.S k → ∀ o, A k o) (hown : p.r.own A p.u p.S w) (hd : ∀ (j : Nat) q, ini[j]? = some q → ∀ k, p.S k → ¬ q.S k) : IniOK (ini ++ [p]) A w := by
  have hat : ∀ (j : Nat) q, (ini ++ [p])[j]? = some q → ini[j]? = some q ∨ j = ini.length ∧ q = p := fun j q hq => by
    rcases Nat.lt_or_ge j ini.length with hl | hl
    · rw [List.getElem?_append_left hl] at hq; exact .inl hq
    · rw [List.getElem?_append_right hl] at hq
      cases hj : j - ini.length with
      | zero => rw [hj] at hq; exact .inr ⟨by omega, (Option.some.inj hq).symm⟩
      | succ m => rw [hj] at hq; cases hq
  refine ⟨fun j q hq => ?_, fun j q hq => ?_, fun i j q q' hq hq' hne k hk hk' => ?_⟩
  · rcases hat j q hq with h1 | ⟨_, rfl⟩
    · exact h.ok j q h1
    · exact ⟨hok, hav⟩
  · rcases hat j q hq with h1 | ⟨_, rfl⟩
    · exact h.own j q h1
    · exact hown
  · rcases hat i q hq with h1 | ⟨e1, rfl⟩
    · rcases hat j q' hq' with h2 | ⟨_, rfl⟩
      · exact h.dis i j q q' h1 h2 hne k hk hk'
      · exact hd i q h1 k hk' hk
    · rcases hat j q' hq' with h2 | ⟨e2, rfl⟩
      · exact hd j q' h2 k hk hk'
      · exact hne (e1.trans e2.symm)
/-- a row comes out of a map -/
theorem IniOK.look {α : Type} {ini : List Ob} {A : Av} {K : Nat → Prop} {B : Nat} {T : TypeId} {E : Enc α} {ms : List UInt8 → List α} {out : List (List UInt8)} {S : Nat → Prop} {u : Value} (h : IniOK ini A w) (i : Nat)
    (hi : ini[i]? = some ⟨u, S, .gen K (mapSP P k B T E ms out n)⟩) (hk : P.underlying k = some .string) (ht : P.underlying t = some (.map k e)) (hz : (zeroValue e).run P w = .ok (.slice none 0 0) w) {s : ByteArray} (hs : s.size ≤ maxLen) (ho : s.data.toList ∉ out)
    (hnil : (Res.vec B T E ([] : List α)).ok A (.slice none 0 0) w) :
    ∃ v S', (Instr.lookup t u (.string s) false).run P w = .ok v w ∧ IniOK (ini.set i ⟨u, S', .gen K (mapSP P k B T E ms (s.data.toList :: out) n)⟩ ++ [ob v (.vec B T E (ms s.data.toList))]) A w ∧ (∀ k, ownsB v k → S k) ∧ ∀ k, S' k → S k := by
  obtain ⟨hK, hP⟩ := h.own i _ hi
  obtain ⟨v, S', hrun, hv, hP', hS, hd⟩ := mapSP.lookup hP hk ht hz hs ho hnil
  have h1 := h.put i hi ⟨u, S', .gen K (mapSP P k B T E ms (s.data.toList :: out) n)⟩ trivial ⟨fun j hj => hK j ((hS j).2 (.inl hj)), hP'⟩ fun j hj => (hS j).2 (.inl hj)
  refine ⟨v, S', hrun, h1.snoc _ hv (fun j hj => (h.ok i _ hi).2 j ((hS j).2 (.inr hj))) rfl (fun j q hq m hm hm' => ?_), fun j hj => (hS j).2 (.inr hj), fun j hj => (hS j).2 (.inl hj)⟩
  have hl := (List.getElem?_eq_some_iff.1 hi).1
  by_cases ej : j = i
  · subst ej
    rw [List.getElem?_set_self hl] at hq
    cases hq
    exact hd m hm hm'
  · rw [List.getElem?_set_ne (Ne.symm ej)] at hq
    exact h.dis i j _ q hi hq (Ne.symm ej) m ((hS m).2 (.inr hm)) hm'
section
variable {R : Reg} {m x y : Operand} {d : Option Nat} {ty : TypeId} {pp : String} {af : Array Edge} {A : Av}
end
section
variable {A : Av} {b : Nat} {o : Obj}
end
/-- a row of one tree -/
theorem took_buildT {R : Reg} {x : Operand} {d : Option Nat} {ty : TypeId} {pp : String} {af : Array Edge} {g : Option (Nat × Bool)} {A : Av} {α : Type} {K Sv : Nat → Prop} {F : OE α} {y : α} {u z : Value} {pins : List Pin} (h : (trP F y pins).P A w Sv u) (hx : evalR R x = u) (hav : ∀ k, Sv k → ∀ o, A k o) (hBv : ∀ k, Sv k → K k) (hB : ∀ k, w.heap.size ≤ k → K k)
    (ht : P.underlying t = some (.slice e)) (hsz : ∀ w, (sizeOf e).run P w = .ok F.E.size w) (hz : ∀ w, (zeroValue e).run P w = .ok z w) (hlim : Nat.ble (1 * F.E.size) 16777216 = true) :
    OpR P ⟨d, .buildSlice t 1 #[(0, x)], ty, pp, af, g⟩ R w (TookS A true u Sv (trR K (oSl e F) [y] []) (fun _ => .any) w) := by
  obtain ⟨⟨cs, rfl, h⟩, _⟩ := h
  have hrow : Row F.E av0 w R [x] [y] := ⟨⟨cs, hx, F.rep (A0 := av0) h (fun _ _ h => h.elim) fun _ _ _ h => h⟩, trivial⟩
  have hrun := run_build_op (d := d) (t := ty) (p := pp) (af := af) (g := g) hrow ht hsz hz (n := 1) rfl hlim
  have hcl := F.cells h
  have harr : (([x].map (evalR R)).flatMap fun v => v.cells.toList).toArray = cs.toArray := by
    show ((evalR R x).cells.toList ++ []).toArray = _
    rw [hx, hcl, List.append_nil]
  rw [harr] at hrun
  have hf := Fr.alloc w (.cells cs.toArray e)
  have hsub : ∀ k, k < w.heap.size → (k = w.heap.size ∨ Sv k) → Sv k := fun k hk h => h.elim (fun e => absurd e (by omega)) id
  have hst := stp_swapS (S'' := fun k => k = w.heap.size ∨ Sv k) hav (hf.ch Sv) hsub
  refine opr_val hrun ⟨_, fun k => k = w.heap.size ∨ Sv k, rfl, hf.ch Sv, hsub, hst, trivial, ⟨fun k hk => hk.elim (fun e => hB k (Nat.le_of_eq (Eq.symm e))) (hBv k), ⟨[.slice (some ⟨w.heap.size, 0, none⟩) 1 1], rfl, .inr ⟨w.heap.size, 1, cs.toArray, fun _ => Sv, rfl, Blk.new w e cs.toArray, Nat.le_refl _, by unfold maxLen; omega, ?_, ?_, ?_, ?_, ?_⟩⟩, fun q hq => by cases hq⟩, trivial⟩
  · rw [List.size_toArray, F.len h, Nat.one_mul]
  · intro i y' hy
    cases i with
    | zero =>
      cases hy
      refine ⟨cs, F.stab h (fun k hk => hf.block k (F.lt h hk)) hst, fun j u hj => ?_⟩
      rw [Nat.zero_mul, Nat.zero_add, List.getElem?_toArray]
      exact hj
    | succ i => cases hy
  · intro i j k hi hj hne
    have h1 : i < 1 := hi
    have h2 : j < 1 := hj
    exact absurd (show i = j by omega) hne
  · intro i _ hk
    exact absurd (F.lt h hk) (Nat.lt_irrefl _)
  · intro k
    exact ⟨fun h => h.imp id fun h => ⟨0, Nat.zero_lt_one, h⟩, fun h => h.imp id fun ⟨_, _, h⟩ => h⟩
/-- a tree behind a row of trees -/
theorem append_tree {A : Av} {α : Type} {F : OE α} {xs : List α} {y : α} {S1 S2 : Nat → Prop} {u1 u2 : Value} {ty : TypeId} (h1 : (oSl e F).own A w S1 xs [u1]) (h2 : (oSl e F).own A w S2 [y] [u2]) (hd : ∀ k, S1 k → ¬ S2 k)
    (ht : P.underlying t = some (.slice e)) (he : ElF P e F.E.size) (hb : e ≠ tByte) (hl : lenOK (xs.length + 1) = true) :
    ∃ v' w' S', (Builtin.append_ #[t, t] ty #[u1, u2]).run P w = .ok v' w' ∧ Ch S1 w w' ∧ (∀ k, k < w.heap.size → S' k → S1 k ∨ S2 k) ∧ ∀ A', Stp A A' w w' → (oSl e F).own A' w' S' (xs ++ [y]) [v'] := by
  obtain ⟨inf, z, b, hi, hz, hs, hby, hzs, hs0, hb4⟩ := he
  have hl := lenOK_le hl
  have hbytes : (xs.length + 1) * b ≤ 140737488355328 := by
    have := Nat.mul_le_mul hl hb4
    omega
  have hm : xs.length + 1 ≤ maxLen := by unfold maxLen; omega
  obtain ⟨h0, _, _⟩ | ⟨g2, c2, arr2, Si2, e2, hk2, _, _, hz2, hE2⟩ := h2
  · exact absurd ‹[y] = []› (by simp)
  obtain rfl := (List.cons.inj e2).1
  obtain ⟨ds, hds, hat2⟩ := hE2.el 0 y rfl
  have hdl : ds.length = F.E.size := F.len hds
  -- the row as cells
  have hrow : ∃ (cs : List Value) (Si : Nat → Nat → Prop), RowM w 0 e F.E.size u1 xs.length cs ∧ (∀ k, ownsB u1 k → S1 k) ∧ (∀ i x, xs[i]? = some x → ∃ ds, F.own A w (Si i) x ds ∧ ∀ (j : Nat) u, ds[j]? = some u → cs[i * F.E.size + j]? = some u) ∧
      (∀ i j k, i < xs.length → j < xs.length → i ≠ j → Si i k → ¬ Si j k) ∧ (∀ i k, i < xs.length → Si i k → ¬ ownsB u1 k) ∧ (∀ i k, i < xs.length → Si i k → S1 k) ∧ ∀ k, S1 k → ownsB u1 k ∨ ∃ i, i < xs.length ∧ Si i k := by
    rcases h1 with ⟨e1, rfl, hS⟩ | ⟨g, c, arr, Si, e1, hk, hlc, hcm, hsz, hE⟩
    · obtain rfl := (List.cons.inj e1).1
      exact ⟨[], fun _ _ => False, ⟨by simp, .inl ⟨rfl, rfl⟩⟩, fun k h => h.elim, fun i x h => by simp at h, fun i j k h => absurd h (Nat.not_lt_zero _), fun i k h => absurd h (Nat.not_lt_zero _), fun i k h => absurd h (Nat.not_lt_zero _), fun k h => absurd h (hS k)⟩
    · obtain rfl := (List.cons.inj e1).1
      have hle : xs.length * F.E.size ≤ arr.size := hsz ▸ Nat.mul_le_mul_right _ hlc
      refine ⟨arr.toList.take (xs.length * F.E.size), Si, ⟨by have e0 : arr.toList.length = arr.size := Array.length_toList; rw [List.length_take, e0, Nat.min_eq_left hle], .inr ⟨g, c, arr, rfl, Nat.zero_le _, BlkM.of hk, hlc, hcm, hsz, rfl⟩⟩, fun k hk => (hE.set k).2 (.inl (Eq.symm hk)), fun i x hx => ?_, hE.dis, fun i k hi hk h => hE.out i hi (show Si i g from (show g = k from h) ▸ hk), fun i k hi hk => (hE.set k).2 (.inr ⟨i, hi, hk⟩), fun k hk => ((hE.set k).1 hk).imp (fun h => (Eq.symm h)) id⟩
      obtain ⟨ds', h3, h4⟩ := hE.el i x hx
      refine ⟨ds', h3, fun j u hj => ?_⟩
      have hil : i < xs.length := (List.getElem?_eq_some_iff.1 hx).1
      have hjl : j < F.E.size := by have := (List.getElem?_eq_some_iff.1 hj).1; rw [F.len h3] at this; exact this
      have hlt : i * F.E.size + j < xs.length * F.E.size := by
        have := Nat.mul_le_mul_right F.E.size (show i + 1 ≤ xs.length from hil)
        rw [Nat.add_mul, Nat.one_mul] at this
        omega
      rw [List.getElem?_take_of_lt hlt, Array.getElem?_toList]
      exact h4 j u hj
  obtain ⟨cs, Si, hown, hu1, hel, hdis, hout, hin, hcov⟩ := hrow
  obtain ⟨v', w', hrun, hown', hch, hsame⟩ := run_append_M (P := P) (T := t) (ty := ty) w ht hi hz hs hby hzs hs0 hown ⟨g2, 0, none⟩ 1 c2 ds (by rw [hdl, Nat.one_mul]) (fun j v hj => by
    have := hat2 j v hj
    rw [Nat.zero_mul, Nat.zero_add] at this
    rw [addr_add]
    show w.cell? ⟨g2, 0 + j, none⟩ = _
    rw [Nat.zero_add]
    exact (hk2.cell _).trans this) (F.oc hds) hm hbytes (Nat.zero_le _)
  obtain ⟨hcl, hv⟩ := hown'
  have hcl1 := hown.1
  rcases hv with ⟨_, h⟩ | ⟨g', cap, cur, rfl, _, hk', hnc, hcm', hsz', htk⟩
  · omega
  let Si' : Nat → Nat → Prop := fun i => if i < xs.length then Si i else Si2 0
  have hS2 : ∀ k, Si2 0 k → S2 k := fun k hk => (hE2.set k).2 (.inr ⟨0, Nat.zero_lt_one, hk⟩)
  have hg' : ∀ k, k < w.heap.size → k = g' → ownsB u1 k := fun k hk e => hsame k hk (show g' = k from e.symm)
  have hp : ∀ i, i < xs.length → Si' i = Si i := fun i c => if_pos c
  have hq : ∀ i, ¬ i < xs.length → Si' i = Si2 0 := fun i c => if_neg c
  have hcur : ∀ (m : Nat) u, (cs ++ ds)[m]? = some u → cur[m]? = some u := fun m u h => by
    rw [← htk, List.getElem?_take] at h
    split at h
    · rwa [Array.getElem?_toList] at h
    · cases h
  refine ⟨_, w', fun k => k = g' ∨ (∃ i, i < xs.length + 1 ∧ Si' i k), hrun, ⟨hch.os, hch.tape, hch.output, hch.size, fun k hk hn => hch.block k hk fun h => hn (hu1 k h), hch.drawn⟩, fun k hk h => ?_, fun A' hst => .inr ⟨g', cap, cur, Si', by rw [List.length_append]; rfl, hk'.plain hb, by rw [List.length_append]; exact hnc, hcm', hsz', ⟨fun i x hx => ?_, fun i j k hi hj hne h h' => ?_, fun i hi h => ?_, fun k => by rw [List.length_append]; exact Iff.rfl⟩⟩⟩
  · rcases h with h | ⟨i, _, h⟩
    · exact .inl (hu1 k (hg' k hk h))
    · by_cases c : i < xs.length
      · rw [hp i c] at h; exact .inl (hin i k c h)
      · rw [hq i c] at h; exact .inr (hS2 k h)
  · by_cases c : i < xs.length
    · rw [List.getElem?_append_left c] at hx
      obtain ⟨d1, h3, h4⟩ := hel i x hx
      refine ⟨d1, by rw [hp i c]; exact F.stab h3 (fun k hk => hch.block k (F.lt h3 hk) (hout i k c hk)) hst, fun j u hj => hcur _ _ ?_⟩
      have h5 := h4 j u hj
      rw [List.getElem?_append_left (List.getElem?_eq_some_iff.1 h5).1]
      exact h5
    · have hi' := (List.getElem?_eq_some_iff.1 hx).1
      rw [List.length_append] at hi'
      have hi'' : i < xs.length + 1 := hi'
      obtain rfl : i = xs.length := by omega
      rw [List.getElem?_append_right (Nat.le_refl _), Nat.sub_self] at hx
      cases hx
      refine ⟨ds, by rw [hq _ c]; exact F.stab hds (fun k hk => hch.block k (F.lt hds hk) fun h => hd k (hu1 k h) (hS2 k hk)) hst, fun j u hj => hcur _ _ ?_⟩
      rw [List.getElem?_append_right (by rw [hcl1]; exact Nat.le_add_right _ _), hcl1, Nat.add_sub_cancel_left]
      exact hj
  · rw [List.length_append] at hi hj
    have hi' : i < xs.length + 1 := hi
    have hj' : j < xs.length + 1 := hj
    by_cases ci : i < xs.length
    · rw [hp i ci] at h
      by_cases cj : j < xs.length
      · rw [hp j cj] at h'; exact hdis i j k ci cj hne h h'
      · rw [hq j cj] at h'; exact hd k (hin i k ci h) (hS2 k h')
    · rw [hq i ci] at h
      by_cases cj : j < xs.length
      · rw [hp j cj] at h'; exact hd k (hin j k cj h') (hS2 k h)
      · omega
  · by_cases ci : i < xs.length
    · rw [hp i ci] at h
      obtain ⟨d1, h3, _⟩ := hel i _ (List.getElem?_eq_getElem ci)
      exact hout i g' ci h (hg' g' (F.lt h3 h) rfl)
    · rw [hq i ci] at h
      exact hd g' (hu1 g' (hg' g' (F.lt hds h) rfl)) (hS2 g' h)
end Go.Proofs.YtpneepiboheldaaDoor
/- A tree that goes behind a row of trees at a place of a variable. No statement of the seat is proved here. -/
namespace Go.Proofs.YtpneepiboheldaaDoor
open Go.RowKit
set_option linter.unusedVariables false

section
variable {P : Program} {R : Reg} {w : World} {p : String} {af : Array Edge} {g : Option (Nat × Bool)} {A : Av} {α : Type} {F : OE α} {x x' : Operand} {T e : TypeId} {K : Nat → Prop} {a v : Value}
theorem took_appendPT {ty : TypeId} {xs : List α} {y : α} {Q : List α → Pw} {u0 : Value} {S' : Nat → Prop} {dd : Nat} {ρ : Nat → Value} {σ : Nat → Nat → Prop} {c1 c2 : Nat} (hne : Nat.beq c1 c2 = false) (h : HoleA (oSl e F) A w (σ c1) a xs Q) (hp : PinOK w S' (a, [v])) (hx : evalR R x = v)
    (h2 : (trP (oSl e F) [y] []).P A w (σ c2) (ρ c2)) (hx' : evalR R x' = ρ c2) (hav : ∀ d, d ∈ [c1, c2] → ∀ k, σ d k → ∀ o, A k o) (hdd : ∀ d d', d ∈ [c1, c2] → d' ∈ [c1, c2] → d ≠ d' → ∀ k, σ d k → ¬ σ d' k)
    (hB1 : ∀ k, σ c1 k → K k) (hB2 : ∀ k, σ c2 k → K k) (hB : ∀ k, w.heap.size ≤ k → K k) (hlt : ∀ k, σ c1 k → k < w.heap.size) (ht : P.underlying T = some (.slice e)) (he : ElF P e F.E.size) (hl : lenOK (xs.length + 1) = true) (hb : e ≠ tByte := by decide) :
    OpR P ⟨some dd, .call ⟨.builtin .append, #[x, x'], #[T, T]⟩, ty, p, af, g⟩ R w (TookS A true u0 (fun k => ∃ d, d ∈ [c1, c2] ∧ σ d k) (.gen K (pdP (oSl e F) a Q (xs ++ [y]))) (fun _ => .any) w) := by
  obtain ⟨b, off, S1, cs, rfl, h⟩ := h
  obtain ⟨b', o', e0, _, hc⟩ := hp
  injection e0 with e0
  injection e0 with e0
  injection e0 with e1 e2
  subst e1 e2
  have hl1 : cs.length = 1 := (oSl e F).len h.own
  obtain rfl : cs = [v] := by
    match cs, hl1 with
    | [c], _ =>
      have h1 := h.at' 0 c rfl
      have h2 := hc 0 v rfl
      rw [h1] at h2
      injection h2 with h2
      rw [h2]
  obtain ⟨⟨cs2, e2, h2⟩, _⟩ := h2
  have hs2 : ∃ u, cs2 = [u] := by
    rcases h2 with ⟨h, _⟩ | ⟨_, _, _, _, h, _⟩ <;> exact ⟨_, h⟩
  obtain ⟨u2, rfl⟩ := hs2
  have e2 : ρ c2 = u2 := e2
  have hm1 : c1 ∈ [c1, c2] := .head _
  have hm2 : c2 ∈ [c1, c2] := .tail _ (.head _)
  have hne' : c1 ≠ c2 := fun h => by subst h; simp at hne
  have hS1 : ∀ k, S1 k → σ c1 k := h.sub
  obtain ⟨v', w', S2', hrun, hch, hsub, hown⟩ := append_tree (ty := ty) h.own h2 (fun k hk => hdd c1 c2 hm1 hm2 hne' k (hS1 k hk)) ht he hb hl
  have hch' : Ch (fun k => ∃ d, d ∈ [c1, c2] ∧ σ d k) w w' := ⟨hch.os, hch.tape, hch.output, hch.size, fun k hk hn => hch.block k hk fun h => hn ⟨c1, hm1, hS1 k h⟩, hch.drawn⟩
  have hold : ∀ k, σ c1 k → ¬ S1 k → w'.heap[k]? = w.heap[k]? := fun k hk hn => hch.block k (hlt k hk) hn
  have hsub' : ∀ k, k < w.heap.size → ((σ c1 k ∧ ¬ S1 k) ∨ S2' k) → ∃ d, d ∈ [c1, c2] ∧ σ d k := fun k hk h => h.elim (fun h => ⟨c1, hm1, h.1⟩) fun h => (hsub k hk h).elim (fun h => ⟨c1, hm1, hS1 k h⟩) fun h => ⟨c2, hm2, h⟩
  have hst := stp_swapS (S'' := fun k => (σ c1 k ∧ ¬ S1 k) ∨ S2' k) (fun k ⟨d, hd, h⟩ => hav d hd k h) hch' hsub'
  have hbo : ¬ S1 b := h.out
  refine opr_val (v := v') (w' := w') ?_ ⟨v', fun k => (σ c1 k ∧ ¬ S1 k) ∨ S2' k, rfl, hch', hsub', hst, trivial, ⟨fun k hk => ?_, ?_⟩, trivial⟩
  · simp [execOp, resolve, invoke, builtin, hx, hx', e2, hrun]
  · rcases hk with hk | hk
    · exact hB1 k hk.1
    · rcases Nat.lt_or_ge k w.heap.size with h3 | h3
      · exact (hsub k h3 hk).elim (fun h => hB1 k (hS1 k h)) (hB2 k)
      · exact hB k h3
  · obtain ⟨arr, T0, hblk, hsz⟩ := h.blk
    have hb2 := hold b h.inb hbo
    have hdis : ∀ k, S2' k → ¬ (σ c1 k ∧ ¬ S1 k) := fun k hk hn => (hsub k (hlt k hn.1) hk).elim hn.2 fun h => hdd c1 c2 hm1 hm2 hne' k hn.1 h
    refine ⟨b, off, S2', fun k => σ c1 k ∧ ¬ S1 k, [v'], rfl, rfl, hown _ hst, fun k => Iff.rfl, hdis, ⟨h.inb, hbo⟩, ⟨arr, T0, hb2.trans hblk, hsz⟩, fun k hk => Nat.lt_of_lt_of_le (hlt k hk.1) hch.size, fun A' w'' S1' y' ds k1 k2 k3 k4 k5 k6 => ?_⟩
    obtain ⟨arr0, arr1, T1, j1, j2, j3, j4⟩ := k3
    exact h.put A' w'' S1' y' ds k1 k2 ⟨arr0, arr1, T1, hb2.symm.trans j1, j2, j3, j4⟩ (fun k a1 a2 a3 => (k4 k ⟨a1, a2⟩ a3).trans (hold k a1 a2)) (hst.trans k5) (fun k a1 a2 => Classical.byContradiction fun hn => k6 k a1 ⟨a2, hn⟩)
end
end Go.Proofs.YtpneepiboheldaaDoor
/- Base of chains over tables and texts. No statement of the seat is proved here. -/
