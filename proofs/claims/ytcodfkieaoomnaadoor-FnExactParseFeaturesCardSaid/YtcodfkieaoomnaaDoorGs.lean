/- Errors as whether there is one; Atoi, Split, Cut over the library's laid contracts. No statement of the seat is proved here. -/
import Derived.Test.YtcodfkieaoomnaaDoorGt
import Derived.Shelf.Strings.Split
import Derived.Shelf.Strings.Cut
import Derived.Shelf.Strconv.ErrVarAll
import Derived.WideLaws
namespace Go.Proofs.YtcodfkieaoomnaaDoor
open Go.RowKit
set_option linter.unusedVariables false

/-- an error: nil or not -/
def eErr : Enc Bool where
  size := 1
  agg := false
  rep := fun _ _ x cs => (x = false ∧ cs = [.nilIface]) ∨ (x = true ∧ ∃ t p, cs = [.iface t p])
  len := by rintro A w x cs (⟨_, rfl⟩ | ⟨_, t, p, rfl⟩) <;> rfl
  one := fun _ => rfl
  oc := by rintro A w x cs (⟨_, rfl⟩ | ⟨_, t, p, rfl⟩) c hc <;> simp at hc <;> subst hc <;> rfl
  stp := fun _ h => h
section
variable {P : Program} {R : Reg} {w : World} {d : Option Nat} {t : TypeId} {p : String} {af : Array Edge} {g : Option (Nat × Bool)}
theorem of_err_neq {T T' : TypeId} {x : Operand} {a : Bool} {A : Av} (h : Rep eErr A w (evalR R x) a) (hu : P.underlying T = some (.interface (P.methodsAt T))) : OpF P ⟨d, .binOp .neq T x (.const .nilIface) T', t, p, af, g⟩ R w (.raw (.bool a)) := by
  refine opr_val (v := .bool a) (w' := w) ?_ ⟨rfl, Fr.refl _⟩
  have hy : evalR R (.const .nilIface) = .nilIface := rfl
  obtain ⟨cs, hx, (⟨rfl, rfl⟩ | ⟨rfl, t0, p0, rfl⟩)⟩ := h
  · have hx' : evalR R x = .nilIface := hx
    simp [execOp, hx', hy, eqGuard, run_neq_nil_nil w T hu]
  · have hx' : evalR R x = .iface t0 p0 := hx
    simp [execOp, hx', hy, eqGuard, run_neq_held_nil w T t0 p0 hu]
end
def atoiR (s : List UInt8) : Int × Bool := match Lib.atoiAll s with | .ok v => (v, false) | .range => (Lib.atoiSat s, true) | _ => (0, true)
def M_atoi (fu : Nat) (s : List UInt8) : Option (Int × Bool) := ck (lenOK s.length) (some (atoiR s))
theorem fr_of_below {w w' : World} (h : Below w.heap.size w w') : Fr w w' := fr_below noDK h
theorem M_atoi_ok {fu : Nat} {A0 : Av} {p0 : List UInt8} {r : Int × Bool} (hr : M_atoi fu p0 = some r) {w : World} {v0 : Value} (hA : AvOK A0 w) (hG : GTab w) (h0 : Rep eStr A0 w v0 p0) :
    Calls Tryd.prog 34 #[v0] w fun e w' => ∃ v, e = .returned v ∧ ((∃ a b, v = .tuple #[a, b] ∧ a = .int .i64 r.1 ∧ Rep eErr A0 w' b r.2) ∧ Fr w w') := by
  obtain ⟨hb, hr⟩ := ck_some hr
  obtain rfl := Option.some.inj hr
  have hb := lenOK_le hb
  obtain ⟨_, rfl, s, rfl, rfl, hs⟩ := h0
  have hsz : s.size = s.data.toList.length := Lib.size_eq s
  show Calls Tryd.prog _ #[.string s] w _
  unfold atoiR
  cases hc : Lib.atoiAll s.data.toList with
  | ok v =>
    refine (Any.strconv_Atoi_ok Tryd.laysAtoi s (by omega) v hc w).mono ?_
    rintro e w' ⟨he, hw⟩
    refine ⟨_, he, ⟨_, _, rfl, rfl, _, rfl, .inl ⟨rfl, rfl⟩⟩, fr_of_below ?_⟩
    rcases hw with rfl | ⟨t, rfl⟩
    · exact Below.refl _ _
    · exact Lib.bytesWorld_below _ _ _
  | range =>
    obtain ⟨t, p, hv⟩ := hG.eR
    refine (Any.strconv_Atoi_range_var Tryd.laysAtoi s (by omega) hc t p w hv).mono ?_
    rintro e w' ⟨N, he, _, _, hbel⟩
    exact ⟨_, he, ⟨_, _, rfl, rfl, _, rfl, .inr ⟨rfl, _, _, rfl⟩⟩, fr_of_below hbel⟩
  | _ =>
    obtain ⟨t, p, hv⟩ := hG.eS
    refine (Any.strconv_Atoi_syntax_var Tryd.laysAtoi s (by omega) hc t p w hv).mono ?_
    rintro e w' ⟨N, he, _, _, hbel⟩
    exact ⟨_, he, ⟨_, _, rfl, rfl, _, rfl, .inr ⟨rfl, _, _, rfl⟩⟩, fr_of_below hbel⟩
def M_cut (fu : Nat) (s sep : List UInt8) : Option (List UInt8 × List UInt8 × Bool) := ck (decide (s.length < 4294967281)) (some (Lib.cut s sep))
theorem rep_cut {A : Av} {w : World} {l : List UInt8} (h : l.length ≤ 4294967296) : Rep eStr A w (.string ⟨l.toArray⟩) l := ⟨_, rfl, ⟨l.toArray⟩, rfl, rfl, by show l.toArray.size ≤ maxLen; simp only [List.size_toArray]; exact Nat.le_trans h (by decide)⟩
theorem cut_len (s sep : List UInt8) : (Lib.cut s sep).1.length ≤ s.length ∧ (Lib.cut s sep).2.1.length ≤ s.length := by
  unfold Lib.cut
  split
  · simp only [List.length_take, List.length_drop]; omega
  · simp
theorem M_cut_ok {fu : Nat} {A0 : Av} {p0 p1 : List UInt8} {r : List UInt8 × List UInt8 × Bool} (hr : M_cut fu p0 p1 = some r) {w : World} {v0 v1 : Value} (hA : AvOK A0 w) (hG : GTab w) (h0 : Rep eStr A0 w v0 p0) (h1 : Rep eStr A0 w v1 p1) :
    Calls Tryd.prog 19 #[v0, v1] w fun e w' => ∃ v, e = .returned v ∧ ((∃ a b c, v = .tuple #[a, b, c] ∧ Rep eStr A0 w' a r.1 ∧ Rep eStr A0 w' b r.2.1 ∧ c = .bool r.2.2) ∧ Fr w w') := by
  obtain ⟨hb, hr⟩ := ck_some hr
  obtain rfl := Option.some.inj hr
  rw [decide_eq_true_eq] at hb
  obtain ⟨_, rfl, s, rfl, rfl, hs⟩ := h0
  obtain ⟨_, rfl, sep, rfl, rfl, hs1⟩ := h1
  have hsz : s.size = s.data.toList.length := Lib.size_eq s
  obtain ⟨m, hm⟩ := hG.mx
  have hl := cut_len s.data.toList sep.data.toList
  show Calls Tryd.prog _ #[.string s, .string sep] w _
  refine (Any.strings_Cut Tryd.laysCut s sep m w (by omega) hm).mono ?_
  rintro e w' ⟨he, n, rfl⟩
  exact ⟨_, he, ⟨_, _, _, rfl, rep_cut (by omega), rep_cut (by omega), rfl⟩, fr_of_below ⟨rfl, rfl, rfl, Nat.le_refl _, fun _ _ => rfl⟩⟩
/-- the parts of s between the places of sep -/
def splitM (s sep : List UInt8) : List (List UInt8) := (Lib.splitB ⟨sep.toArray⟩ 0 (Lib.countB ⟨s.toArray⟩ ⟨sep.toArray⟩) ⟨s.toArray⟩).map (·.data.toList)
def M_split (fu : Nat) (s sep : List UInt8) : Option (List (List UInt8)) := ck (decide (s.length < 4294967281) && decide (0 < sep.length)) (some (splitM s sep))
theorem splitB_len (sep : ByteArray) : ∀ (k : Nat) (s : ByteArray), ∀ x ∈ Lib.splitB sep 0 k s, x.size ≤ s.size
  | 0, s, x, hx => by rw [List.mem_singleton.1 hx]; exact Nat.le_refl _
  | k + 1, s, x, hx => by
    unfold Lib.splitB at hx
    split at hx
    · rw [List.mem_singleton.1 hx]; exact Nat.le_refl _
    · rcases List.mem_cons.1 hx with rfl | hx
      · rw [ByteArray.size_extract]; omega
      · have := splitB_len sep k _ x hx
        rw [ByteArray.size_extract] at this; omega
theorem M_split_ok {fu : Nat} {A0 : Av} {p0 p1 : List UInt8} {r : List (List UInt8)} (hr : M_split fu p0 p1 = some r) {w : World} {v0 v1 : Value} (hA : AvOK A0 w) (hG : GTab w) (h0 : Rep eStr A0 w v0 p0) (h1 : Rep eStr A0 w v1 p1) :
    Calls Tryd.prog 18 #[v0, v1] w fun e w' => ∃ v, e = .returned v ∧ (Rep (eSl eStr) A0 w' v r ∧ Fr w w') := by
  obtain ⟨hb, hr⟩ := ck_some hr
  obtain rfl := Option.some.inj hr
  rw [Bool.and_eq_true, decide_eq_true_eq, decide_eq_true_eq] at hb
  obtain ⟨_, rfl, s, rfl, rfl, hs⟩ := h0
  obtain ⟨_, rfl, sep, rfl, rfl, hs1⟩ := h1
  have hsz : s.size = s.data.toList.length := Lib.size_eq s
  have hsp : sep.size = sep.data.toList.length := Lib.size_eq sep
  obtain ⟨m, hm⟩ := hG.mx
  have e1 : (⟨s.data.toList.toArray⟩ : ByteArray) = s := by rw [Array.toArray_toList]
  have e2 : (⟨sep.data.toList.toArray⟩ : ByteArray) = sep := by rw [Array.toArray_toList]
  have hall := Lib.splitB_all sep (by omega) 0 _ s rfl
  have hcl := Lib.countB_le sep (by omega) s.size s (Nat.le_refl _)
  have hlen : (Lib.splitB sep 0 (Lib.countB s sep) s).length = Lib.countB s sep + 1 := hall
  show Calls Tryd.prog _ #[.string s, .string sep] w _
  refine (Any.strings_Split { Tryd.laysSplit with } Tryd.laysSplit.i9 s sep m w (by omega) hm (by omega)).mono ?_
  rintro e w' ⟨he, rfl⟩
  refine ⟨_, he, ?_, Fr.alloc w _⟩
  unfold splitM
  rw [e1, e2]
  refine ⟨_, rfl, some ⟨w.heap.size, 0, none⟩, _, _, rfl, by rw [List.length_map, hlen], Nat.le_refl _, by unfold maxLen; omega, fun _ => ⟨w.heap.size, 0, rfl, by simp, fun i x hx => ?_⟩⟩
  rw [List.getElem?_map] at hx
  obtain ⟨z, hz, rfl⟩ := Option.map_eq_some_iff.1 hx
  refine ⟨⟨[.string z], ⟨z, rfl, rfl, Nat.le_trans (splitB_len sep _ s z (List.mem_of_getElem? hz)) hs⟩, fun j u hj => ?_⟩, fun j _ ha => Nat.lt_irrefl _ (hA _ _ ha)⟩
  cases j with
  | zero =>
    simp only [List.getElem?_cons_zero, Option.some.injEq] at hj
    subst hj
    show (w.alloc _).cell? ⟨w.heap.size, 0 + i * 1 + 0, none⟩ = _
    unfold World.cell?
    rw [heap_alloc_new]
    simp [hz]
  | succ j => simp at hj
end Go.Proofs.YtcodfkieaoomnaaDoor
