/- The tables that the program reads (the features' names, the powers of ten), and what rests on them: Itoa, Join. No statement of the seat is proved here. -/
import Derived.Test.YtjdnomcpepbdaaaDoorSh
import Derived.Test.YtjdnomcpepbdaaaDoorLay
import Derived.Lib.LaidTab
namespace Go.Proofs.YtjdnomcpepbdaaaDoor
open Go.RowKit Go.Sort
set_option linter.unusedVariables false

/-- the names, as the program's text lays them -/
def featL : List (List UInt8) := [[110, 97, 109, 101], [116, 111, 107, 101, 110, 115], [115, 111, 117, 110, 100], [99, 105, 116, 121], [121, 101, 97, 114], [112, 104, 111, 110, 101]]
def featName : String := "loop.example/g01923/impl.featureNames"
structure GTab (w : World) : Prop where
  feat : w.var? Tryd.prog featName = some (featL.map fun s => Value.string ⟨s.toArray⟩).toArray
  pow : Lib.TabIs Tryd.prog w "internal/strconv.uint64pow10" .u64 Lib.pow10Tab
theorem var_fr {P : Program} {w w' : World} {n : String} {cs : Array Value} (h : w.var? P n = some cs) (hf : Fr w w') : w'.var? P n = some cs := by
  unfold World.var? at *
  cases hg : P.globalNamed n with
  | none => rw [hg] at h; cases h
  | some g =>
    rw [hg] at h
    simp only [Option.bind_some] at h ⊢
    have hlt : g < w.heap.size := by
      rcases Nat.lt_or_ge g w.heap.size with hlt | hge
      · exact hlt
      · rw [Array.getElem?_eq_none hge] at h
        cases h
    rw [hf.block g hlt]
    exact h
theorem GTab.fr {w w' : World} (h : GTab w) (hf : Fr w w') : GTab w' := ⟨var_fr h.feat hf, var_fr h.pow hf⟩
theorem gFeat : Tryd.prog.globalNamed featName = some 0 := by kernel_rfl
theorem var_cell {P : Program} {w : World} {n : String} {cs : Array Value} {g : Nat} (h : w.var? P n = some cs) (hg : P.globalNamed n = some g) {i : Nat} {v : Value} (hi : cs[i]? = some v) : w.cell? ⟨g, i, none⟩ = some v := by
  have := World.var?_cell hg h i
  rw [this, hi]
theorem cell_lt2 {w : World} {b o : Nat} {v : Value} (h : w.cell? ⟨b, o, none⟩ = some v) : b < w.heap.size := cell_lt' h
/-- an element of the table, at its address -/
theorem GTab.featAt {w : World} (h : GTab w) {A : Av} {i : Int} (hi : inR i featL.length = true) {v : Value} (hv : v = .pointer (some ⟨0, i.toNat, none⟩)) : PRep eStr A w v (gtD featL i) := by
  obtain ⟨i0, i1⟩ := inR_iff.1 hi
  have hlt : i.toNat < featL.length := by omega
  have hc := var_cell h.feat gFeat (i := i.toNat) (v := .string ⟨(gtD featL i).toArray⟩) (by
    rw [List.getElem?_toArray, List.getElem?_map, List.getElem?_eq_getElem hlt]
    simp only [Option.map_some, gtD, List.getD_eq_getElem?_getD, List.getElem?_eq_getElem hlt, Option.getD_some])
  refine ⟨_, _, hv, cell_lt' hc, [.string ⟨(gtD featL i).toArray⟩], ⟨⟨(gtD featL i).toArray⟩, rfl, by simp, ?_⟩, fun j u hj => ?_⟩
  · have key : ∀ s ∈ featL, s.length ≤ maxLen := by decide
    have hm : gtD featL i ∈ featL := by
      unfold gtD
      rw [List.getD_eq_getElem?_getD, List.getElem?_eq_getElem hlt]
      exact List.getElem_mem hlt
    have := key _ hm
    simpa [ByteArray.size] using this
  · cases j with
    | zero => simp at hj; subst hj; exact hc
    | succ j => simp at hj
section
variable {P : Program} {R : Reg} {w : World} {d : Option Nat} {t : TypeId} {p : String} {af : Array Edge} {g : Option (Nat × Bool)}
theorem of_indexAddr_g {T e n gb : Nat} {ix : Operand} {k : IntKind} {i : Int} (hi : evalR R ix = .int k i) (hu : P.underlying T = some (.array n e)) (hsz : ∀ w, (sizeOf e).run P w = .ok 1 w) (hr : inR i n = true) :
    OpF P ⟨d, .indexAddr T (.global gb) ix, t, p, af, g⟩ R w (.raw (.pointer (some ⟨gb, i.toNat, none⟩))) := by
  obtain ⟨i0, i1⟩ := inR_iff.1 hr
  refine opr_val (v := .pointer (some ⟨gb, i.toNat, none⟩)) (w' := w) ?_ ⟨rfl, Fr.refl _⟩
  have hadd : ∀ j, (⟨gb, 0, none⟩ : Addr).add j = ⟨gb, j, none⟩ := fun j => by
    unfold Addr.add
    split
    · rename_i h; subst h; rfl
    · simp
  have hg' : evalR R (.global gb) = .pointer (some ⟨gb, 0, none⟩) := rfl
  simp [execOp, Instr.indexAt, Instr.sureAddr, hg', hi, asIntOf, underlying, hu, i0, i1, hsz, hadd]
end
/-! ### Itoa -/
def M_itoa (fu : Nat) (n : Int) : Option (List UInt8) := ck (i64B n) (some (Lib.itoa n))
theorem decDigits_le : ∀ (k u : Nat), u < 10 ^ (k + 1) → (Lib.decDigits u).length ≤ k + 1
  | 0, u, h => by
    rw [Lib.decDigits, dif_pos (by omega)]
    exact Nat.le_refl _
  | k + 1, u, h => by
    rw [Lib.decDigits]
    split
    · simp
    · rw [List.length_append]
      have := decDigits_le k (u / 10) (by rw [Nat.pow_succ] at h; omega)
      simp
      omega
theorem itoa_len {n : Int} (h0 : -9223372036854775808 ≤ n) (h1 : n ≤ 9223372036854775807) : (Lib.itoa n).length ≤ 21 := by
  unfold Lib.itoa
  split
  · rw [List.length_cons]
    have := decDigits_le 19 n.natAbs (by omega)
    omega
  · have := decDigits_le 19 n.toNat (by omega)
    omega
theorem fr_grown {w : World} (k : Nat) (os : Array Obj) : Fr w (grow (w.drewN k) os) := by
  refine ⟨⟨rfl, rfl, rfl, ?_, fun i hi => ?_⟩, fun _ => ?_⟩
  · simp [grow, World.drewN]
  · simp only [grow, World.drewN]
    rw [Array.getElem?_append_left hi]
  · simp [grow, World.drewN]
theorem M_itoa_ok {fu : Nat} {A0 : Av} {p0 : Int} {r : List UInt8} (hr : M_itoa fu p0 = some r) {w : World} {v0 : Value} (hA : AvOK A0 w) (hG : GTab w) (h0 : v0 = .int .i64 p0) :
    Calls Tryd.prog 60 #[v0] w fun e w' => ∃ v, e = .returned v ∧ (Rep eStr A0 w' v r ∧ Fr w w') := by
  obtain ⟨hb, hr⟩ := ck_some hr
  obtain rfl := Option.some.inj hr
  subst h0
  unfold i64B at hb
  rw [Bool.and_eq_true, decide_eq_true_eq, decide_eq_true_eq] at hb
  refine (Any.strconv_Itoa Tryd.laysItoa p0 hb.1 hb.2 w hG.pow).mono ?_
  rintro e w' ⟨he, k, os, rfl⟩
  refine ⟨_, he, ⟨_, rfl, _, rfl, rfl, ?_⟩, fr_grown k os⟩
  have := itoa_len hb.1 hb.2
  show (Lib.itoa p0).toArray.size ≤ maxLen
  simp only [List.size_toArray]
  exact Nat.le_trans this (by decide)
/-! ### Join -/
def joinL (sep : List UInt8) : List (List UInt8) → List UInt8 := fun xs => Lib.join xs sep
def M_join (fu : Nat) (xs : List (List UInt8)) (sep : List UInt8) : Option (List UInt8) := ck (lenOK xs.length && lenOK (joinL sep xs).length) (some (joinL sep xs))
theorem fr_below {w w' : World} (hn : ¬ DK) (h : Below w.heap.size w w') : Fr w w' := ⟨h, fun h => (hn h).elim⟩
theorem rep_strs {A : Av} {w : World} {v : Value} {xs : List (List UInt8)} (h : Rep (eSl eStr) A w v xs) : ∃ a c, v = .slice a xs.length c ∧ xs.length ≤ c ∧ (0 < xs.length → ∃ b off, a = some ⟨b, off, none⟩ ∧ b < w.heap.size ∧ ∀ (j : Nat) x, xs[j]? = some x → w.cell? ⟨b, off + j, none⟩ = some (.string ⟨x.toArray⟩)) := by
  obtain ⟨cs, hv, a, n, c, rfl, rfl, h2, h3, h4⟩ := h
  refine ⟨a, c, hv, h2, fun hp => ?_⟩
  obtain ⟨b, off, ha, hb, h5⟩ := h4 hp
  refine ⟨b, off, ha, hb, fun j x hx => ?_⟩
  obtain ⟨⟨ds, ⟨s, rfl, rfl, _⟩, h7⟩, _⟩ := h5 j x hx
  have := h7 0 (.string s) rfl
  rw [Nat.add_zero, show off + j * eStr.size = off + j from by show off + j * 1 = _; omega] at this
  rw [this]
theorem noDK : ¬ DK := fun h => h
theorem M_join_ok {fu : Nat} {A0 : Av} {p0 : List (List UInt8)} {p1 r : List UInt8} (hr : M_join fu p0 p1 = some r) {w : World} {v0 v1 : Value} (hA : AvOK A0 w) (h0 : Rep (eSl eStr) A0 w v0 p0) (h1 : Rep eStr A0 w v1 p1) :
    Calls Tryd.prog 35 #[v0, v1] w fun e w' => ∃ v, e = .returned v ∧ (Rep eStr A0 w' v r ∧ Fr w w') := by
  obtain ⟨hb, hr⟩ := ck_some hr
  obtain rfl := Option.some.inj hr
  rw [Bool.and_eq_true] at hb
  have hb1 := lenOK_le hb.1
  have hb2 := lenOK_le hb.2
  obtain ⟨a, c, rfl, hc, hp⟩ := rep_strs h0
  obtain ⟨_, rfl, s, rfl, rfl, hs⟩ := h1
  show Calls Tryd.prog _ #[_, .string s] w _
  have fin : ∀ {l : List UInt8}, l.length ≤ 4294967296 → eStr.rep A0 w l [.string ⟨l.toArray⟩] := fun {l} h => ⟨_, rfl, rfl, by show l.toArray.size ≤ maxLen; simp only [List.size_toArray]; exact Nat.le_trans h (by decide)⟩
  match p0, hp, hb1, hb2, hc with
  | [], hp, hb1, hb2, hc =>
    refine (Any.strings_Join_none Tryd.laysJoin Tryd.extraJoin a c s w).mono ?_
    rintro e w' ⟨he, rfl⟩
    exact ⟨_, he, ⟨_, rfl, _, rfl, rfl, by decide⟩, Fr.refl _⟩
  | [x], hp, hb1, hb2, hc =>
    obtain ⟨b, off, rfl, hbk, h5⟩ := hp (by simp)
    refine (Any.strings_Join_one Tryd.laysJoin Tryd.extraJoin b off c ⟨x.toArray⟩ s w (h5 0 x rfl)).mono ?_
    rintro e w' ⟨he, rfl⟩
    have hj : joinL s.data.toList [x] = x := by simp [joinL, Lib.join, List.intercalate]
    rw [hj] at hb2 ⊢
    exact ⟨_, he, ⟨_, rfl, fin hb2⟩, Fr.refl _⟩
  | x :: y :: xs, hp, hb1, hb2, hc =>
    obtain ⟨b, off, rfl, hbk, h5⟩ := hp (by simp)
    have hm : ((x :: y :: xs).map fun l => (⟨l.toArray⟩ : ByteArray)).map (·.data.toList) = x :: y :: xs := by simp [Function.comp_def]
    have key := Any.strings_Join_many Tryd.laysJoin Tryd.extraJoin b off c ((x :: y :: xs).map fun l => (⟨l.toArray⟩ : ByteArray)) s w (fun j z hz => by
      rw [List.getElem?_map] at hz
      cases hx : (x :: y :: xs)[j]? with
      | none => rw [hx] at hz; cases hz
      | some u => rw [hx] at hz; injection hz with hz; subst hz; exact h5 j u hx) hbk (by simp) (by rw [List.length_map]; omega) (by rw [List.length_map]; exact hc) (by rw [hm]; exact Nat.le_trans hb2 (by decide))
    rw [hm, List.length_map] at key
    refine key.mono ?_
    rintro e w' ⟨he, hbel⟩
    have := fin hb2
    exact ⟨_, he, ⟨_, rfl, eStr.stp ((fr_below noDK hbel).stp A0) this⟩, fr_below noDK hbel⟩
end Go.Proofs.YtjdnomcpepbdaaaDoor
