/- What rests on the tables: Itoa, Join. No statement of the seat is proved here. -/
import Derived.Test.YtcodfkieaoomnaaDoorGv
namespace Go.Proofs.YtcodfkieaoomnaaDoor
open Go.RowKit Go.Sort
set_option linter.unusedVariables false
/-! ### Itoa -/
def M_itoa (fu : Nat) (n : Int) : Option (List UInt8) := ck (i64B n) (some (Lib.itoa n))
theorem decDigits_le : ∀ (k u : Nat), u < 10 ^ (k + 1) → (Lib.decDigits u).length ≤ k + 1
  | 0, u, h => by
    rw [Lib.decDigits, dif_pos (by omega)]
    exact Nat.le_refl _
  | k + 1, u, h => by
    rw [Lib.decDigits]
    split
    · simp
    · rw [List.length_append]
      have := decDigits_le k (u / 10) (by rw [Nat.pow_succ] at h; omega)
      simp
      omega
theorem itoa_len {n : Int} (h0 : -9223372036854775808 ≤ n) (h1 : n ≤ 9223372036854775807) : (Lib.itoa n).length ≤ 21 := by
  unfold Lib.itoa
  split
  · rw [List.length_cons]
    have := decDigits_le 19 n.natAbs (by omega)
    omega
  · have := decDigits_le 19 n.toNat (by omega)
    omega
theorem fr_grown {w : World} (k : Nat) (os : Array Obj) : Fr w (grow (w.drewN k) os) := by
  refine ⟨⟨rfl, rfl, rfl, ?_, fun i hi => ?_⟩, fun _ => ?_⟩
  · simp [grow, World.drewN]
  · simp only [grow, World.drewN]
    rw [Array.getElem?_append_left hi]
  · simp [grow, World.drewN]
theorem M_itoa_ok {fu : Nat} {A0 : Av} {p0 : Int} {r : List UInt8} (hr : M_itoa fu p0 = some r) {w : World} {v0 : Value} (hA : AvOK A0 w) (hG : GTab w) (h0 : v0 = .int .i64 p0) :
    Calls Tryd.prog 53 #[v0] w fun e w' => ∃ v, e = .returned v ∧ (Rep eStr A0 w' v r ∧ Fr w w') := by
  obtain ⟨hb, hr⟩ := ck_some hr
  obtain rfl := Option.some.inj hr
  subst h0
  unfold i64B at hb
  rw [Bool.and_eq_true, decide_eq_true_eq, decide_eq_true_eq] at hb
  refine (Any.strconv_Itoa Tryd.laysItoa p0 hb.1 hb.2 w hG.pow).mono ?_
  rintro e w' ⟨he, k, os, rfl⟩
  refine ⟨_, he, ⟨_, rfl, _, rfl, rfl, ?_⟩, fr_grown k os⟩
  have := itoa_len hb.1 hb.2
  show (Lib.itoa p0).toArray.size ≤ maxLen
  simp only [List.size_toArray]
  exact Nat.le_trans this (by decide)
/-! ### Join -/
def joinL (sep : List UInt8) : List (List UInt8) → List UInt8 := fun xs => Lib.join xs sep
def M_join (fu : Nat) (xs : List (List UInt8)) (sep : List UInt8) : Option (List UInt8) := ck (lenOK xs.length && lenOK (joinL sep xs).length) (some (joinL sep xs))
theorem fr_below {w w' : World} (hn : ¬ DK) (h : Below w.heap.size w w') : Fr w w' := ⟨h, fun h => (hn h).elim⟩
theorem rep_strs {A : Av} {w : World} {v : Value} {xs : List (List UInt8)} (h : Rep (eSl eStr) A w v xs) : ∃ a c, v = .slice a xs.length c ∧ xs.length ≤ c ∧ (0 < xs.length → ∃ b off, a = some ⟨b, off, none⟩ ∧ b < w.heap.size ∧ ∀ (j : Nat) x, xs[j]? = some x → w.cell? ⟨b, off + j, none⟩ = some (.string ⟨x.toArray⟩)) := by
  obtain ⟨cs, hv, a, n, c, rfl, rfl, h2, h3, h4⟩ := h
  refine ⟨a, c, hv, h2, fun hp => ?_⟩
  obtain ⟨b, off, ha, hb, h5⟩ := h4 hp
  refine ⟨b, off, ha, hb, fun j x hx => ?_⟩
  obtain ⟨⟨ds, ⟨s, rfl, rfl, _⟩, h7⟩, _⟩ := h5 j x hx
  have := h7 0 (.string s) rfl
  rw [Nat.add_zero, show off + j * eStr.size = off + j from by show off + j * 1 = _; omega] at this
  rw [this]
theorem noDK : ¬ DK := fun h => h
theorem M_join_ok {fu : Nat} {A0 : Av} {p0 : List (List UInt8)} {p1 r : List UInt8} (hr : M_join fu p0 p1 = some r) {w : World} {v0 v1 : Value} (hA : AvOK A0 w) (h0 : Rep (eSl eStr) A0 w v0 p0) (h1 : Rep eStr A0 w v1 p1) :
    Calls Tryd.prog 38 #[v0, v1] w fun e w' => ∃ v, e = .returned v ∧ (Rep eStr A0 w' v r ∧ Fr w w') := by
  obtain ⟨hb, hr⟩ := ck_some hr
  obtain rfl := Option.some.inj hr
  rw [Bool.and_eq_true] at hb
  have hb1 := lenOK_le hb.1
  have hb2 := lenOK_le hb.2
  obtain ⟨a, c, rfl, hc, hp⟩ := rep_strs h0
  obtain ⟨_, rfl, s, rfl, rfl, hs⟩ := h1
  show Calls Tryd.prog _ #[_, .string s] w _
  have fin : ∀ {l : List UInt8}, l.length ≤ 4294967296 → eStr.rep A0 w l [.string ⟨l.toArray⟩] := fun {l} h => ⟨_, rfl, rfl, by show l.toArray.size ≤ maxLen; simp only [List.size_toArray]; exact Nat.le_trans h (by decide)⟩
  match p0, hp, hb1, hb2, hc with
  | [], hp, hb1, hb2, hc =>
    refine (Any.strings_Join_none Tryd.laysJoin Tryd.extraJoin a c s w).mono ?_
    rintro e w' ⟨he, rfl⟩
    exact ⟨_, he, ⟨_, rfl, _, rfl, rfl, by decide⟩, Fr.refl _⟩
  | [x], hp, hb1, hb2, hc =>
    obtain ⟨b, off, rfl, hbk, h5⟩ := hp (by simp)
    refine (Any.strings_Join_one Tryd.laysJoin Tryd.extraJoin b off c ⟨x.toArray⟩ s w (h5 0 x rfl)).mono ?_
    rintro e w' ⟨he, rfl⟩
    have hj : joinL s.data.toList [x] = x := by simp [joinL, Lib.join, List.intercalate]
    rw [hj] at hb2 ⊢
    exact ⟨_, he, ⟨_, rfl, fin hb2⟩, Fr.refl _⟩
  | x :: y :: xs, hp, hb1, hb2, hc =>
    obtain ⟨b, off, rfl, hbk, h5⟩ := hp (by simp)
    have hm : ((x :: y :: xs).map fun l => (⟨l.toArray⟩ : ByteArray)).map (·.data.toList) = x :: y :: xs := by simp [Function.comp_def]
    have key := Any.strings_Join_many Tryd.laysJoin Tryd.extraJoin b off c ((x :: y :: xs).map fun l => (⟨l.toArray⟩ : ByteArray)) s w (fun j z hz => by
      rw [List.getElem?_map] at hz
      cases hx : (x :: y :: xs)[j]? with
      | none => rw [hx] at hz; cases hz
      | some u => rw [hx] at hz; injection hz with hz; subst hz; exact h5 j u hx) hbk (by simp) (by rw [List.length_map]; omega) (by rw [List.length_map]; exact hc) (by rw [hm]; exact Nat.le_trans hb2 (by decide))
    rw [hm, List.length_map] at key
    refine key.mono ?_
    rintro e w' ⟨he, hbel⟩
    have := fin hb2
    exact ⟨_, he, ⟨_, rfl, eStr.stp ((fr_below noDK hbel).stp A0) this⟩, fr_below noDK hbel⟩
end Go.Proofs.YtcodfkieaoomnaaDoor
