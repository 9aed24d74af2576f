/- Plain: the drawing functions give something, and nothing long. No statement of the seat is proved here. -/
import Derived.Test.YtkebpojbbfnehaaGreatEz
import Derived.Test.YtkebpojbbfnehaaGreatPd
namespace Go.Proofs.YtkebpojbbfnehaaGreat
open Go.RowKit
set_option linter.unusedVariables false
set_option linter.unusedSimpArgs false

/-- something is given, and P holds of it -/
def Sm {α : Type} (o : Option α) (P : α → Prop) : Prop := ∃ r, o = some r ∧ P r
section
variable {α β : Type}
theorem Sm.some {r : α} {P : α → Prop} (h : P r) : Sm (some r) P := ⟨r, rfl, h⟩
theorem Sm.cl [Inhabited α] {o : Option α} {P : α → Prop} {k : α → Option β} {Q : β → Prop} (h : Sm o P) (hk : ∀ r, P r → Sm (k r) Q) : Sm (cl true o k) Q := by
  obtain ⟨r, rfl, hr⟩ := h
  rw [cl_true]
  exact hk r hr
theorem Sm.ck {o : Option α} {P : α → Prop} {b : Bool} (hb : b = true) (h : Sm o P) : Sm (ck b o) P := by rw [ck_t hb]; exact h
theorem Sm.bd {e : α} {k : α → Option β} {Q : β → Prop} (h : Sm (k e) Q) : Sm (bd e k) Q := h
theorem Sm.bif {x y : Option α} {P : α → Prop} {b : Bool} (h1 : b = true → Sm x P) (h2 : b = false → Sm y P) : Sm (bif b then x else y) P := by
  cases b
  · exact h2 rfl
  · exact h1 rfl
theorem Sm.mono {o : Option α} {P Q : α → Prop} (h : Sm o P) (hq : ∀ r, P r → Q r) : Sm o Q := let ⟨r, e, hr⟩ := h; ⟨r, e, hq r hr⟩
end
abbrev TCur := List Int × Int × Int
/-- a cursor over bytes -/
def COK (c : TCur) : Prop := c.1.length ≤ 1048576 ∧ (∀ x ∈ c.1, 0 ≤ x ∧ x ≤ 255) ∧ 0 ≤ c.2.1
theorem i64_wrap {n : Int} (h0 : -9223372036854775808 ≤ n) (h1 : n ≤ 9223372036854775807) : IntKind.i64.wrap n = n := IntWalk.i64_in _ (by omega)
theorem bit_le (a : Int) {m : Nat} (hm : m ≤ 4611686018427387904) : 0 ≤ bitI (fun u v => u &&& v) .i64 a (m : Int) ∧ bitI (fun u v => u &&& v) .i64 a (m : Int) ≤ m := by
  unfold bitI
  dsimp only
  have h : ((BitVec.ofInt IntKind.i64.bits a) &&& (BitVec.ofInt IntKind.i64.bits (m : Int))).toNat ≤ m := by
    rw [BitVec.toNat_and]
    refine Nat.le_trans Nat.and_le_right ?_
    rw [show (BitVec.ofInt IntKind.i64.bits (m : Int)) = BitVec.ofNat IntKind.i64.bits m from BitVec.ofInt_natCast _ _, BitVec.toNat_ofNat]
    exact Nat.mod_le _ _
  rw [i64_wrap (by omega) (by omega)]
  omega
theorem gtD_mem {α : Type} [Inhabited α] {xs : List α} {i : Int} (h0 : 0 ≤ i) (h1 : i < xs.length) : gtD xs i ∈ xs := by
  obtain ⟨n, rfl⟩ : ∃ n : Nat, i = (n : Int) := ⟨i.toNat, by omega⟩
  have hn : n < xs.length := by omega
  rw [gtD_get (List.getElem?_eq_getElem hn)]
  exact List.getElem_mem hn
theorem new_t {fu : Nat} {b : List Int} (hf : 1048577 ≤ fu) (hb : b.length ≤ 1048576) (hx : ∀ x ∈ b, 0 ≤ x ∧ x ≤ 255) : Sm (M_spec_l1New fu b) COK := by
  unfold M_spec_l1New
  refine .ck (i64B_t (by omega) (by omega)) ?_
  have key : ∀ m i k (h : Int), i + m = b.length → m < k → 0 ≤ h → h ≤ 1100000000 → Sm (M_spec_l1New_L0 fu b k h (i : Int)) fun _ => True := by
    intro m
    induction m with
    | zero =>
      intro i k h hi hk h0 h1
      obtain ⟨k, rfl⟩ : ∃ q, k = q + 1 := ⟨k - 1, by omega⟩
      obtain rfl : i = b.length := by omega
      rw [M_spec_l1New_L0, lt_f]
      exact .some trivial
    | succ m ih =>
      intro i k h hi hk h0 h1
      obtain ⟨k, rfl⟩ : ∃ q, k = q + 1 := ⟨k - 1, by omega⟩
      have hlt : i < b.length := by omega
      have hm := hx _ (gtD_mem (xs := b) (i := (i : Int)) (by omega) (by omega))
      rw [M_spec_l1New_L0]
      refine .bd (.bif (fun _ => ?_) fun _ => .some trivial)
      rw [i64_wrap (n := gtD b (i : Int)) (by omega) (by omega)]
      refine .ck (i64B_t (by omega) (by omega)) (.ck (inR_t hlt) (.ck (i64B_t (by omega) (by omega)) (.ck (i64B_t (by omega) (by omega)) (.ck (i64B_n (by omega)) ?_))))
      have hq := bit_le (h * 131 + gtD b (i : Int) + 7) (m := 1073741823) (by omega)
      exact ih (i + 1) k _ (by omega) (by omega) hq.1 (Int.le_trans hq.2 (by omega))
  refine .cl (key b.length 0 fu _ (by omega) (by omega) (by omega) (by omega)) fun s _ => .some ⟨hb, hx, Int.le_refl _⟩
theorem byte_t {fu : Nat} {c : TCur} (hc : COK c) : Sm (M_spec_l1Byte fu c) fun r => COK r.2 ∧ 0 ≤ r.1 ∧ r.1 ≤ 255 := by
  unfold M_spec_l1Byte
  refine .ck rfl (.ck rfl (.bif (fun h => ?_) fun h => ?_))
  · rw [decide_eq_true_eq] at h
    have hi := hc.2.2
    have hl := hc.1
    refine .ck (inR_iff.2 ⟨hi, h⟩) (.some ⟨⟨hl, hc.2.1, ?_⟩, bit_le _ (m := 255) (by omega)⟩)
    show 0 ≤ IntKind.i64.wrap (c.2.1 + 1)
    rw [i64_wrap (by omega) (by omega)]
    omega
  · exact .some ⟨⟨hc.1, hc.2.1, hc.2.2⟩, bit_le _ (m := 255) (by omega)⟩
theorem tmod_in {x n : Int} (h0 : 0 ≤ x) (hn : 0 < n) : 0 ≤ x.tmod n ∧ x.tmod n < n := ⟨Int.tmod_nonneg _ h0, Int.tmod_lt_of_pos _ hn⟩
theorem below_t {fu : Nat} {c : TCur} {n : Int} (hc : COK c) : Sm (M_spec_l1Below fu c n) fun r => COK r.2 ∧ 0 ≤ r.1 ∧ (0 < n → r.1 < n) := by
  unfold M_spec_l1Below
  refine .bif (fun h => ?_) fun h => ?_
  · rw [decide_eq_true_eq] at h
    exact .some ⟨hc, Int.le_refl _, fun h' => by omega⟩
  · rw [decide_eq_false_iff_not] at h
    have hn : (n != 0) = true := by simp; omega
    refine .bif (fun _ => ?_) fun _ => ?_
    · refine .cl (byte_t hc) fun r hr => .ck hn (.some ?_)
      have := tmod_in (n := n) hr.2.1 (by omega)
      exact ⟨hr.1, this.1, fun _ => this.2⟩
    · refine .cl (byte_t hc) fun r1 h1 => .cl (byte_t h1.1) fun r2 h2 => .cl (byte_t h2.1) fun r3 h3 => .cl (byte_t h3.1) fun r4 h4 => ?_
      have a1 := h1.2; have a2 := h2.2; have a3 := h3.2; have a4 := h4.2
      refine .ck (i64B_t (by omega) (by omega)) (.ck (i64B_t (by omega) (by omega)) (.ck (i64B_t (by omega) (by omega)) (.ck (i64B_t (by omega) (by omega)) (.ck (i64B_t (by omega) (by omega)) (.ck (i64B_t (by omega) (by omega)) (.ck hn (.some ?_)))))))
      have := tmod_in (x := r1.1 * 16777216 + r2.1 * 65536 + r3.1 * 256 + r4.1) (n := n) (by omega) (by omega)
      exact ⟨h4.1, this.1, fun _ => this.2⟩
theorem once_t {fu : Nat} {c : TCur} {n : Int} (hc : COK c) : Sm (M_spec_l1Once fu c n) fun r => COK r.2 := by
  unfold M_spec_l1Once
  exact .cl (below_t hc) fun r hr => .some hr.1
theorem pick_t {fu : Nat} {c : TCur} {l : List (List UInt8)} (hc : COK c) (hl : 0 < l.length) : Sm (M_spec_l1Pick fu c l) fun r => COK r.2 ∧ r.1 ∈ l := by
  unfold M_spec_l1Pick
  refine .cl (below_t hc) fun r hr => ?_
  have h1 := hr.2.2 (by omega)
  exact .ck (inR_iff.2 ⟨hr.2.1, h1⟩) (.some ⟨hr.1, gtD_mem hr.2.1 h1⟩)
theorem pickL {fu : Nat} {c : TCur} {l : List (List UInt8)} (m : Nat) (hc : COK c) (hl : 0 < l.length) (hm : ∀ s ∈ l, s.length ≤ m) : Sm (M_spec_l1Pick fu c l) fun r => COK r.2 ∧ r.1.length ≤ m :=
  (pick_t hc hl).mono fun r hr => ⟨hr.1, hm _ hr.2⟩
theorem pickInt_t {fu : Nat} {c : TCur} {l : List Int} (hc : COK c) (hl : 0 < l.length) : Sm (M_spec_l1PickInt fu c l) fun r => COK r.2 ∧ r.1 ∈ l := by
  unfold M_spec_l1PickInt
  refine .cl (below_t hc) fun r hr => ?_
  have h1 := hr.2.2 (by omega)
  exact .ck (inR_iff.2 ⟨hr.2.1, h1⟩) (.some ⟨hr.1, gtD_mem hr.2.1 h1⟩)
theorem lenS {l : List UInt8} (h : l.length ≤ 4294967296) : lenOK l.length = true := lenOK_t h
theorem take_len {α : Type} {xs : List α} {lo hi : Int} : (subL xs lo hi).length ≤ xs.length := by
  unfold subL
  rw [List.length_take, List.length_drop]
  omega
theorem strB_1 (n : Int) : (strB [n]).length = 1 := rfl
/-! ### normal texts -/
theorem foldc_t {fu : Nat} {s : List UInt8} (hf : 1048577 ≤ fu) (hs : s.length ≤ 100000) : Sm (M_spec_FoldCase fu s) fun r => r.length ≤ s.length := by
  unfold M_spec_FoldCase
  have key : ∀ m i k (acc : List Int), i + m = s.length → m < k → acc.length ≤ i → Sm (M_spec_FoldCase_L0 fu s k (i : Int) acc) fun r => r.length ≤ s.length := by
    intro m
    induction m with
    | zero =>
      intro i k acc hi hk ha
      obtain ⟨k, rfl⟩ : ∃ q, k = q + 1 := ⟨k - 1, by omega⟩
      obtain rfl : i = s.length := by omega
      rw [M_spec_FoldCase_L0, lt_f]
      exact .some ha
    | succ m ih =>
      intro i k acc hi hk ha
      obtain ⟨k, rfl⟩ : ∃ q, k = q + 1 := ⟨k - 1, by omega⟩
      have hlt : i < s.length := by omega
      rw [M_spec_FoldCase_L0, lt_t hlt, cond_true, ck_t (inR_t hlt)]
      refine .bd (.bif (fun _ => ?_) fun _ => ?_) <;> exact .ck (lenOK_t (by simp; omega)) (.ck (i64B_n (by omega)) (ih (i + 1) k _ (by omega) (by omega) (by simp; omega)))
  exact .cl (key s.length 0 fu [] (by omega) (by omega) (Nat.le_refl _)) fun r hr => .some (by unfold strB; rw [List.length_map]; exact hr)
end Go.Proofs.YtkebpojbbfnehaaGreat

