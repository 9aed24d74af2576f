/- Plain: the drawing functions give something, and nothing long. No statement of the seat is proved here. -/
import Derived.Test.YtofiipblinonoaaXz
import Derived.Test.YtofiipblinonoaaPd
namespace Go.Proofs.Ytofiipblinonoaa
open Go.RowKit
set_option linter.unusedVariables false
set_option linter.unusedSimpArgs false

/-- something is given, and P holds of it -/
def Sm {α : Type} (o : Option α) (P : α → Prop) : Prop := ∃ r, o = some r ∧ P r
section
variable {α β : Type}
theorem Sm.some {r : α} {P : α → Prop} (h : P r) : Sm (some r) P := ⟨r, rfl, h⟩
theorem Sm.cl [Inhabited α] {o : Option α} {P : α → Prop} {k : α → Option β} {Q : β → Prop} (h : Sm o P) (hk : ∀ r, P r → Sm (k r) Q) : Sm (cl true o k) Q := by
  obtain ⟨r, rfl, hr⟩ := h
  rw [cl_true]
  exact hk r hr
theorem Sm.ck {o : Option α} {P : α → Prop} {b : Bool} (hb : b = true) (h : Sm o P) : Sm (ck b o) P := by rw [ck_t hb]; exact h
theorem Sm.bd {e : α} {k : α → Option β} {Q : β → Prop} (h : Sm (k e) Q) : Sm (bd e k) Q := h
theorem Sm.bif {x y : Option α} {P : α → Prop} {b : Bool} (h1 : b = true → Sm x P) (h2 : b = false → Sm y P) : Sm (bif b then x else y) P := by
  cases b
  · exact h2 rfl
  · exact h1 rfl
theorem Sm.mono {o : Option α} {P Q : α → Prop} (h : Sm o P) (hq : ∀ r, P r → Q r) : Sm o Q := let ⟨r, e, hr⟩ := h; ⟨r, e, hq r hr⟩
end
abbrev TCur := List Int × Int × Int
/-- a cursor over bytes -/
def COK (c : TCur) : Prop := c.1.length ≤ 1048576 ∧ (∀ x ∈ c.1, 0 ≤ x ∧ x ≤ 255) ∧ 0 ≤ c.2.1
theorem i64_wrap {n : Int} (h0 : -9223372036854775808 ≤ n) (h1 : n ≤ 9223372036854775807) : IntKind.i64.wrap n = n := IntWalk.i64_in _ (by omega)
theorem bit_le (a : Int) {m : Nat} (hm : m ≤ 4611686018427387904) : 0 ≤ bitI (fun u v => u &&& v) .i64 a (m : Int) ∧ bitI (fun u v => u &&& v) .i64 a (m : Int) ≤ m := by
  unfold bitI
  dsimp only
  have h : ((BitVec.ofInt IntKind.i64.bits a) &&& (BitVec.ofInt IntKind.i64.bits (m : Int))).toNat ≤ m := by
    rw [BitVec.toNat_and]
    refine Nat.le_trans Nat.and_le_right ?_
    rw [show (BitVec.ofInt IntKind.i64.bits (m : Int)) = BitVec.ofNat IntKind.i64.bits m from BitVec.ofInt_natCast _ _, BitVec.toNat_ofNat]
    exact Nat.mod_le _ _
  rw [i64_wrap (by omega) (by omega)]
  omega
theorem gtD_mem {α : Type} [Inhabited α] {xs : List α} {i : Int} (h0 : 0 ≤ i) (h1 : i < xs.length) : gtD xs i ∈ xs := by
  obtain ⟨n, rfl⟩ : ∃ n : Nat, i = (n : Int) := ⟨i.toNat, by omega⟩
  have hn : n < xs.length := by omega
  rw [gtD_get (List.getElem?_eq_getElem hn)]
  exact List.getElem_mem hn
theorem new_t {fu : Nat} {b : List Int} (hf : 1048577 ≤ fu) (hb : b.length ≤ 1048576) (hx : ∀ x ∈ b, 0 ≤ x ∧ x ≤ 255) : Sm (M_spec_l1New fu b) COK := by
  unfold M_spec_l1New
  refine .ck (i64B_t (by omega) (by omega)) ?_
  have key : ∀ m i k (h : Int), i + m = b.length → m < k → 0 ≤ h → h ≤ 1100000000 → Sm (M_spec_l1New_L0 fu b k h (i : Int)) fun _ => True := by
    intro m
    induction m with
    | zero =>
      intro i k h hi hk h0 h1
      obtain ⟨k, rfl⟩ : ∃ q, k = q + 1 := ⟨k - 1, by omega⟩
      obtain rfl : i = b.length := by omega
      rw [M_spec_l1New_L0, lt_f]
      exact .some trivial
    | succ m ih =>
      intro i k h hi hk h0 h1
      obtain ⟨k, rfl⟩ : ∃ q, k = q + 1 := ⟨k - 1, by omega⟩
      have hlt : i < b.length := by omega
      have hm := hx _ (gtD_mem (xs := b) (i := (i : Int)) (by omega) (by omega))
      rw [M_spec_l1New_L0]
      refine .bd (.bif (fun _ => ?_) fun _ => .some trivial)
      rw [i64_wrap (n := gtD b (i : Int)) (by omega) (by omega)]
      refine .ck (i64B_t (by omega) (by omega)) (.ck (inR_t hlt) (.ck (i64B_t (by omega) (by omega)) (.ck (i64B_t (by omega) (by omega)) (.ck (i64B_n (by omega)) ?_))))
      have hq := bit_le (h * 131 + gtD b (i : Int) + 7) (m := 1073741823) (by omega)
      exact ih (i + 1) k _ (by omega) (by omega) hq.1 (Int.le_trans hq.2 (by omega))
  refine .cl (key b.length 0 fu _ (by omega) (by omega) (by omega) (by omega)) fun s _ => .some ⟨hb, hx, Int.le_refl _⟩
theorem byte_t {fu : Nat} {c : TCur} (hc : COK c) : Sm (M_spec_l1Byte fu c) fun r => COK r.2 ∧ 0 ≤ r.1 ∧ r.1 ≤ 255 := by
  unfold M_spec_l1Byte
  refine .ck rfl (.ck rfl (.bif (fun h => ?_) fun h => ?_))
  · rw [decide_eq_true_eq] at h
    have hi := hc.2.2
    have hl := hc.1
    refine .ck (inR_iff.2 ⟨hi, h⟩) (.some ⟨⟨hl, hc.2.1, ?_⟩, bit_le _ (m := 255) (by omega)⟩)
    show 0 ≤ IntKind.i64.wrap (c.2.1 + 1)
    rw [i64_wrap (by omega) (by omega)]
    omega
  · exact .some ⟨⟨hc.1, hc.2.1, hc.2.2⟩, bit_le _ (m := 255) (by omega)⟩
theorem tmod_in {x n : Int} (h0 : 0 ≤ x) (hn : 0 < n) : 0 ≤ x.tmod n ∧ x.tmod n < n := ⟨Int.tmod_nonneg _ h0, Int.tmod_lt_of_pos _ hn⟩
theorem below_t {fu : Nat} {c : TCur} {n : Int} (hc : COK c) : Sm (M_spec_l1Below fu c n) fun r => COK r.2 ∧ 0 ≤ r.1 ∧ (0 < n → r.1 < n) := by
  unfold M_spec_l1Below
  refine .bif (fun h => ?_) fun h => ?_
  · rw [decide_eq_true_eq] at h
    exact .some ⟨hc, Int.le_refl _, fun h' => by omega⟩
  · rw [decide_eq_false_iff_not] at h
    have hn : (n != 0) = true := by simp; omega
    refine .bif (fun _ => ?_) fun _ => ?_
    · refine .cl (byte_t hc) fun r hr => .ck hn (.some ?_)
      have := tmod_in (n := n) hr.2.1 (by omega)
      exact ⟨hr.1, this.1, fun _ => this.2⟩
    · refine .cl (byte_t hc) fun r1 h1 => .cl (byte_t h1.1) fun r2 h2 => .cl (byte_t h2.1) fun r3 h3 => .cl (byte_t h3.1) fun r4 h4 => ?_
      have a1 := h1.2; have a2 := h2.2; have a3 := h3.2; have a4 := h4.2
      refine .ck (i64B_t (by omega) (by omega)) (.ck (i64B_t (by omega) (by omega)) (.ck (i64B_t (by omega) (by omega)) (.ck (i64B_t (by omega) (by omega)) (.ck (i64B_t (by omega) (by omega)) (.ck (i64B_t (by omega) (by omega)) (.ck hn (.some ?_)))))))
      have := tmod_in (x := r1.1 * 16777216 + r2.1 * 65536 + r3.1 * 256 + r4.1) (n := n) (by omega) (by omega)
      exact ⟨h4.1, this.1, fun _ => this.2⟩
theorem pick_t {fu : Nat} {c : TCur} {l : List (List UInt8)} (hc : COK c) (hl : 0 < l.length) : Sm (M_spec_l1Pick fu c l) fun r => COK r.2 ∧ r.1 ∈ l := by
  unfold M_spec_l1Pick
  refine .cl (below_t hc) fun r hr => ?_
  have h1 := hr.2.2 (by omega)
  exact .ck (inR_iff.2 ⟨hr.2.1, h1⟩) (.some ⟨hr.1, gtD_mem hr.2.1 h1⟩)
theorem pickL {fu : Nat} {c : TCur} {l : List (List UInt8)} (m : Nat) (hc : COK c) (hl : 0 < l.length) (hm : ∀ s ∈ l, s.length ≤ m) : Sm (M_spec_l1Pick fu c l) fun r => COK r.2 ∧ r.1.length ≤ m :=
  (pick_t hc hl).mono fun r hr => ⟨hr.1, hm _ hr.2⟩
theorem lenS {l : List UInt8} (h : l.length ≤ 4294967296) : lenOK l.length = true := lenOK_t h
theorem name_t {fu : Nat} {c : TCur} (hc : COK c) : Sm (M_spec_l2Name fu c) fun r => COK r.2 ∧ r.1.length ≤ 40 := by
  unfold M_spec_l2Name
  refine .cl (pickL 10 hc (by decide) (by decide)) fun a ha => .cl (pickL 10 ha.1 (by decide) (by decide)) fun b hb => .cl (below_t hb.1) fun n hn => ?_
  have h1 := ha.2; have h2 := hb.2
  refine .bif (fun _ => ?_) fun _ => .bif (fun _ => ?_) fun _ => .bif (fun _ => ?_) fun _ => ?_
  · exact .ck (lenS (by simp; omega)) (.ck (lenS (by simp; omega)) (.some ⟨hn.1, by simp; omega⟩))
  · refine .ck (lenS (by simp; omega)) (.cl (pickL 10 hn.1 (by decide) (by decide)) fun p hp => ?_)
    have h3 := hp.2
    exact .ck (lenS (by simp; omega)) (.ck (lenS (by simp; omega)) (.ck (lenS (by simp; omega)) (.some ⟨hp.1, by simp; omega⟩)))
  · exact .some ⟨hn.1, by show a.1.length ≤ 40; omega⟩
  · exact .ck (lenS (by simp; omega)) (.ck (lenS (by simp; omega)) (.some ⟨hn.1, by simp; omega⟩))
theorem text_t {fu : Nat} {c : TCur} {n : Int} (hf : 1048577 ≤ fu) (hc : COK c) (h0 : 0 ≤ n) (h1 : n ≤ 1000) : Sm (M_spec_l1Text fu c n) fun r => COK r.2 ∧ (r.1.length : Int) ≤ n := by
  unfold M_spec_l1Text
  refine .cl (below_t hc) fun x5 h5 => .ck (i64B_t (by omega) (by omega)) (.cl (below_t h5.1) fun x12 h12 => ?_)
  have h12' := h12.2.2 (by omega)
  have key : ∀ (m : Nat) k (cc : TCur) (acc : List Int), m < k → m ≤ 1000 → COK cc → acc.length + m ≤ 1000000 → Sm (M_spec_l1Text_L0 fu x5 k (m : Int) cc acc) fun r => COK r.1 ∧ r.2.length ≤ acc.length + m := by
    intro m
    induction m with
    | zero =>
      intro k cc acc hk hm hcc ha
      obtain ⟨k, rfl⟩ : ∃ q, k = q + 1 := ⟨k - 1, by omega⟩
      rw [M_spec_l1Text_L0, show decide ((0 : Int) < ((0 : Nat) : Int)) = false from rfl, cond_false]
      exact .some ⟨hcc, Nat.le_refl _⟩
    | succ m ih =>
      intro k cc acc hk hm hcc ha
      obtain ⟨k, rfl⟩ : ∃ q, k = q + 1 := ⟨k - 1, by omega⟩
      rw [M_spec_l1Text_L0, pos_i, cond_true, pred_i]
      refine .cl (byte_t hcc) fun x hx => ?_
      have hx2 := hx.2
      have t2 := tmod_in (n := 2) hx2.1 (by omega)
      have t4 := tmod_in (n := 4) hx2.1 (by omega)
      have t24 := tmod_in (n := 4) t2.1 (by omega)
      have step : ∀ v : Int, Sm (M_spec_l1Text_L0 fu x5 k (m : Int) x.2 (acc ++ [v])) fun r => COK r.1 ∧ r.2.length ≤ acc.length + (m + 1) := fun v =>
        (ih k x.2 (acc ++ [v]) (by omega) (by omega) hx.1 (by rw [List.length_append, List.length_singleton]; omega)).mono fun r hr => ⟨hr.1, by have := hr.2; rw [List.length_append, List.length_singleton] at this; omega⟩
      refine .bif (fun _ => .ck rfl (.bif (fun _ => .ck rfl (.ck (i64B_t (by omega) (by omega)) (.ck (lenOK_t (by simp; omega)) (.ck (i64B_i _ (by omega)) (step _))))) fun _ => .ck (lenOK_t (by simp; omega)) (.ck (i64B_i _ (by omega)) (step _)))) fun _ => .bif (fun _ => .ck rfl (.ck (i64B_t (by omega) (by omega)) (.ck (lenOK_t (by simp; omega)) (.ck (i64B_i _ (by omega)) (step _))))) fun _ => .ck (lenOK_t (by simp; omega)) (.ck (i64B_i _ (by omega)) (step _))
  obtain ⟨m, hm⟩ : ∃ m : Nat, x12.1 = (m : Int) := ⟨x12.1.toNat, by have := h12.2.1; omega⟩
  rw [hm]
  refine .cl (key m fu x12.2 [] (by omega) (by omega) h12.1 (by simp; omega)) fun r hr => .some ⟨hr.1, ?_⟩
  have := hr.2
  show ((strB r.2).length : Int) ≤ n
  unfold strB
  rw [List.length_map]
  simp at this
  omega
theorem take_len {α : Type} {xs : List α} {lo hi : Int} : (subL xs lo hi).length ≤ xs.length := by
  unfold subL
  rw [List.length_take, List.length_drop]
  omega
theorem strB_1 (n : Int) : (strB [n]).length = 1 := rfl
theorem spoil_t {fu : Nat} {c : TCur} {s : List UInt8} (hf : 1048577 ≤ fu) (hc : COK c) (hs : s.length ≤ 1000) : Sm (M_spec_l1Spoil fu c s) fun r => COK r.2 ∧ r.1.length ≤ 2 * s.length + 3 := by
  unfold M_spec_l1Spoil
  refine .bif (fun _ => ?_) fun h => ?_
  · refine .cl (text_t hf hc (by omega) (by omega)) fun r hr => .some ⟨hr.1, ?_⟩
    have := hr.2
    show r.1.length ≤ _
    omega
  · have hp : 0 < s.length := by
      rw [beq_eq_false_iff_ne] at h
      omega
    refine .cl (below_t hc) fun x hx => .cl (below_t hx.1) fun y hy => ?_
    have h0 := hx.2.1
    have h1 := hx.2.2 (by omega)
    have q1 : (subL s 0 x.1).length ≤ s.length := take_len
    have q2 : (subL s (x.1 + 1) (s.length : Int)).length ≤ s.length := take_len
    have q3 : (subL s x.1 (s.length : Int)).length ≤ s.length := take_len
    have s1 : subR 0 x.1 s.length = true := subR_iff.2 ⟨by omega, by omega, by omega⟩
    have s2 : subR (x.1 + 1) (s.length : Int) s.length = true := subR_iff.2 ⟨by omega, by omega, by omega⟩
    have s3 : subR x.1 (s.length : Int) s.length = true := subR_iff.2 ⟨by omega, by omega, by omega⟩
    refine .bif (fun _ => .ck s1 (.ck (i64B_t (by omega) (by omega)) (.ck s2 (.ck (lenS (by rw [List.length_append]; omega)) (.some ⟨hy.1, ?_⟩))))) fun _ => .bif (fun _ => .ck s1 (.cl (byte_t hy.1) fun z hz => .ck (lenS (by rw [List.length_append, strB_1]; omega)) (.ck s3 (.ck (lenS (by rw [List.length_append, List.length_append, strB_1]; omega)) (.some ⟨hz.1, ?_⟩))))) fun _ => .bif (fun _ => .ck s1 (.some ⟨hy.1, ?_⟩)) fun _ => .ck s1 (.ck (inR_iff.2 ⟨h0, h1⟩) (.cl (below_t hy.1) fun z hz => ?_))
    · show (_ ++ _ : List UInt8).length ≤ _
      rw [List.length_append]; omega
    · show (_ ++ _ ++ _ : List UInt8).length ≤ _
      rw [List.length_append, List.length_append, strB_1]; omega
    · show (subL s 0 x.1).length ≤ _
      omega
    · have hz1 := hz.2.1
      have hz2 := hz.2.2 (by omega)
      refine .ck (i64B_t (by omega) (by omega)) (.ck (lenS (by rw [List.length_append, strB_1]; omega)) (.ck (i64B_t (by omega) (by omega)) (.ck s2 (.ck (lenS (by rw [List.length_append, List.length_append, strB_1]; omega)) (.some ⟨hz.1, ?_⟩)))))
      show (_ ++ _ ++ _ : List UInt8).length ≤ _
      rw [List.length_append, List.length_append, strB_1]; omega
theorem l2Text_t {fu : Nat} {c : TCur} (hf : 1048577 ≤ fu) (hc : COK c) : Sm (M_spec_l2Text fu c) fun r => COK r.2 ∧ r.1.length ≤ 100 := by
  unfold M_spec_l2Text
  refine .cl (below_t hc) fun x hx => .bif (fun _ => ?_) fun _ => .bif (fun _ => ?_) fun _ => .bif (fun _ => ?_) fun _ => ?_
  · refine .cl (name_t hx.1) fun a ha => .cl (spoil_t hf ha.1 (by have := ha.2; omega)) fun b hb => .some ⟨hb.1, ?_⟩
    have h1 := ha.2; have h2 := hb.2
    show b.1.length ≤ 100
    omega
  · refine .cl (pickL 100 hx.1 (by decide) (by decide)) fun a ha => .some ⟨ha.1, ha.2⟩
  · refine .cl (below_t hx.1) fun y hy => ?_
    have hy1 := hy.2.1
    have hy2 := hy.2.2 (by omega)
    refine .ck (i64B_t (by omega) (by omega)) ?_
    have key : ∀ (m : Nat) k (cc : TCur) (acc : List UInt8), m < k → m ≤ 50 → COK cc → acc.length + m ≤ 100 → Sm (M_spec_l2Text_L0 fu k acc (m : Int) cc) fun r => COK r.2 ∧ r.1.length ≤ 100 := by
      intro m
      induction m with
      | zero =>
        intro k cc acc hk hm hcc ha
        obtain ⟨k, rfl⟩ : ∃ q, k = q + 1 := ⟨k - 1, by omega⟩
        rw [M_spec_l2Text_L0, show decide ((0 : Int) < ((0 : Nat) : Int)) = false from rfl, cond_false]
        exact .some ⟨hcc, by show acc.length ≤ 100; omega⟩
      | succ m ih =>
        intro k cc acc hk hm hcc ha
        obtain ⟨k, rfl⟩ : ∃ q, k = q + 1 := ⟨k - 1, by omega⟩
        rw [M_spec_l2Text_L0, pos_i, cond_true, pred_i]
        refine .cl (pickL 1 hcc (by decide) (by decide)) fun p hp => ?_
        have hp2 := hp.2
        exact .ck (lenS (by rw [List.length_append]; omega)) (.ck (i64B_i _ (by omega)) (ih k p.2 _ (by omega) (by omega) hp.1 (by rw [List.length_append]; omega)))
    obtain ⟨m, hm⟩ : ∃ m : Nat, 36 + y.1 = (m : Int) := ⟨(36 + y.1).toNat, by omega⟩
    rw [hm]
    exact .cl (key m fu y.2 [] (by omega) (by omega) hy.1 (by simp; omega)) fun r hr => .some ⟨hr.1, hr.2⟩
  · exact .cl (name_t hx.1) fun a ha => .some ⟨ha.1, by have := ha.2; show a.1.length ≤ 100; omega⟩
/-! ### normal texts -/
theorem foldc_t {fu : Nat} {s : List UInt8} (hf : 1048577 ≤ fu) (hs : s.length ≤ 100000) : Sm (M_spec_FoldCase fu s) fun r => r.length ≤ s.length := by
  unfold M_spec_FoldCase
  have key : ∀ m i k (acc : List Int), i + m = s.length → m < k → acc.length ≤ i → Sm (M_spec_FoldCase_L0 fu s k (i : Int) acc) fun r => r.length ≤ s.length := by
    intro m
    induction m with
    | zero =>
      intro i k acc hi hk ha
      obtain ⟨k, rfl⟩ : ∃ q, k = q + 1 := ⟨k - 1, by omega⟩
      obtain rfl : i = s.length := by omega
      rw [M_spec_FoldCase_L0, lt_f]
      exact .some ha
    | succ m ih =>
      intro i k acc hi hk ha
      obtain ⟨k, rfl⟩ : ∃ q, k = q + 1 := ⟨k - 1, by omega⟩
      have hlt : i < s.length := by omega
      rw [M_spec_FoldCase_L0, lt_t hlt, cond_true, ck_t (inR_t hlt)]
      refine .bd (.bif (fun _ => ?_) fun _ => ?_) <;> exact .ck (lenOK_t (by simp; omega)) (.ck (i64B_n (by omega)) (ih (i + 1) k _ (by omega) (by omega) (by simp; omega)))
  exact .cl (key s.length 0 fu [] (by omega) (by omega) (Nat.le_refl _)) fun r hr => .some (by unfold strB; rw [List.length_map]; exact hr)
theorem strip_t {fu : Nat} {s : List UInt8} (hf : 1048577 ≤ fu) (hs : s.length ≤ 100000) : Sm (M_spec_StripMarks fu s) fun r => r.length ≤ s.length := by
  unfold M_spec_StripMarks
  have key : ∀ m i k (acc : List Int), i + m = s.length → m < k → acc.length ≤ i → Sm (M_spec_StripMarks_L0 fu s k (i : Int) acc) fun r => r.length ≤ s.length := by
    intro m
    induction m with
    | zero =>
      intro i k acc hi hk ha
      obtain ⟨k, rfl⟩ : ∃ q, k = q + 1 := ⟨k - 1, by omega⟩
      obtain rfl : i = s.length := by omega
      rw [M_spec_StripMarks_L0, lt_f]
      exact .some ha
    | succ m ih =>
      intro i k acc hi hk ha
      obtain ⟨k, rfl⟩ : ∃ q, k = q + 1 := ⟨k - 1, by omega⟩
      have hlt : i < s.length := by omega
      rw [M_spec_StripMarks_L0, lt_t hlt, cond_true, ck_t (inR_t hlt), ck_t (inR_t hlt), ck_t (inR_t hlt)]
      refine .cl (⟨_, rfl, trivial⟩ : Sm (M_spec_l2Word fu (bAt s (i : Int))) fun _ => True) fun b _ => .ck (by rw [inR_t hlt, Bool.or_true]) (.bd (.bif (fun _ => .ck (lenOK_t (by simp; omega)) (.ck (i64B_n (by omega)) (ih (i + 1) k _ (by omega) (by omega) (by simp; omega)))) fun _ => .bif (fun _ => .ck (lenOK_t (by simp; omega)) (.ck (i64B_n (by omega)) (ih (i + 1) k _ (by omega) (by omega) (by simp; omega)))) fun _ => .ck (i64B_n (by omega)) (ih (i + 1) k _ (by omega) (by omega) (by omega))))
  exact .cl (key s.length 0 fu [] (by omega) (by omega) (Nat.le_refl _)) fun r hr => .some (by unfold strB; rw [List.length_map]; exact hr)
theorem coll_t {fu : Nat} {s : List UInt8} (hf : 1048577 ≤ fu) (hs : s.length ≤ 100000) : Sm (M_spec_CollapseSpaces fu s) fun r => r.length ≤ 2 * s.length := by
  unfold M_spec_CollapseSpaces
  have key : ∀ m i k (acc : List Int), i + m = s.length → m < k → acc.length ≤ 2 * i → Sm (M_spec_CollapseSpaces_L0 fu s k (i : Int) acc) fun r => r.length ≤ 2 * s.length := by
    intro m
    induction m with
    | zero =>
      intro i k acc hi hk ha
      obtain ⟨k, rfl⟩ : ∃ q, k = q + 1 := ⟨k - 1, by omega⟩
      obtain rfl : i = s.length := by omega
      rw [M_spec_CollapseSpaces_L0, lt_f]
      exact .some ha
    | succ m ih =>
      intro i k acc hi hk ha
      obtain ⟨k, rfl⟩ : ∃ q, k = q + 1 := ⟨k - 1, by omega⟩
      have hlt : i < s.length := by omega
      have o1 : ∀ z, lenOK (acc.length + ([z] : List Int).length) = true := fun z => lenOK_t (by rw [show ([z] : List Int).length = 1 from List.length_singleton]; omega)
      have o2 : ∀ z, lenOK ((acc ++ [(32 : Int)]).length + ([z] : List Int).length) = true := fun z => lenOK_t (by rw [List.length_append, show ([z] : List Int).length = 1 from List.length_singleton, show ([32] : List Int).length = 1 from List.length_singleton]; omega)
      have o3 := i64B_n (i := i) (by omega)
      rw [M_spec_CollapseSpaces_L0, lt_t hlt, cond_true, ck_t (inR_t hlt)]
      refine .bif (fun _ => ?_) fun _ => .ck o3 (ih (i + 1) k _ (by omega) (by omega) (by omega))
      refine .ck ?_ (.ck ?_ (.bd (.bif (fun _ => ?_) fun _ => ?_)))
      · rw [i64B_t (by omega) (by omega), Bool.or_true]
      · cases hd : decide ((0 : Int) < (acc.length : Int)) with
        | false => exact Bool.true_or _
        | true =>
          rw [decide_eq_true_eq] at hd
          rw [inR_iff.2 ⟨by omega, by omega⟩, Bool.or_true]
      · exact .ck (o1 _) (.ck (inR_t hlt) (.ck (o2 _) (.ck o3 (ih (i + 1) k _ (by omega) (by omega) (by rw [List.length_append, List.length_append, List.length_singleton, List.length_singleton]; omega)))))
      · exact .ck (inR_t hlt) (.ck (o1 _) (.ck o3 (ih (i + 1) k _ (by omega) (by omega) (by rw [List.length_append, List.length_singleton]; omega))))
  exact .cl (key s.length 0 fu [] (by omega) (by omega) (Nat.le_refl _)) fun r hr => .some (by unfold strB; rw [List.length_map]; exact hr)
theorem norm_t {fu : Nat} {s : List UInt8} (hf : 1048577 ≤ fu) (hs : s.length ≤ 10000) : Sm (M_spec_Normalize fu s) fun r => r.length ≤ 2 * s.length := by
  unfold M_spec_Normalize
  refine .cl (foldc_t hf (by omega)) fun a ha => .cl (strip_t hf (by omega)) fun b hb => .cl (coll_t hf (by omega)) fun c hc => .some (by omega)
theorem two_t {fu : Nat} {c : TCur} (hf : 1048577 ≤ fu) (hc : COK c) : Sm (M_spec_l4Two fu c) fun r => COK r.2.2 ∧ r.1.length ≤ 1000 ∧ r.2.1.length ≤ 1000 := by
  unfold M_spec_l4Two
  refine .cl (l2Text_t hf hc) fun a ha => .cl (below_t ha.1) fun x hx => ?_
  have h1 := ha.2
  refine .bif (fun _ => ?_) fun _ => .bif (fun _ => ?_) fun _ => ?_
  · exact .cl (l2Text_t hf hx.1) fun b hb => .some ⟨hb.1, by show a.1.length ≤ 1000; omega, by have := hb.2; show b.1.length ≤ 1000; omega⟩
  · exact .some ⟨hx.1, by show a.1.length ≤ 1000; omega, by show a.1.length ≤ 1000; omega⟩
  · refine .cl (norm_t hf (by omega)) fun p hp => .cl (spoil_t hf hx.1 (by omega)) fun q hq => .cl (norm_t hf (by have := hq.2; omega)) fun z hz => .some ⟨hq.1, ?_, ?_⟩
    · show p.length ≤ 1000
      omega
    · have := hq.2
      show z.length ≤ 1000
      omega
end Go.Proofs.Ytofiipblinonoaa

