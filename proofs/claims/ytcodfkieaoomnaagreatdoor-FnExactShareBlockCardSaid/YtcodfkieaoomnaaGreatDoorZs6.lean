/- Own texts laid together. No statement of the seat is proved here. -/
import Derived.Test.YtcodfkieaoomnaaGreatDoorZs5
import Derived.Lib.SplitLaws
import Derived.Lib.Replace
/- Plain: texts cut at a byte, program and reference alike. No statement of the seat is proved here. -/
namespace Go.Proofs.YtcodfkieaoomnaaGreatDoor
open Go.RowKit
set_option linter.unusedVariables false
set_option linter.unusedSimpArgs false

/-- the parts of s between the bytes c -/
def spC (c : UInt8) : List UInt8 → List (List UInt8)
  | [] => [[]]
  | b :: s => if b = c then [] :: spC c s else match spC c s with
    | [] => [[b]]
    | x :: xs => (b :: x) :: xs
theorem spC_ne (c : UInt8) (s : List UInt8) : spC c s ≠ [] := by
  cases s with
  | nil => simp [spC]
  | cons b s =>
    unfold spC
    split
    · simp
    · cases spC c s <;> simp
theorem spC_none {c : UInt8} : ∀ {s : List UInt8}, c ∉ s → spC c s = [s]
  | [], _ => rfl
  | b :: s, h => by
    have h1 : b ≠ c := fun e => h (e ▸ List.mem_cons_self)
    have h2 := spC_none (c := c) (s := s) fun h' => h (List.mem_cons_of_mem _ h')
    unfold spC
    rw [if_neg h1, h2]
theorem spC_app {c : UInt8} : ∀ {x s : List UInt8}, c ∉ x → spC c (x ++ c :: s) = x :: spC c s
  | [], s, _ => by
    show spC c (c :: s) = _
    rw [spC, if_pos rfl]
  | b :: x, s, h => by
    have h1 : b ≠ c := fun e => h (e ▸ List.mem_cons_self)
    have h2 := spC_app (c := c) (x := x) (s := s) fun h' => h (List.mem_cons_of_mem _ h')
    rw [List.cons_append, spC, if_neg h1, h2]
theorem spC_len (c : UInt8) : ∀ s : List UInt8, (spC c s).length ≤ s.length + 1
  | [] => Nat.le_refl _
  | b :: s => by
    have := spC_len c s
    unfold spC
    split
    · simp only [List.length_cons]; omega
    · cases h : spC c s with
      | nil => simp
      | cons x xs => rw [h] at this; simp only [List.length_cons] at this ⊢; omega
theorem spC_mem (c : UInt8) : ∀ s : List UInt8, ∀ x ∈ spC c s, x.length ≤ s.length
  | [], x, hx => by rw [spC] at hx; rw [List.mem_singleton.1 hx]; exact Nat.le_refl _
  | b :: s, x, hx => by
    unfold spC at hx
    split at hx
    · rcases List.mem_cons.1 hx with rfl | hx
      · exact Nat.zero_le _
      · exact Nat.le_succ_of_le (spC_mem c s x hx)
    · cases h : spC c s with
      | nil => exact absurd h (spC_ne c s)
      | cons y ys =>
        rw [h] at hx
        rcases List.mem_cons.1 hx with rfl | hx
        · have := spC_mem c s y (by rw [h]; exact List.mem_cons_self)
          simp only [List.length_cons]; omega
        · have := spC_mem c s x (by rw [h]; exact List.mem_cons_of_mem _ hx)
          simp only [List.length_cons]; omega
/-! ### the reference -/
theorem bAt_get' {t : List UInt8} {i : Nat} {c : UInt8} (h : t[i]? = some c) : bAt t (i : Int) = (c.toNat : Int) := by
  unfold bAt
  simp [List.getD_eq_getElem?_getD, h]
theorem subL_mid {s : List UInt8} {a b : Nat} : subL s (a : Int) (b : Int) = (s.drop a).take (b - a) := by simp [subL]
theorem cut_loop {fu : Nat} {s : List UInt8} {c : UInt8} (hs : s.length ≤ 1048576) : ∀ m i a k (acc : List (List UInt8)), i + m = s.length → m < k → a ≤ i → acc.length ≤ i → c ∉ (s.drop a).take (i - a) →
    ∃ q : Nat × List (List UInt8), M_spec_l2Cut_L0 fu s (c.toNat : Int) k (a : Int) (i : Int) acc = some ((q.1 : Int), q.2) ∧ q.1 ≤ s.length ∧ q.2.length ≤ s.length ∧ q.2 ++ [s.drop q.1] = acc ++ spC c (s.drop a) := by
  intro m
  induction m with
  | zero =>
    intro i a k acc hi hk ha hacc hn
    obtain ⟨k, rfl⟩ : ∃ z, k = z + 1 := ⟨k - 1, by omega⟩
    obtain rfl : i = s.length := by omega
    refine ⟨(a, acc), by rw [M_spec_l2Cut_L0, lt_f]; rfl, ha, hacc, ?_⟩
    rw [List.take_of_length_le (by simp)] at hn
    rw [spC_none hn]
  | succ m ih =>
    intro i a k acc hi hk ha hacc hn
    obtain ⟨k, rfl⟩ : ∃ z, k = z + 1 := ⟨k - 1, by omega⟩
    have hlt : i < s.length := by omega
    have hx := List.getElem?_eq_getElem hlt
    have hdrop : s.drop a = (s.drop a).take (i - a) ++ s[i] :: s.drop (i + 1) := by
      have h1 : (s.drop a).drop (i - a) = s[i] :: s.drop (i + 1) := by
        rw [List.drop_drop, show a + (i - a) = i by omega]
        exact List.drop_eq_getElem_cons hlt
      rw [← h1, List.take_append_drop]
    rw [M_spec_l2Cut_L0, lt_t hlt, cond_true, ck_t (inR_t hlt), bAt_get' hx]
    by_cases hc : s[i] = c
    · have e : ((s[i].toNat : Int) == (c.toNat : Int)) = true := by rw [hc]; simp
      obtain ⟨q, h1, h2, h3, h4⟩ := ih (i + 1) (i + 1) k (acc ++ [(s.drop a).take (i - a)]) (by omega) (by omega) (Nat.le_refl _) (by simp; omega) (by simp)
      refine ⟨q, ?_, h2, h3, ?_⟩
      · rw [e, cond_true, ck_t (subR_iff.2 ⟨by omega, by omega, by omega⟩), ck_t (lenOK_t (by simp; omega)), ck_t (i64B_n (by omega)), ck_t (i64B_n (by omega)), succ_i, subL_mid]
        exact h1
      · have e3 := congrArg (spC c) hdrop
        rw [hc, spC_app hn] at e3
        rw [h4, e3, List.append_assoc]
        rfl
    · have e : ((s[i].toNat : Int) == (c.toNat : Int)) = false := by
        rw [beq_eq_false_iff_ne]
        intro h
        exact hc (UInt8.toNat_inj.1 (by omega))
      obtain ⟨q, h1, h2, h3, h4⟩ := ih (i + 1) a k acc (by omega) (by omega) (by omega) (by omega) (by
        have ht : (s.drop a).take (i + 1 - a) = (s.drop a).take (i - a) ++ [s[i]] := by
          rw [show i + 1 - a = (i - a) + 1 by omega, List.take_add_one, List.getElem?_drop, show a + (i - a) = i by omega, hx]
          rfl
        rw [ht]
        intro h
        rcases List.mem_append.1 h with h | h
        · exact hn h
        · exact hc (List.mem_singleton.1 h).symm)
      refine ⟨q, ?_, h2, h3, h4⟩
      rw [e, cond_false, ck_t (i64B_n (by omega)), succ_i]
      exact h1
theorem l2Cut_t {fu : Nat} {s : List UInt8} {c : UInt8} (hf : 1048577 ≤ fu) (hs : s.length ≤ 1048576) : M_spec_l2Cut fu s (c.toNat : Int) = some (spC c s) := by
  obtain ⟨q, h1, h2, h3, h4⟩ := cut_loop (fu := fu) (c := c) hs s.length 0 0 fu [] (by omega) (by omega) (Nat.le_refl _) (Nat.zero_le _) (by simp)
  unfold M_spec_l2Cut
  have e : subL s (q.1 : Int) (s.length : Int) = s.drop q.1 := by
    unfold subL
    exact List.take_of_length_le (by simp only [List.length_drop]; omega)
  rw [show (0 : Int) = ((0 : Nat) : Int) from rfl, h1, cl_true]
  dsimp only
  rw [ck_t (subR_iff.2 ⟨by omega, by omega, by omega⟩), e, ck_t (lenOK_t (by simp; omega)), h4]
  simp
/-! ### the program -/
theorem idx_cons_ne {b c : UInt8} {l : List UInt8} (h : b ≠ c) : Lib.index (b :: l) [c] = if Lib.index l [c] == -1 then -1 else Lib.index l [c] + 1 := by
  have hp : ([c] : List UInt8).isPrefixOf (b :: l) = false := by simp [List.isPrefixOf, Ne.symm h]
  rw [Lib.index, hp]
  simp
end Go.Proofs.YtcodfkieaoomnaaGreatDoor
/- Plain: texts normalized, program and reference alike. No statement of the seat is proved here. -/
namespace Go.Proofs.YtcodfkieaoomnaaGreatDoor
open Go.RowKit
set_option linter.unusedVariables false
set_option linter.unusedSimpArgs false

theorem bytL_len (s : List UInt8) : (bytL s).length = s.length := by simp [bytL]
theorem strB_bytL (s : List UInt8) : strB (bytL s) = s := by
  unfold strB bytL
  rw [List.map_map]
  have : ((fun n : Int => UInt8.ofNat n.toNat) ∘ fun b : UInt8 => (b.toNat : Int)) = id := by
    funext b
    show UInt8.ofNat ((b.toNat : Int)).toNat = b
    rw [Int.toNat_natCast]
    exact UInt8.ofNat_toNat
  rw [this, List.map_id]
theorem bytL_app (s t : List UInt8) : bytL s ++ bytL t = bytL (s ++ t) := by simp [bytL]
theorem bytL_one (c : UInt8) : ([(c.toNat : Int)] : List Int) = bytL [c] := rfl
theorem bytL_get {s : List UInt8} {i : Nat} {c : UInt8} (h : s[i]? = some c) : gtD (bytL s) (i : Int) = (c.toNat : Int) := gtD_get (by simp [bytL, h])
theorem loop_st {σ ρ : Type} {L : Nat → Int → σ → Option ρ} {n : Nat} {r : ρ} (St : Nat → σ) (hs : ∀ k i, i < n → L (k + 1) (i : Int) (St i) = L k ((i + 1 : Nat) : Int) (St (i + 1))) (he : ∀ k, L (k + 1) (n : Int) (St n) = some r) {fu : Nat} (hf : n < fu) : L fu (0 : Int) (St 0) = some r := by
  have key : ∀ m i k, i + m = n → m < k → L k ((i : Nat) : Int) (St i) = some r := by
    intro m
    induction m with
    | zero =>
      intro i k hi hk
      obtain ⟨k, rfl⟩ : ∃ q, k = q + 1 := ⟨k - 1, by omega⟩
      obtain rfl : i = n := by omega
      exact he k
    | succ m ih =>
      intro i k hi hk
      obtain ⟨k, rfl⟩ : ∃ q, k = q + 1 := ⟨k - 1, by omega⟩
      rw [hs k i (by omega)]
      exact ih (i + 1) k (by omega) (by omega)
  exact key n 0 fu (by omega) hf
theorem fold_take {α σ : Type} {g : σ → α → σ} {a : σ} {s : List α} {i : Nat} {c : α} (h : s[i]? = some c) : (s.take (i + 1)).foldl g a = g ((s.take i).foldl g a) c := by
  rw [List.take_add_one, h]
  simp
theorem fold_all {α σ : Type} {g : σ → α → σ} {a : σ} (s : List α) : (s.take s.length).foldl g a = s.foldl g a := by rw [List.take_length]
/-! ### each byte replaced -/
theorem mapped_t {fu : Nat} {s : List UInt8} {F : Int → Option Int} {f : UInt8 → UInt8} (hF : ∀ c ∈ s, F (c.toNat : Int) = some ((f c).toNat : Int)) (hf : s.length < fu) (hl : s.length ≤ 1048576) : M_impl_mapped fu s F = some (s.map f) := by
  unfold M_impl_mapped
  have h := loop_st (L := M_impl_mapped_L0 fu s F) (n := s.length) (r := bytL (s.map f)) (fun i => bytL ((s.take i).map f ++ s.drop i)) (fun k i hi => by
    have hx := List.getElem?_eq_getElem hi
    have hlen : ((s.take i).map f ++ s.drop i).length = s.length := by simp; omega
    have hg : ((s.take i).map f ++ s.drop i)[i]? = some s[i] := by
      rw [List.getElem?_append_right (by simp; omega)]
      simp [Nat.min_eq_left (Nat.le_of_lt hi), hx]
    have hset0 : ((s.take i).map f ++ s.drop i).set i (f s[i]) = (s.take (i + 1)).map f ++ s.drop (i + 1) := by
      rw [List.drop_eq_getElem_cons hi, List.set_append_right _ _ (by simp; omega)]
      have h0 : i - ((s.take i).map f).length = 0 := by simp; omega
      rw [h0, List.set_cons_zero, List.take_add_one, hx, List.map_append, List.append_assoc]
      rfl
    have hset : (bytL ((s.take i).map f ++ s.drop i)).set i ((f s[i]).toNat : Int) = bytL ((s.take (i + 1)).map f ++ s.drop (i + 1)) := by
      rw [← hset0]
      unfold bytL
      exact List.map_set.symm
    rw [M_impl_mapped_L0, bytL_len, lt_t hi, cond_true]
    rw [ck_t (inR_t (by rw [bytL_len, hlen]; exact hi)), bytL_get hg, hF _ (List.getElem_mem hi), cl_true, ck_t (inR_t (by rw [bytL_len, hlen]; exact hi)), succ_i, ck_t (i64B_c (by omega)), Int.toNat_natCast, hset]) (fun k => by
    rw [M_impl_mapped_L0, bytL_len, lt_f, cond_false]
    simp) hf
  rw [List.take_zero, List.drop_zero, List.map_nil, List.nil_append] at h
  rw [ck_t (lenOK_t (by omega)), h, cl_true, strB_bytL]
def fld (c : UInt8) : UInt8 := UInt8.ofNat (foldI c.toNat).toNat
theorem fld_nat (c : UInt8) : ((fld c).toNat : Int) = foldI c.toNat := by
  have hc : c.toNat < 256 := c.toNat_lt
  unfold fld foldI cpI
  by_cases h : (65 : Int) ≤ (c.toNat : Int) ∧ (c.toNat : Int) ≤ 90
  · rw [decide_eq_true h.1, decide_eq_true h.2]
    simp only [Bool.and_self, cond_true]
    rw [UInt8.toNat_ofNat']
    omega
  · have : (decide ((65 : Int) ≤ (c.toNat : Int)) && decide ((c.toNat : Int) ≤ 90)) = false := by
      rw [Bool.and_eq_false_iff, decide_eq_false_iff_not, decide_eq_false_iff_not]
      omega
    rw [this, cond_false, UInt8.toNat_ofNat']
    omega
theorem implFold_t {fu : Nat} {s : List UInt8} (hf : s.length < fu) (hl : s.length ≤ 1048576) : M_impl_FoldCase fu s = some (s.map fld) := by
  unfold M_impl_FoldCase
  rw [mapped_t (f := fld) (fun c _ => ?_) hf hl, cl_true]
  have hc : c.toNat < 256 := c.toNat_lt
  rw [fld_nat]
  unfold M_impl_FoldCase_1 foldI cpI
  rw [bd_eq]
  by_cases h : (65 : Int) ≤ (c.toNat : Int) ∧ (c.toNat : Int) ≤ 90
  · rw [decide_eq_true h.1, decide_eq_true h.2]
    simp only [Bool.and_self, cond_true]
    rw [u8_wrap _ (by omega) (by omega)]
  · have : (decide ((65 : Int) ≤ (c.toNat : Int)) && decide ((c.toNat : Int) ≤ 90)) = false := by
      rw [Bool.and_eq_false_iff, decide_eq_false_iff_not, decide_eq_false_iff_not]
      omega
    rw [this, cond_false, cond_false]
theorem specFold_t {fu : Nat} {s : List UInt8} (hf : s.length < fu) (hl : s.length ≤ 1048576) : M_spec_FoldCase fu s = some (s.map fld) := fold_t hf hl
/-! ### marks -/
theorem replK (c : UInt8) : ∀ s : List UInt8, Lib.replaceK [c] [] (Lib.count s [c]) s = s.filter fun b => b != c
  | [] => by rw [Lib.count_one]; rfl
  | b :: l => by
    have ih := replK c l
    by_cases h : b = c
    · subst h
      rw [Lib.count_cons_eq, Nat.add_comm, Lib.replaceK, show Lib.index (b :: l) [b] = 0 by rw [Lib.index]; simp [List.isPrefixOf], if_neg (by decide), List.filter_cons]
      simpa using ih
    · rw [Lib.count_cons_ne b c l h, List.filter_cons, if_pos (by simpa using h), ← ih]
      cases hk : Lib.count l [c] with
      | zero => rfl
      | succ k =>
        have hm : Lib.index l [c] ≠ -1 := fun hm => by rw [Lib.count_miss hm] at hk; cases hk
        have hge := Lib.index_ge l [c]
        obtain ⟨j, hj⟩ : ∃ j : Nat, Lib.index l [c] = j := ⟨(Lib.index l [c]).toNat, by omega⟩
        have e2 : ((j : Int) + 1).toNat = j + 1 := by omega
        rw [Lib.replaceK, idx_cons_ne h, hj, if_neg (by simp; omega), if_neg (by simp), e2, Lib.replaceK, hj, if_neg (by simp)]
        simp
theorem replAll (c : UInt8) (s : List UInt8) : Lib.replaceAll s [c] [] = s.filter fun b => b != c := by
  unfold Lib.replaceAll Lib.replace Lib.replaceNum
  rw [if_neg (by simp), if_pos (.inl (by decide)), replK]
def wdB (c : UInt8) : Bool := wdI c.toNat
def mkC (c : UInt8) : UInt8 := bif wdB c then c else 32
def strL (s : List UInt8) : List UInt8 := (s.filter fun b => b != 39).map mkC
theorem wordI_t {fu : Nat} {c : UInt8} : M_impl_isWordByte fu (c.toNat : Int) = some (wdB c) := by
  unfold M_impl_isWordByte M_impl_isSmall M_impl_isDigit wdB wdI smI cpI dgI
  simp only [bd_eq, cl_true, cl_if]
  generalize (decide ((97 : Int) ≤ (c.toNat : Int)) && decide ((c.toNat : Int) ≤ 122)) = a
  generalize (decide ((65 : Int) ≤ (c.toNat : Int)) && decide ((c.toNat : Int) ≤ 90)) = b
  generalize (decide ((48 : Int) ≤ (c.toNat : Int)) && decide ((c.toNat : Int) ≤ 57)) = d
  cases a <;> cases b <;> cases d <;> rfl
theorem wordS_t {fu : Nat} {c : UInt8} : M_spec_l2Word fu (c.toNat : Int) = some (wdB c) := by
  unfold M_spec_l2Word wdB wdI smI cpI dgI
  rfl
theorem implStrip_t {fu : Nat} {s : List UInt8} (hf : s.length < fu) (hl : s.length ≤ 1048576) : M_impl_StripMarks fu s = some (strL s) := by
  have hle := List.length_filter_le (fun b : UInt8 => b != 39) s
  unfold M_impl_StripMarks M_replaceAll
  rw [replAll, ck_t (by simp; omega), cl_true, mapped_t (f := mkC) (fun c _ => ?_) (by omega) (by omega), cl_true]
  · rfl
  · unfold M_impl_StripMarks_1 mkC
    rw [wordI_t, cl_true]
    cases wdB c <;> rfl
theorem toNat_ne {c d : UInt8} (h : c ≠ d) : (((c.toNat : Int)) == (d.toNat : Int)) = false := by
  rw [beq_eq_false_iff_ne]
  intro e
  exact h (UInt8.toNat_inj.1 (by omega))
def stG (a : List UInt8) (c : UInt8) : List UInt8 := bif c != 39 then a ++ [mkC c] else a
theorem stG_fold : ∀ (s a : List UInt8), s.foldl stG a = a ++ strL s
  | [], a => by simp [strL]
  | c :: s, a => by
    rw [List.foldl_cons, stG_fold s]
    unfold stG strL
    rw [List.filter_cons]
    cases h : c != 39 <;> simp
theorem specStrip_t {fu : Nat} {s : List UInt8} (hf : s.length < fu) (hl : s.length ≤ 1048576) : M_spec_StripMarks fu s = some (strL s) := by
  unfold M_spec_StripMarks
  have hlen : ∀ i, i ≤ s.length → ((s.take i).foldl stG []).length ≤ i := fun i hi => by
    rw [stG_fold, List.nil_append]
    unfold strL
    rw [List.length_map]
    have := List.length_filter_le (fun b : UInt8 => b != 39) (s.take i)
    rw [List.length_take] at this
    omega
  have h := loop_st (L := M_spec_StripMarks_L0 fu s) (n := s.length) (r := bytL (s.foldl stG [])) (fun i => bytL ((s.take i).foldl stG [])) (fun k i hi => by
    have hx := List.getElem?_eq_getElem hi
    have hil := hlen i (by omega)
    generalize hc : s[i] = c at hx
    rw [M_spec_StripMarks_L0, lt_t hi, cond_true, fold_take hx, ck_t (inR_t hi), bAt_get hx, wordS_t, cl_true]
    generalize (s.take i).foldl stG [] = o at hil ⊢
    have hl1 : ∀ (l : List Int), l.length = 1 → lenOK ((bytL o).length + l.length) = true := fun l hl => lenOK_t (by rw [bytL_len, hl]; omega)
    rw [hl1 _ rfl, hl1 _ rfl]
    simp only [inR_t hi, Bool.or_true, ck_tt, bd_eq, succ_i, i64B_c (show i ≤ 4294967296 by omega)]
    by_cases h32 : c = 32
    · subst h32
      have hw : (wdB 32 || (((UInt8.toNat 32 : Nat) : Int) == (32 : Int))) = true := by decide
      rw [hw, cond_true, bytL_one, bytL_app]
      rfl
    · have e32 : (((c.toNat : Int)) == (32 : Int)) = false := toNat_ne (d := 32) h32
      rw [e32, Bool.or_false]
      cases hw : wdB c with
      | true =>
        have h39 : c ≠ 39 := fun e => by subst e; exact absurd hw (by decide)
        have : (c != 39) = true := by simpa using h39
        rw [cond_true, bytL_one, bytL_app]
        unfold stG mkC
        rw [this, hw, cond_true, cond_true]
      | false =>
        rw [cond_false]
        by_cases h39 : c = 39
        · subst h39
          rfl
        · have e39 : (((c.toNat : Int)) != (39 : Int)) = true := by
            have := toNat_ne (d := 39) h39
            show (!(((c.toNat : Int)) == (((39 : UInt8).toNat : Nat) : Int))) = true
            rw [this]
            rfl
          have : (c != 39) = true := by simpa using h39
          rw [e39, cond_true, show ([(32 : Int)] : List Int) = bytL [32] from rfl, bytL_app]
          unfold stG mkC
          rw [this, hw, cond_true, cond_false]) (fun k => by rw [M_spec_StripMarks_L0, lt_f, cond_false, fold_all]) hf
  rw [show (([] : List Int)) = bytL ((s.take 0).foldl stG []) from rfl, h, cl_true, strB_bytL, stG_fold, List.nil_append]
/-! ### spaces -/
def coS (o : List UInt8 × Bool) (c : UInt8) : List UInt8 × Bool := bif c == 32 then (o.1, true) else ((bif !o.1.isEmpty && o.2 then o.1 ++ [32] else o.1) ++ [c], false)
def coT (o : List UInt8 × Bool) : List UInt8 := bif !o.1.isEmpty && o.2 then o.1 ++ [32] else o.1
def colL (s : List UInt8) : List UInt8 := (s.foldl coS ([], false)).1
theorem coS_t {o : List UInt8 × Bool} {c : UInt8} (h : (c == 32) = true) : coS o c = (o.1, true) := by unfold coS; rw [h]; rfl
theorem coS_f {o : List UInt8 × Bool} {c : UInt8} (h : (c == 32) = false) : coS o c = (coT o ++ [c], false) := by unfold coS coT; rw [h]; rfl
theorem coT_len (o : List UInt8 × Bool) : (coT o).length ≤ o.1.length + 1 := by
  unfold coT
  cases (!o.1.isEmpty && o.2)
  · rw [cond_false]; omega
  · rw [cond_true, List.length_append, List.length_singleton]; omega
theorem co_len (s : List UInt8) : ∀ i, i ≤ s.length → ((s.take i).foldl coS ([], false)).1.length ≤ 2 * i := by
  intro i
  induction i with
  | zero => intro _; exact Nat.zero_le _
  | succ i ih =>
    intro hi
    have := ih (by omega)
    rw [fold_take (List.getElem?_eq_getElem (show i < s.length by omega))]
    generalize (s.take i).foldl coS ([], false) = o at this ⊢
    have h2 := coT_len o
    cases h : s[i] == 32
    · rw [coS_f h]
      dsimp only
      rw [List.length_append, List.length_singleton]
      omega
    · rw [coS_t h]
      dsimp only
      omega
theorem co_prev (s : List UInt8) {i : Nat} (hi : i < s.length) : ((s.take (i + 1)).foldl coS ([], false)).2 = (s[i] == 32) := by
  rw [fold_take (List.getElem?_eq_getElem hi)]
  generalize (s.take i).foldl coS ([], false) = o
  cases h : s[i] == 32
  · rw [coS_f h]
  · rw [coS_t h]
theorem co_last (s : List UInt8) : ∀ i, i ≤ s.length → ((s.take i).foldl coS ([], false)).1 = [] ∨ ∃ l c, ((s.take i).foldl coS ([], false)).1 = l ++ [c] ∧ (c == 32) = false := by
  intro i
  induction i with
  | zero => intro _; exact .inl rfl
  | succ i ih =>
    intro hi
    have := ih (by omega)
    rw [fold_take (List.getElem?_eq_getElem (show i < s.length by omega))]
    generalize (s.take i).foldl coS ([], false) = o at this ⊢
    cases h : s[i] == 32
    · rw [coS_f h]
      exact .inr ⟨_, _, rfl, h⟩
    · rw [coS_t h]
      exact this
theorem e32 {c : UInt8} : (((c.toNat : Int)) == (32 : Int)) = (c == 32) := by
  by_cases h : c = 32
  · subst h; rfl
  · exact (show (((c.toNat : Int)) == (32 : Int)) = false from toNat_ne (d := 32) h).trans (beq_eq_false_iff_ne.2 h).symm
theorem ne32 {c : UInt8} : (((c.toNat : Int)) != (32 : Int)) = !(c == 32) := by rw [← e32]; rfl
theorem pos_len (l : List UInt8) : decide ((0 : Int) < ((bytL l).length : Int)) = !l.isEmpty := by
  rw [bytL_len]
  cases l with
  | nil => rfl
  | cons a l => exact decide_eq_true (by simp)
theorem specCol_t {fu : Nat} {s : List UInt8} (hf : s.length < fu) (hl : s.length ≤ 1048576) : M_spec_CollapseSpaces fu s = some (colL s) := by
  unfold M_spec_CollapseSpaces
  have h := loop_st (L := M_spec_CollapseSpaces_L0 fu s) (n := s.length) (r := bytL (s.foldl coS ([], false)).1) (fun i => bytL ((s.take i).foldl coS ([], false)).1) (fun k i hi => by
    have hx := List.getElem?_eq_getElem hi
    have hil := co_len s i (by omega)
    have hpv : ∀ j, i = j + 1 → ((s.take i).foldl coS ([], false)).2 = (s[j]! == 32) := fun j hj => by subst hj; rw [co_prev s (by omega), getElem!_pos s j (by omega)]
    have hz : i = 0 → ((s.take i).foldl coS ([], false)).1 = [] := fun h0 => by subst h0; rfl
    generalize hc : s[i] = c at hx
    rw [M_spec_CollapseSpaces_L0, lt_t hi, cond_true, fold_take hx, ck_t (inR_t hi), bAt_get hx]
    generalize (s.take i).foldl coS ([], false) = o at hil hpv hz ⊢
    have hl1 : ∀ (l : List Int), l.length = 1 → lenOK ((bytL o.1).length + l.length) = true := fun l hl => lenOK_t (by rw [bytL_len, hl]; omega)
    have hl2 : ∀ (l m : List Int), l.length = 1 → m.length = 1 → lenOK ((bytL o.1 ++ l).length + m.length) = true := fun l m h1 h2 => lenOK_t (by rw [List.length_append, bytL_len, h1, h2]; omega)
    rw [hl1 _ rfl, hl1 _ rfl, hl2 _ _ rfl rfl, ne32, pos_len]
    simp only [inR_t hi, ck_tt, bd_eq, succ_i, i64B_c (show i ≤ 4294967296 by omega)]
    cases h32 : c == 32 with
    | true =>
      rw [coS_t h32]
      rfl
    | false =>
      rw [coS_f h32]
      cases ho : o.1.isEmpty with
      | true =>
        have : o.1 = [] := List.isEmpty_iff.1 ho
        unfold coT
        rw [ho, this]
        rfl
      | false =>
        have hi0 : i ≠ 0 := fun h0 => by rw [hz h0] at ho; cases ho
        obtain ⟨j, rfl⟩ : ∃ j, i = j + 1 := ⟨i - 1, by omega⟩
        have hj := List.getElem?_eq_getElem (show j < s.length by omega)
        have hp := hpv j rfl
        rw [getElem!_pos s j (by omega)] at hp
        simp only [pred_i, inR_t (show j < s.length by omega), i64B_i j (by omega), bAt_get hj, e32, Bool.or_true, ck_tt, ← hp, Bool.not_false, Bool.true_and, cond_true]
        unfold coT
        rw [ho]
        cases o.2
        · simp only [cond_false, Bool.and_false]
          rw [bytL_one, bytL_app]
        · simp only [cond_true, cond_false, Bool.not_false, Bool.and_true]
          rw [bytL_one, show ([(32 : Int)] : List Int) = bytL [32] from rfl, bytL_app, bytL_app]) (fun k => by rw [M_spec_CollapseSpaces_L0, lt_f, cond_false, fold_all]) hf
  rw [show (([] : List Int)) = bytL ((s.take 0).foldl coS ([], false)).1 from rfl, h, cl_true, strB_bytL]
  rfl
theorem last32 {l : List UInt8} {c : UInt8} : gtD (bytL (l ++ [c])) (((bytL (l ++ [c])).length : Int) - 1) = (c.toNat : Int) := by
  rw [bytL_len, List.length_append, List.length_singleton, show (((l.length + 1 : Nat) : Int)) - 1 = ((l.length : Nat) : Int) by omega]
  exact bytL_get (by simp)
theorem lastR {l : List UInt8} (h : l ≠ []) : inR (((bytL l).length : Int) - 1) (bytL l).length = true := by
  have : 0 < l.length := List.length_pos_iff.2 h
  rw [bytL_len]
  exact inR_i (by omega) (by omega)
theorem trim_hit {fu : Nat} {l : List UInt8} (hl : l.length ≤ 4194304) : M_strings_TrimSuffix fu (l ++ [32]) ([32] : List UInt8) = some l := by
  unfold M_strings_TrimSuffix M_internal_stringslite_TrimSuffix M_internal_stringslite_HasSuffix
  have e1 : (((l ++ [32] : List UInt8).length : Nat) : Int) - ((([32] : List UInt8).length : Nat) : Int) = ((l.length : Nat) : Int) := by simp
  have e2 : subL (l ++ [32] : List UInt8) (l.length : Int) (((l ++ [32] : List UInt8).length : Nat) : Int) = [32] := by simp [subL]
  have e3 : subL (l ++ [32] : List UInt8) 0 (l.length : Int) = l := by simp [subL]
  have e4 : decide (((([32] : List UInt8).length : Nat) : Int) ≤ (((l ++ [32] : List UInt8).length : Nat) : Int)) = true := decide_eq_true (by simp; omega)
  simp only [e1, e2, e3, e4, i64B_i l.length (by omega), Bool.or_true, ck_tt, bd_eq, cl_true, subR_iff.2 (show (0 : Int) ≤ (l.length : Int) ∧ (l.length : Int) ≤ (((l ++ [32] : List UInt8).length : Nat) : Int) ∧ (((l ++ [32] : List UInt8).length : Nat) : Int) ≤ (((l ++ [32] : List UInt8).length : Nat) : Int) from ⟨by omega, by simp; omega, Int.le_refl _⟩), subR_iff.2 (show (0 : Int) ≤ (0 : Int) ∧ (0 : Int) ≤ (l.length : Int) ∧ (l.length : Int) ≤ (((l ++ [32] : List UInt8).length : Nat) : Int) from ⟨by omega, by omega, by simp; omega⟩)]
  rfl
theorem trim_miss {fu : Nat} {l : List UInt8} {c : UInt8} (h : (c == 32) = false) (hl : l.length ≤ 4194304) : M_strings_TrimSuffix fu (l ++ [c]) ([32] : List UInt8) = some (l ++ [c]) := by
  unfold M_strings_TrimSuffix M_internal_stringslite_TrimSuffix M_internal_stringslite_HasSuffix
  have e1 : (((l ++ [c] : List UInt8).length : Nat) : Int) - ((([32] : List UInt8).length : Nat) : Int) = ((l.length : Nat) : Int) := by simp
  have e2 : subL (l ++ [c] : List UInt8) (l.length : Int) (((l ++ [c] : List UInt8).length : Nat) : Int) = [c] := by simp [subL]
  have e4 : decide (((([32] : List UInt8).length : Nat) : Int) ≤ (((l ++ [c] : List UInt8).length : Nat) : Int)) = true := decide_eq_true (by simp; omega)
  have e5 : (([c] : List UInt8) == [32]) = false := by simpa using h
  simp only [e1, e2, e4, e5, i64B_i l.length (by omega), Bool.or_true, ck_tt, bd_eq, cl_true, subR_iff.2 (show (0 : Int) ≤ (l.length : Int) ∧ (l.length : Int) ≤ (((l ++ [c] : List UInt8).length : Nat) : Int) ∧ (((l ++ [c] : List UInt8).length : Nat) : Int) ≤ (((l ++ [c] : List UInt8).length : Nat) : Int) from ⟨by omega, by simp; omega, Int.le_refl _⟩)]
  rfl
theorem implCol_t {fu : Nat} {s : List UInt8} (hf : s.length < fu) (hl : s.length ≤ 1048576) : M_impl_CollapseSpaces fu s = some (colL s) := by
  unfold M_impl_CollapseSpaces
  have h := loop_st (L := M_impl_CollapseSpaces_L0 fu s) (n := s.length) (r := bytL (coT (s.foldl coS ([], false)))) (fun i => bytL (coT ((s.take i).foldl coS ([], false)))) (fun k i hi => by
    have hx := List.getElem?_eq_getElem hi
    have hil := co_len s i (by omega)
    have hla := co_last s i (by omega)
    generalize hc : s[i] = c at hx
    rw [M_impl_CollapseSpaces_L0, lt_t hi, cond_true, fold_take hx, ck_t (inR_t hi), bAt_get hx]
    generalize (s.take i).foldl coS ([], false) = o at hil hla ⊢
    have hcl := coT_len o
    have hl1 : ∀ (l : List Int), l.length = 1 → lenOK ((bytL (coT o)).length + l.length) = true := fun l hl => lenOK_t (by rw [bytL_len, hl]; omega)
    rw [hl1 _ rfl, ne32, pos_len]
    simp only [inR_t hi, ck_tt, bd_eq, succ_i, i64B_c (show i ≤ 4294967296 by omega)]
    have hb : i64B (((bytL (coT o)).length : Int) - 1) = true := i64B_t (by omega) (by rw [bytL_len]; omega)
    rw [hb]
    simp only [Bool.or_true, ck_tt]
    cases h32 : c == 32 with
    | false =>
      rw [coS_f h32]
      have e : coT (coT o ++ [c], false) = coT o ++ [c] := by simp [coT]
      rw [e, ← bytL_app, ← bytL_one]
      simp [ck_tt]
    | true =>
      rw [coS_t h32]
      rcases hla with h0 | ⟨l, d, h0, hd⟩
      · have e1 : coT o = [] := by unfold coT; rw [h0]; rfl
        have e2 : coT (o.1, true) = [] := by unfold coT; rw [h0]; rfl
        rw [e1, e2]
        rfl
      · have ho : o.1.isEmpty = false := by rw [h0]; simp
        have e2 : coT (o.1, true) = o.1 ++ [32] := by unfold coT; dsimp only; rw [ho]; rfl
        have e0 : (coT o).isEmpty = false := by
          unfold coT
          rw [h0]
          cases (!(l ++ [d]).isEmpty && o.2) <;> simp
        have hne : coT o ≠ [] := fun h => by rw [h] at e0; cases e0
        rw [e0, e2, lastR hne]
        simp only [Bool.or_true, ck_tt, Bool.not_true, Bool.false_or, Bool.not_false, Bool.true_and]
        cases h2 : o.2 with
        | true =>
          have e1 : coT o = o.1 ++ [32] := by unfold coT; rw [ho, h2]; rfl
          rw [e1, last32]
          rfl
        | false =>
          have e1 : coT o = o.1 := by unfold coT; rw [ho, h2]; rfl
          rw [e1, h0, last32, ne32, hd]
          have : c = 32 := by simpa using h32
          rw [this, bytL_one, bytL_app]
          rfl) (fun k => by rw [M_impl_CollapseSpaces_L0, lt_f, cond_false, fold_all]) hf
  rw [show (([] : List Int)) = bytL (coT ((s.take 0).foldl coS ([], false))) from rfl, h, cl_true, strB_bytL]
  have hla := co_last s s.length (Nat.le_refl _)
  have hil := co_len s s.length (Nat.le_refl _)
  rw [fold_all] at hla hil
  unfold colL
  generalize s.foldl coS ([], false) = o at hla hil ⊢
  rcases hla with h0 | ⟨l, d, h0, hd⟩
  · have e1 : coT o = [] := by unfold coT; rw [h0]; rfl
    rw [e1, h0]
    rfl
  · have hll : l.length ≤ 4194304 := by rw [h0, List.length_append] at hil; omega
    have ho : o.1.isEmpty = false := by rw [h0]; simp
    cases h2 : o.2 with
    | true =>
      have e1 : coT o = o.1 ++ [32] := by unfold coT; rw [ho, h2]; rfl
      rw [e1, trim_hit (by omega)]
      rfl
    | false =>
      have e1 : coT o = o.1 := by unfold coT; rw [ho, h2]; rfl
      rw [e1, h0, trim_miss hd hll]
      rfl
/-! ### normalized -/
def nrmL (s : List UInt8) : List UInt8 := colL (strL (s.map fld))
theorem strL_len (s : List UInt8) : (strL s).length ≤ s.length := by
  unfold strL
  rw [List.length_map]
  exact List.length_filter_le _ _
theorem specNorm_t {fu : Nat} {s : List UInt8} (hf : s.length < fu) (hl : s.length ≤ 1048576) : M_spec_Normalize fu s = some (nrmL s) := by
  have h1 := strL_len (s.map fld)
  rw [List.length_map] at h1
  unfold M_spec_Normalize
  rw [specFold_t hf hl, cl_true, specStrip_t (by simpa using hf) (by simpa using hl), cl_true, specCol_t (by omega) (by omega), cl_true]
  rfl
theorem implNorm_t {fu : Nat} {s : List UInt8} (hf : s.length < fu) (hl : s.length ≤ 1048576) : M_impl_Normalize fu s = some (nrmL s) := by
  have h1 := strL_len (s.map fld)
  rw [List.length_map] at h1
  unfold M_impl_Normalize
  rw [implFold_t hf hl, cl_true, implStrip_t (by simpa using hf) (by simpa using hl), cl_true, implCol_t (by omega) (by omega), cl_true]
  rfl
theorem nrm_len (s : List UInt8) : (nrmL s).length ≤ 2 * s.length := by
  have h1 := strL_len (s.map fld)
  have h2 := co_len (strL (s.map fld)) _ (Nat.le_refl _)
  rw [fold_all] at h2
  rw [List.length_map] at h1
  unfold nrmL colL
  omega
end Go.Proofs.YtcodfkieaoomnaaGreatDoor
/- Plain words: lists in order. No program in sight. No statement of the seat is proved here. -/
namespace Go.Proofs.YtcodfkieaoomnaaGreatDoor
open Go.RowKit
set_option linter.unusedVariables false

/-- a strict total order -/
structure Sto {α : Type} (lt : α → α → Bool) : Prop where
  irr : ∀ a, lt a a = false
  tr : ∀ a b c, lt a b = true → lt b c = true → lt a c = true
  tri : ∀ a b, lt a b = false → lt b a = false → a = b
theorem sto_bLt : Sto bLt := ⟨bLt_irrefl, fun _ _ _ => bLt_trans, fun _ _ => bLt_tri⟩
section
variable {α : Type} {lt : α → α → Bool}
theorem Sto.asy (S : Sto lt) {a b : α} (h : lt a b = true) : lt b a = false := by
  cases hb : lt b a
  · rfl
  · have := S.tr a b a h hb
    rw [S.irr] at this
    cases this
/-- not after: a ≤ b -/
theorem Sto.le_tr (S : Sto lt) {a b c : α} (h : lt b a = false) (k : lt c b = false) : lt c a = false := by
  cases hca : lt c a
  · rfl
  · cases hab : lt a b
    · have := S.tri a b hab h
      subst this
      rw [hca] at k
      cases k
    · have := S.tr c a b hca hab
      rw [this] at k
      cases k
abbrev SortedS (lt : α → α → Bool) (l : List α) : Prop := l.Pairwise fun a b => lt a b = true
abbrev SortedW (lt : α → α → Bool) (l : List α) : Prop := l.Pairwise fun a b => lt b a = false
theorem SortedS.w (S : Sto lt) {l : List α} (h : SortedS lt l) : SortedW lt l := h.imp fun h => S.asy h
theorem sortedS_one (S : Sto lt) : ∀ {l m : List α}, SortedS lt l → SortedS lt m → (∀ x, x ∈ l ↔ x ∈ m) → l = m
  | [], [], _, _, _ => rfl
  | [], b :: m, _, _, h => by have := (h b).2 (List.mem_cons_self ..); cases this
  | a :: l, [], _, _, h => by have := (h a).1 (List.mem_cons_self ..); cases this
  | a :: l, b :: m, hl, hm, h => by
    obtain ⟨h1, h2⟩ := List.pairwise_cons.1 hl
    obtain ⟨h3, h4⟩ := List.pairwise_cons.1 hm
    have e : a = b := by
      rcases List.mem_cons.1 ((h a).1 (List.mem_cons_self ..)) with e | e
      · exact e
      · rcases List.mem_cons.1 ((h b).2 (List.mem_cons_self ..)) with e' | e'
        · exact e'.symm
        · have := S.asy (h1 b e')
          rw [h3 a e] at this
          cases this
    subst e
    congr 1
    refine sortedS_one S h2 h4 fun x => ?_
    constructor
    · intro hx
      rcases List.mem_cons.1 ((h x).1 (List.mem_cons_of_mem _ hx)) with e | e
      · have := h1 x hx
        rw [e, S.irr] at this
        cases this
      · exact e
    · intro hx
      rcases List.mem_cons.1 ((h x).2 (List.mem_cons_of_mem _ hx)) with e | e
      · have := h3 x hx
        rw [e, S.irr] at this
        cases this
      · exact e
/-- x put in at place k -/
def insAt (l : List α) (k : Nat) (x : α) : List α := l.take k ++ x :: l.drop k
theorem insAt_perm (l : List α) (k : Nat) (x : α) : (insAt l k x).Perm (x :: l) := by
  have := (List.perm_middle (a := x) (l₁ := l.take k) (l₂ := l.drop k))
  rwa [List.take_append_drop] at this
theorem insAt_length (l : List α) (k : Nat) (x : α) : (insAt l k x).length = l.length + 1 := by simpa using (insAt_perm l k x).length_eq
theorem insAt_mem {l : List α} {k : Nat} {x y : α} : y ∈ insAt l k x ↔ y = x ∨ y ∈ l := by rw [(insAt_perm l k x).mem_iff, List.mem_cons]
theorem pw_ins {R : α → α → Prop} {l : List α} {k : Nat} {x : α} (hl : l.Pairwise R) (h1 : ∀ y ∈ l.take k, R y x) (h2 : ∀ y ∈ l.drop k, R x y) : (insAt l k x).Pairwise R := by
  have hl' : (l.take k ++ l.drop k).Pairwise R := by rw [List.take_append_drop]; exact hl
  obtain ⟨a, b, c⟩ := List.pairwise_append.1 hl'
  refine List.pairwise_append.2 ⟨a, List.pairwise_cons.2 ⟨h2, b⟩, fun y hy z hz => ?_⟩
  rcases List.mem_cons.1 hz with rfl | hz
  · exact h1 y hy
  · exact c y hy z hz
/-- the first place whose element is not before x -/
def plc (lt : α → α → Bool) (x : α) : List α → Nat
  | [] => 0
  | y :: l => bif lt y x then plc lt x l + 1 else 0
theorem plc_le {x : α} : ∀ l : List α, plc lt x l ≤ l.length
  | [] => Nat.le_refl _
  | y :: l => by
    unfold plc
    cases lt y x
    · exact Nat.zero_le _
    · have h : plc lt x l ≤ l.length := plc_le l
      simp
      omega
theorem plc_take {x : α} : ∀ l : List α, ∀ y ∈ l.take (plc lt x l), lt y x = true
  | [], y, h => by cases h
  | z :: l, y, h => by
    unfold plc at h
    cases hz : lt z x
    · rw [hz] at h
      cases h
    · rw [hz, cond_true, List.take_succ_cons] at h
      rcases List.mem_cons.1 h with rfl | h
      · exact hz
      · exact plc_take l y h
theorem plc_head {x : α} : ∀ l : List α, ∀ y, l[plc lt x l]? = some y → lt y x = false
  | [], y, h => by cases h
  | z :: l, y, h => by
    unfold plc at h
    cases hz : lt z x
    · rw [hz] at h
      obtain rfl : z = y := by simpa using h
      exact hz
    · rw [hz, cond_true, List.getElem?_cons_succ] at h
      exact plc_head l y h
theorem plc_drop (S : Sto lt) {x : α} {l : List α} (hl : SortedW lt l) : ∀ y ∈ l.drop (plc lt x l), lt y x = false := by
  intro y hy
  cases hd : l.drop (plc lt x l) with
  | nil => rw [hd] at hy; cases hy
  | cons z t =>
    have hz : l[plc lt x l]? = some z := by
      have : (l.drop (plc lt x l))[0]? = some z := by rw [hd]; rfl
      rwa [List.getElem?_drop, Nat.add_zero] at this
    have h0 := plc_head l z hz
    rw [hd] at hy
    rcases List.mem_cons.1 hy with rfl | hy
    · exact h0
    · have hp : (z :: t).Pairwise fun a b => lt b a = false := hd ▸ hl.sublist (List.drop_sublist _ _)
      exact S.le_tr h0 ((List.pairwise_cons.1 hp).1 y hy)
/-- x put in where it belongs -/
def putW (lt : α → α → Bool) (l : List α) (x : α) : List α := insAt l (plc lt x l) x
/-- .. unless it is there -/
def putS [BEq α] (lt : α → α → Bool) (l : List α) (x : α) : List α := bif (l[plc lt x l]? == some x) then l else putW lt l x
theorem putS_sorted [BEq α] [LawfulBEq α] (S : Sto lt) {l : List α} (x : α) (hl : SortedS lt l) : SortedS lt (putS lt l x) := by
  unfold putS
  cases hc : (l[plc lt x l]? == some x)
  · refine pw_ins hl (plc_take l) fun y hy => ?_
    have h1 := plc_drop S (hl.w S) y hy
    cases hxy : lt x y
    · have e := S.tri y x h1 hxy
      subst e
      exfalso
      -- y stands behind its own place: it is the first there
      cases hd : l.drop (plc lt y l) with
      | nil => rw [hd] at hy; cases hy
      | cons z t =>
        have hz : l[plc lt y l]? = some z := by
          have : (l.drop (plc lt y l))[0]? = some z := by rw [hd]; rfl
          rwa [List.getElem?_drop, Nat.add_zero] at this
        rw [hd] at hy
        have hp : (z :: t).Pairwise fun a b => lt a b = true := hd ▸ hl.sublist (List.drop_sublist _ _)
        rcases List.mem_cons.1 hy with e | hy
        · subst e
          rw [hz] at hc
          simp at hc
        · have := (List.pairwise_cons.1 hp).1 y hy
          rw [plc_head l z hz] at this
          cases this
    · rfl
  · exact hl
theorem putS_mem [BEq α] [LawfulBEq α] {l : List α} {x y : α} : y ∈ putS lt l x ↔ y = x ∨ y ∈ l := by
  unfold putS
  cases hc : (l[plc lt x l]? == some x)
  · exact insAt_mem
  · rw [beq_iff_eq] at hc
    exact ⟨.inr, fun h => h.elim (fun e => (by rw [e]; exact List.mem_of_getElem? hc)) id⟩
/-- neighbours that are equal, once -/
def cmpA [BEq α] : α → List α → List α
  | _, [] => []
  | p, x :: xs => bif x == p then cmpA x xs else x :: cmpA x xs
def cmpL [BEq α] : List α → List α
  | [] => []
  | x :: xs => x :: cmpA x xs
theorem cmpA_mem [BEq α] [LawfulBEq α] : ∀ {p : α} {l : List α} {y : α}, y ∈ cmpA p l → y ∈ l
  | p, x :: xs, y, h => by
    unfold cmpA at h
    cases hx : (x == p)
    · rw [hx, cond_false] at h
      rcases List.mem_cons.1 h with rfl | h
      · exact List.mem_cons_self ..
      · exact List.mem_cons_of_mem _ (cmpA_mem h)
    · rw [hx, cond_true] at h
      exact List.mem_cons_of_mem _ (cmpA_mem h)
theorem cmpA_mem2 [BEq α] [LawfulBEq α] : ∀ {p : α} {l : List α} {y : α}, y ∈ l → y = p ∨ y ∈ cmpA p l
  | p, x :: xs, y, h => by
    unfold cmpA
    cases hx : (x == p)
    · rw [cond_false]
      rcases List.mem_cons.1 h with rfl | h
      · exact .inr (List.mem_cons_self ..)
      · rcases cmpA_mem2 (p := x) h with rfl | h
        · exact .inr (List.mem_cons_self ..)
        · exact .inr (List.mem_cons_of_mem _ h)
    · rw [cond_true]
      rw [beq_iff_eq] at hx
      subst hx
      rcases List.mem_cons.1 h with rfl | h
      · exact .inl rfl
      · exact cmpA_mem2 h
theorem cmpL_mem [BEq α] [LawfulBEq α] {l : List α} {y : α} : y ∈ cmpL l ↔ y ∈ l := by
  cases l with
  | nil => rfl
  | cons x xs =>
    unfold cmpL
    constructor
    · intro h
      rcases List.mem_cons.1 h with rfl | h
      · exact List.mem_cons_self ..
      · exact List.mem_cons_of_mem _ (cmpA_mem h)
    · intro h
      rcases List.mem_cons.1 h with rfl | h
      · exact List.mem_cons_self ..
      · rcases cmpA_mem2 (p := x) h with rfl | h
        · exact List.mem_cons_self ..
        · exact List.mem_cons_of_mem _ h
theorem cmpA_sorted [BEq α] [LawfulBEq α] (S : Sto lt) : ∀ {p : α} {l : List α}, SortedW lt (p :: l) → SortedS lt (p :: cmpA p l)
  | p, [], _ => List.pairwise_cons.2 ⟨fun y h => (by cases h), List.Pairwise.nil⟩
  | p, x :: xs, h => by
    obtain ⟨h1, h2⟩ := List.pairwise_cons.1 h
    unfold cmpA
    cases hx : (x == p)
    · rw [cond_false]
      have ih := cmpA_sorted S h2
      refine List.pairwise_cons.2 ⟨fun y hy => ?_, ih⟩
      have hpx : lt p x = true := by
        cases hpx : lt p x
        · have := S.tri p x hpx (h1 x (List.mem_cons_self ..))
          subst this
          simp at hx
        · rfl
      rcases List.mem_cons.1 hy with rfl | hy
      · exact hpx
      · exact S.tr p x y hpx ((List.pairwise_cons.1 ih).1 y hy)
    · rw [cond_true]
      rw [beq_iff_eq] at hx
      subst hx
      exact cmpA_sorted S h2
theorem cmpL_sorted [BEq α] [LawfulBEq α] (S : Sto lt) {l : List α} (h : SortedW lt l) : SortedS lt (cmpL l) := by
  cases l with
  | nil => exact List.Pairwise.nil
  | cons x xs => exact cmpA_sorted S h
theorem cmpA_length [BEq α] : ∀ {p : α} {l : List α}, (cmpA p l).length ≤ l.length
  | _, [] => Nat.le_refl _
  | p, x :: xs => by
    unfold cmpA
    have := cmpA_length (p := x) (l := xs)
    cases (x == p) <;> simp <;> omega
theorem foldl_putS [BEq α] [LawfulBEq α] (S : Sto lt) : ∀ (xs : List α) (a : List α), SortedS lt a → SortedS lt (xs.foldl (putS lt) a) ∧ ∀ y, y ∈ xs.foldl (putS lt) a ↔ y ∈ xs ∨ y ∈ a
  | [], a, h => ⟨h, fun y => by simp⟩
  | x :: xs, a, h => by
    obtain ⟨h1, h2⟩ := foldl_putS S xs (putS lt a x) (putS_sorted S x h)
    refine ⟨h1, fun y => ?_⟩
    rw [List.foldl_cons, h2, putS_mem, List.mem_cons]
    constructor
    · rintro (h | h | h)
      · exact .inl (.inr h)
      · exact .inl (.inl h)
      · exact .inr h
    · rintro ((h | h) | h)
      · exact .inr (.inl h)
      · exact .inl h
      · exact .inr (.inr h)
/-- what mergeSort gives is in order -/
theorem sort_sorted (S : Sto lt) (l : List α) : SortedW lt (l.mergeSort fun x y => !(lt y x)) := by
  have := List.pairwise_mergeSort (le := fun x y => !(lt y x)) (fun a b c h k => by
    simp only [Bool.not_eq_true'] at *
    exact S.le_tr h k) (fun a b => by
    simp only [Bool.or_eq_true, Bool.not_eq_true']
    cases hb : lt b a
    · exact .inl rfl
    · exact .inr (S.asy hb)) l
  exact this.imp fun h => by simpa using h
end
end Go.Proofs.YtcodfkieaoomnaaGreatDoor
/- Plain: sets of strings as sorted lists, program and reference. No statement of the seat is proved here. -/
namespace Go.Proofs.YtcodfkieaoomnaaGreatDoor
open Go.RowKit
set_option linter.unusedVariables false
set_option linter.unusedSimpArgs false

theorem subL_take {α : Type} (xs : List α) (k : Nat) : subL xs 0 (k : Int) = xs.take k := by simp [subL]
theorem subL_drop {α : Type} (xs : List α) (k : Nat) : subL xs (k : Int) (xs.length : Int) = xs.drop k := by
  unfold subL
  rw [Int.toNat_natCast, Int.toNat_natCast]
  exact List.take_of_length_le (by simp)
theorem subR_k {α : Type} {xs : List α} {k : Nat} (h : k ≤ xs.length) : subR 0 (k : Int) xs.length = true := subR_iff.2 ⟨by omega, by omega, by omega⟩
theorem subR_d {α : Type} {xs : List α} {k : Nat} (h : k ≤ xs.length) : subR (k : Int) (xs.length : Int) xs.length = true := subR_iff.2 ⟨by omega, by omega, by omega⟩
theorem loop_plc {α : Type} {lt : α → α → Bool} {x : α} {l : List α} {L : Nat → Int → Option Int} (hs : ∀ k (i : Nat) y, l[i]? = some y → L (k + 1) (i : Int) = bif lt y x then L k ((i + 1 : Nat) : Int) else some (i : Int)) (he : ∀ k, L (k + 1) (l.length : Int) = some (l.length : Int)) {fu : Nat} (hf : l.length < fu) :
    L fu (0 : Int) = some ((plc lt x l : Nat) : Int) := by
  have key : ∀ m i k, i + m = l.length → m < k → L k ((i : Nat) : Int) = some ((i + plc lt x (l.drop i) : Nat) : Int) := by
    intro m
    induction m with
    | zero =>
      intro i k hi hk
      obtain ⟨k, rfl⟩ : ∃ q, k = q + 1 := ⟨k - 1, by omega⟩
      obtain rfl : i = l.length := by omega
      rw [he, List.drop_length]
      rfl
    | succ m ih =>
      intro i k hi hk
      obtain ⟨k, rfl⟩ : ∃ q, k = q + 1 := ⟨k - 1, by omega⟩
      have hx := List.getElem?_eq_getElem (show i < l.length by omega)
      rw [hs k i _ hx, drop_cons hx, plc]
      cases lt l[i] x
      · rfl
      · rw [cond_true, cond_true, ih (i + 1) k (by omega) (by omega)]
        congr 2
        omega
  have := key l.length 0 fu (by omega) hf
  rwa [show ((0 : Nat) : Int) = 0 from rfl, List.drop_zero, Nat.zero_add] at this
theorem put_t {fu : Nat} {l : List (List UInt8)} {x : List UInt8} {tw : Bool} (hf : l.length < fu) (hl : l.length ≤ 2147483648) : M_spec_l3Put fu l x tw = some (bif tw then putW bLt l x else putS bLt l x) := by
  unfold M_spec_l3Put
  have h := loop_plc (lt := bLt) (x := x) (l := l) (L := M_spec_l3Put_L0 fu l x) (fun k i y hy => by
    have hi := at_lt hy
    rw [M_spec_l3Put_L0]
    simp only [lt_t hi, inR_t hi, gtD_get hy, bd_eq, Bool.or_true, Bool.true_and, ck_tt, i64B_c (show i ≤ 4294967296 by omega), succ_i]) (fun k => by rw [M_spec_l3Put_L0, lt_f]; rfl) hf
  have hp := plc_le (lt := bLt) (x := x) l
  rw [h, cl_true]
  simp only [bd_eq, subL_take, subL_drop, subR_k hp, subR_d hp, ck_tt, List.length_nil, List.length_append, List.length_take, List.length_drop, List.length_singleton, List.nil_append, Nat.zero_add, lenOK_t (show min (plc bLt x l) l.length ≤ 4294967296 by omega), lenOK_t (show min (plc bLt x l) l.length + 1 ≤ 4294967296 by omega), lenOK_t (show min (plc bLt x l) l.length + 1 + (l.length - plc bLt x l) ≤ 4294967296 by omega)]
  have hins : l.take (plc bLt x l) ++ [x] ++ l.drop (plc bLt x l) = putW bLt l x := by simp [putW, insAt]
  rw [hins]
  unfold putS
  by_cases hlt : plc bLt x l < l.length
  · have hg := List.getElem?_eq_getElem hlt
    rw [lt_t hlt, inR_t hlt, gtD_get hg, hg]
    have : (some l[plc bLt x l] == some x) = (l[plc bLt x l] == x) := rfl
    rw [this]
    cases tw <;> cases (l[plc bLt x l] == x) <;> rfl
  · have e : decide (((plc bLt x l : Nat) : Int) < (l.length : Int)) = false := decide_eq_false (by omega)
    have e2 : l[plc bLt x l]? = none := List.getElem?_eq_none (by omega)
    rw [e, e2]
    cases tw <;> rfl
theorem has_t {fu : Nat} {l : List (List UInt8)} {x : List UInt8} (hf : l.length < fu) (hl : l.length ≤ 2147483648) : M_spec_l3Has fu l x = some (l.any fun y => y == x) := by
  unfold M_spec_l3Has
  have h := loop_any (xs := l) (p := fun y => y == x) (r := true) (L := M_spec_l3Has_L0 fu l x) (fun k i y hy => by
    have hi := at_lt hy
    rw [M_spec_l3Has_L0, lt_t hi, cond_true]
    simp only [inR_t hi, gtD_get hy, ck_tt, i64B_c (show i ≤ 4294967296 by omega), succ_i]) (fun k => by rw [M_spec_l3Has_L0, lt_f]; rfl) hf
  rw [h, cl_true]
  cases l.any fun y => y == x <;> rfl
theorem any_mem {l : List (List UInt8)} {x : List UInt8} : (l.any fun y => y == x) = true ↔ x ∈ l := by simp
/-- a list of at most n strings -/
theorem specCommon_t {fu : Nat} {a b : List (List UInt8)} (hf : 1048577 ≤ fu) (ha : a.length ≤ 1048576) (hb : b.length ≤ 1048576) : M_spec_CommonTokens fu a b = some ((a.filter fun x => b.any fun y => y == x).foldl (putS bLt) []) := by
  unfold M_spec_CommonTokens
  have h := loop_fold (xs := a) (g := fun (acc : List (List UInt8)) x => bif (b.any fun y => y == x) then putS bLt acc x else acc) (Inv := fun i acc => acc.length ≤ i) (L := fun k i acc => M_spec_CommonTokens_L0 fu a b k i acc) (fun k i acc x hx hacc => by
    have hi := at_lt hx
    show M_spec_CommonTokens_L0 fu a b (k + 1) (i : Int) acc = _
    rw [M_spec_CommonTokens_L0, lt_t hi, cond_true]
    simp only [inR_t hi, gtD_get hx, ck_tt, has_t (show b.length < fu by omega) (show b.length ≤ 2147483648 by omega), put_t (show acc.length < fu by omega) (show acc.length ≤ 2147483648 by omega), cl_true, i64B_c (show i ≤ 4294967296 by omega), succ_i, cond_false]
    cases b.any fun y => y == x <;> rfl) (fun i acc x hx hacc => by
    show (bif (b.any fun y => y == x) then putS bLt acc x else acc).length ≤ i + 1
    cases b.any fun y => y == x
    · exact Nat.le_succ_of_le hacc
    · rw [cond_true]
      unfold putS putW
      cases (acc[plc bLt x acc]? == some x)
      · rw [cond_false, insAt_length]; omega
      · exact Nat.le_succ_of_le hacc) (fun k acc hacc => by show M_spec_CommonTokens_L0 fu a b (k + 1) (a.length : Int) acc = _; rw [M_spec_CommonTokens_L0, lt_f]; rfl) (a := []) (Nat.zero_le _) (show a.length < fu by omega)
  rw [h.1, cl_true, List.foldl_filter]
  congr 1
  have : (fun (acc : List (List UInt8)) x => bif (b.any fun y => y == x) then putS bLt acc x else acc) = fun acc x => if (b.any fun y => y == x) = true then putS bLt acc x else acc := by
    funext acc x
    cases b.any fun y => y == x <;> rfl
  rw [this]
/-! the library's ways -/
theorem clone_t {fu : Nat} {l : List (List UInt8)} (hl : l.length ≤ 4294967296) : M_slices_Clone_string_string fu l = some l := by
  unfold M_slices_Clone_string_string
  rw [List.nil_append, ck_t (lenOK_t (by simpa using hl))]
theorem sortS_t {fu : Nat} {l : List (List UInt8)} (hl : l.length ≤ 4294967296) : M_sortS fu l = some (l.mergeSort fun x y => !(bLt y x)) := by
  unfold M_sortS
  rw [ck_t (lenOK_t hl)]
  have : (fun x y : List UInt8 => decide (x ≤ y)) = fun x y => !(bLt y x) := by
    funext x y
    exact le_bLt x y
  rw [this]
theorem contains_t {fu : Nat} {l : List (List UInt8)} {x : List UInt8} (hf : l.length < fu) (hl : l.length ≤ 2147483648) : M_slices_Contains_string_string fu l x = some (l.any fun y => y == x) := by
  unfold M_slices_Contains_string_string M_slices_Index_string_string
  have h := loop_ix (xs := l) (p := fun y => x == y) (L := M_slices_Index_string_string_L0 fu l x) (fun k i y hy => by
    have hi := at_lt hy
    rw [M_slices_Index_string_string_L0, lt_t hi, cond_true]
    simp only [inR_t hi, gtD_get hy, ck_tt, i64B_c (show i ≤ 4294967296 by omega), succ_i]) (fun k => by rw [M_slices_Index_string_string_L0, lt_f]; rfl) hf
  rw [h, cl_true]
  have hc : (fun y : List UInt8 => x == y) = fun y => y == x := by
    funext y
    exact Bool.beq_comm
  rw [hc]
  cases hi : ixI 0 (l.map fun y => y == x) with
  | none =>
    have h2 := ixI_none hi
    have : (l.any fun y => y == x) = false := by
      rw [List.any_eq_false]
      intro y hy
      have := h2 (y == x) (List.mem_map_of_mem hy)
      simp [this]
    rw [this]
    rfl
  | some j =>
    obtain ⟨_, h2, _⟩ := ixI_some hi
    have : (l.any fun y => y == x) = true := by
      rw [Nat.sub_zero, List.getElem?_map] at h2
      obtain ⟨y, hy, e⟩ := Option.map_eq_some_iff.1 h2
      rw [List.any_eq_true]
      exact ⟨y, List.mem_of_getElem? hy, e⟩
    rw [this]
    show some (decide (0 ≤ (j : Int))) = some true
    rw [decide_eq_true (by omega)]
/-- the rest, with zeros behind -/
theorem sub_zeros {α : Type} {z : α} {s : List α} {w : Nat} (h : w ≤ s.length) : subL (s.take w ++ List.replicate (s.length - w) z) 0 (w : Int) = s.take w := by
  rw [subL_take, List.take_append_of_le_length (by simp; omega), List.take_take, Nat.min_self]
theorem zeros_length {α : Type} {z : α} {s : List α} {w : Nat} (h : w ≤ s.length) : (s.take w ++ List.replicate (s.length - w) z).length = s.length := by simp; omega
theorem compact1_t {fu : Nat} {s : List (List UInt8)} {i : Nat} (hl : s.length ≤ 1048576) (hi0 : 0 < i) : ∀ m j w k ys q, i + j + m = s.length → m < k → 1 ≤ j → w ≤ i + j - 1 → ys.length = s.length → ys.drop (i + j - 1) = s.drop (i + j - 1) → s[i + j - 1]? = some q → ys.take w ++ cmpA q (s.drop (i + j)) = cmpL s →
    ∃ (w' : Nat) (ys' : List (List UInt8)), M_slices_Compact_string_string_L1 fu (i : Int) (s.length - i) k (w : Int) (j : Int) ys = some ((w' : Int), ys') ∧ ys'.length = s.length ∧ w' ≤ s.length ∧ ys'.take w' = cmpL s := by
  intro m
  induction m with
  | zero =>
    intro j w k ys q hm hk hj hw hlen hdr hq hc
    obtain ⟨k, rfl⟩ : ∃ q, k = q + 1 := ⟨k - 1, by omega⟩
    refine ⟨w, ys, ?_, hlen, by omega, ?_⟩
    · rw [M_slices_Compact_string_string_L1, decide_eq_false (show ¬ (j : Int) < ((s.length - i : Nat) : Int) by omega)]
      rfl
    · rw [show i + j = s.length by omega, List.drop_length] at hc
      simpa [cmpA] using hc
  | succ m ih =>
    intro j w k ys q hm hk hj hw hlen hdr hq hc
    obtain ⟨k, rfl⟩ : ∃ q, k = q + 1 := ⟨k - 1, by omega⟩
    have hx := List.getElem?_eq_getElem (show i + j < s.length by omega)
    have hat : ∀ n, i + j - 1 ≤ n → ys[n]? = s[n]? := fun n hn => by
      have := congrArg (fun l => l[n - (i + j - 1)]?) hdr
      simp only [List.getElem?_drop] at this
      rwa [show i + j - 1 + (n - (i + j - 1)) = n by omega] at this
    have hyx : ys[i + j]? = some s[i + j] := (hat _ (by omega)).trans hx
    have hyq : ys[i + j - 1]? = some q := (hat _ (Nat.le_refl _)).trans hq
    have e1 : ((i : Int) + (j : Int)) = ((i + j : Nat) : Int) := rfl
    have e2 : ((i : Int) + ((j : Int) - 1)) = ((i + j - 1 : Nat) : Int) := by omega
    rw [M_slices_Compact_string_string_L1, decide_eq_true (show (j : Int) < ((s.length - i : Nat) : Int) by omega), cond_true, ck_t (inR_i (by omega) (by omega)), ck_t (decide_eq_true (by omega)), e1, ck_t (inR_t (by omega)), ck_t (i64B_t (by omega) (by omega)), ck_t (inR_i (by omega) (by omega)), ck_t (decide_eq_true (by omega)), e2, ck_t (inR_t (by omega)), gtD_get hyx, gtD_get hyq]
    rw [drop_cons hx, cmpA] at hc
    cases hb : (s[i + j] == q)
    · rw [Bool.not_false, cond_true, ck_t (inR_i (by omega) (by omega)), ck_t (decide_eq_true (by omega)), ck_t (inR_t (by omega)), ck_t (inR_t (by omega)), ck_t (i64B_n (by omega)), ck_t (i64B_n (by omega)), succ_i, succ_i, set_nat]
      rw [hb, cond_false] at hc
      have := ih (j + 1) (w + 1) k (ys.set w s[i + j]) s[i + j] (by omega) (by omega) (by omega) (by omega) (by rw [List.length_set]; exact hlen) ?_ ?_ ?_
      · exact this
      · rw [List.drop_set_of_lt (by omega)]
        have := congrArg (fun l => l.drop 1) hdr
        simp only [List.drop_drop] at this
        rwa [show i + (j + 1) - 1 = i + j - 1 + 1 by omega]
      · rw [show i + (j + 1) - 1 = i + j by omega]
        exact hx
      · rw [List.take_add_one, List.take_set_of_le (Nat.le_refl _), List.getElem?_set_self (by omega)]
        simpa [Nat.add_assoc] using hc
    · rw [Bool.not_true, cond_false, ck_t (i64B_n (by omega)), succ_i]
      rw [hb, cond_true] at hc
      refine ih (j + 1) w k ys s[i + j] (by omega) (by omega) (by omega) (by omega) hlen ?_ ?_ hc
      · have := congrArg (fun l => l.drop 1) hdr
        simp only [List.drop_drop] at this
        rwa [show i + (j + 1) - 1 = i + j - 1 + 1 by omega]
      · rw [show i + (j + 1) - 1 = i + j by omega]
        exact hx
theorem compact_t {fu : Nat} {s : List (List UInt8)} (hf : 1048577 ≤ fu) (hl : s.length ≤ 1048576) : M_slices_Compact_string_string fu s = some (cmpL s) := by
  unfold M_slices_Compact_string_string
  by_cases h2 : s.length < 2
  · rw [decide_eq_true (by omega), cond_true]
    match s, h2 with
    | [], _ => rfl
    | [x], _ => rfl
  · rw [decide_eq_false (by omega), cond_false]
    have key : ∀ m i k q, i + m = s.length → m < k → 0 < i → s[i - 1]? = some q → s.take i ++ cmpA q (s.drop i) = cmpL s →
        M_slices_Compact_string_string_L0 fu k (i : Int) s = some (Ex.ret (cmpL s)) ∨ (M_slices_Compact_string_string_L0 fu k (i : Int) s = some (Ex.go s) ∧ cmpL s = s) := by
      intro m
      induction m with
      | zero =>
        intro i k q hm hk hi hq hc
        obtain ⟨k, rfl⟩ : ∃ q, k = q + 1 := ⟨k - 1, by omega⟩
        obtain rfl : i = s.length := by omega
        right
        refine ⟨by rw [M_slices_Compact_string_string_L0, lt_f]; rfl, ?_⟩
        rw [List.drop_length, List.take_length] at hc
        simpa [cmpA] using hc.symm
      | succ m ih =>
        intro i k q hm hk hi hq hc
        obtain ⟨k, rfl⟩ : ∃ q, k = q + 1 := ⟨k - 1, by omega⟩
        have hlt : i < s.length := by omega
        have hx := List.getElem?_eq_getElem hlt
        have e1 : ((i : Int) - 1) = ((i - 1 : Nat) : Int) := by omega
        rw [M_slices_Compact_string_string_L0, lt_t hlt, cond_true, ck_t (inR_t hlt), ck_t (i64B_t (by omega) (by omega)), e1, ck_t (inR_t (by omega)), gtD_get hx, gtD_get hq]
        have hc' := hc
        rw [drop_cons hx, cmpA] at hc
        cases hb : (s[i] == q)
        · rw [cond_false, ck_t (i64B_n (by omega)), succ_i]
          rw [hb, cond_false] at hc
          refine ih (i + 1) k s[i] (by omega) (by omega) (by omega) (by rw [Nat.add_sub_cancel]; exact hx) ?_
          have ht : s.take (i + 1) = s.take i ++ [s[i]] := by rw [List.take_add_one, hx]; rfl
          rw [ht, List.append_assoc]
          exact hc
        · left
          rw [hb, cond_true] at hc
          obtain ⟨w', ys', h3, h4, h5, h6⟩ := compact1_t (fu := fu) hl hi (s.length - i - 1) 1 i fu s s[i] (by omega) (by omega) (Nat.le_refl _) (by omega) rfl rfl (by rw [Nat.add_sub_cancel]; exact hx) hc
          rw [cond_true, ck_t (subR_d (Nat.le_of_lt hlt)), bd_eq, Int.toNat_natCast, Int.toNat_natCast, show ((1 : Int)) = ((1 : Nat) : Int) from rfl, h3, cl_true]
          simp only [h4, subR_iff.2 ⟨show (0 : Int) ≤ (w' : Int) by omega, show (w' : Int) ≤ (s.length : Int) by omega, show (s.length : Int) ≤ (s.length : Int) from Int.le_refl _⟩, bd_eq, Int.toNat_natCast, ck_tt, beq_self_eq_true]
          have e3 : (ys'.take w' ++ List.replicate (s.length - w') ([] : List UInt8)) = (ys'.take w' ++ List.replicate (ys'.length - w') ([] : List UInt8)) := by rw [h4]
          rw [e3, ck_t (by rw [zeros_length (by omega)]; exact subR_k (by omega)), sub_zeros (by omega), h6]
    obtain ⟨x0, t, hs⟩ : ∃ x t, s = x :: t := by
      cases s with
      | nil => simp at h2
      | cons x t => exact ⟨x, t, rfl⟩
    have hk := key (s.length - 1) 1 fu x0 (by omega) (by omega) (by omega) (by rw [hs]; rfl) (by rw [hs]; rfl)
    rw [show ((1 : Int)) = ((1 : Nat) : Int) from rfl]
    rcases hk with h | ⟨h, e⟩
    · rw [h]
      rfl
    · rw [h, e]
      rfl
theorem sortedSet_t {fu : Nat} {l : List (List UInt8)} (hf : 1048577 ≤ fu) (hl : l.length ≤ 1048576) : M_impl_sortedSet fu l = some (cmpL (l.mergeSort fun x y => !(bLt y x))) := by
  unfold M_impl_sortedSet
  rw [clone_t (by omega), cl_true, sortS_t (by omega), cl_true, compact_t hf (by rw [List.length_mergeSort]; exact hl)]
  rfl
/-- the set of a list -/
def setL (l : List (List UInt8)) : List (List UInt8) := cmpL (l.mergeSort fun x y => !(bLt y x))
theorem setL_sorted (l : List (List UInt8)) : SortedS bLt (setL l) := cmpL_sorted sto_bLt (sort_sorted sto_bLt l)
theorem setL_mem {l : List (List UInt8)} {x : List UInt8} : x ∈ setL l ↔ x ∈ l := by
  unfold setL
  rw [cmpL_mem, List.mem_mergeSort]
theorem cmpL_length {l : List (List UInt8)} : (cmpL l).length ≤ l.length := by
  cases l with
  | nil => exact Nat.le_refl _
  | cons x xs =>
    have := cmpA_length (p := x) (l := xs)
    simp [cmpL]
    omega
theorem setL_length (l : List (List UInt8)) : (setL l).length ≤ l.length := by
  have := cmpL_length (l := l.mergeSort fun x y => !(bLt y x))
  rwa [List.length_mergeSort] at this
theorem deleteFunc_t {fu : Nat} {s : List (List UInt8)} {F : List UInt8 → Option Bool} {d : List UInt8 → Bool} (hf : 1048577 ≤ fu) (hl : s.length ≤ 1048576) (hF : ∀ x ∈ s, F x = some (d x)) : M_slices_DeleteFunc_string_string fu s F = some (s.filter fun x => !(d x)) := by
  unfold M_slices_DeleteFunc_string_string M_slices_IndexFunc_string_string
  have h := loop_ix (xs := s) (p := d) (L := M_slices_IndexFunc_string_string_L0 fu s F) (fun k i y hy => by
    have hi := at_lt hy
    rw [M_slices_IndexFunc_string_string_L0, lt_t hi, cond_true]
    simp only [inR_t hi, gtD_get hy, ck_tt, hF y (at_mem hy), cl_true, i64B_c (show i ≤ 4294967296 by omega), succ_i]) (fun k => by rw [M_slices_IndexFunc_string_string_L0, lt_f]; rfl) (show s.length < fu by omega)
  rw [h, cl_true]
  cases hix : ixI 0 (s.map d) with
  | none =>
    have h2 := ixI_none hix
    show (cl true (some (-1 : Int)) fun x1 => _) = _
    rw [cl_true]
    show some s = _
    congr 1
    symm
    rw [List.filter_eq_self]
    intro x hx
    rw [h2 (d x) (List.mem_map_of_mem hx)]
    rfl
  | some j =>
    obtain ⟨_, h2, h3⟩ := ixI_some hix
    rw [Nat.sub_zero] at h2 h3
    have hj : j < s.length := by have := at_lt h2; simpa using this
    have hj' := List.getElem?_eq_getElem hj
    have hdj : d s[j] = true := by
      rw [List.getElem?_map, hj'] at h2
      simpa using h2
    have hpre : s.take j = (s.take j).filter fun x => !(d x) := by
      symm
      rw [List.filter_eq_self]
      intro x hx
      obtain ⟨q, hq⟩ := List.mem_iff_getElem?.1 hx
      rw [List.getElem?_take] at hq
      split at hq
      · rename_i hql
        have := h3 q hql
        rw [List.getElem?_map, hq] at this
        have : d x = false := by simpa using this
        rw [this]
        rfl
      · cases hq
    show (cl true (some (j : Int)) fun x1 => _) = _
    rw [cl_true]
    have e0 : ((j : Int) == -1) = false := by
      rw [beq_eq_false_iff_ne]
      omega
    rw [e0, cond_false, ck_t (i64B_n (by omega)), succ_i]
    have key : ∀ m i w k ys, i + m = s.length → m < k → w ≤ i → ys.length = s.length → ys.drop i = s.drop i → ys.take w = (s.take i).filter (fun x => !(d x)) →
        ∃ (w' : Nat) (ys' : List (List UInt8)), M_slices_DeleteFunc_string_string_L0 fu F k (w : Int) (i : Int) ys = some ((w' : Int), ys') ∧ ys'.length = s.length ∧ w' ≤ s.length ∧ ys'.take w' = s.filter fun x => !(d x) := by
      intro m
      induction m with
      | zero =>
        intro i w k ys hm hk hw hlen hdr hc
        obtain ⟨k, rfl⟩ : ∃ q, k = q + 1 := ⟨k - 1, by omega⟩
        obtain rfl : i = s.length := by omega
        refine ⟨w, ys, by rw [M_slices_DeleteFunc_string_string_L0, ← hlen, lt_f]; rfl, hlen, hw, ?_⟩
        rw [List.take_length] at hc
        exact hc
      | succ m ih =>
        intro i w k ys hm hk hw hlen hdr hc
        obtain ⟨k, rfl⟩ : ∃ q, k = q + 1 := ⟨k - 1, by omega⟩
        have hlt : i < s.length := by omega
        have hx := List.getElem?_eq_getElem hlt
        have hyx : ys[i]? = some s[i] := by
          have := congrArg (fun l => l[0]?) hdr
          simp only [List.getElem?_drop, Nat.add_zero] at this
          rw [this, hx]
        have hdr' : ∀ zs : List (List UInt8), zs.drop i = s.drop i → zs.drop (i + 1) = s.drop (i + 1) := fun zs hz => by
          have := congrArg (fun l => l.drop 1) hz
          simpa only [List.drop_drop] using this
        rw [M_slices_DeleteFunc_string_string_L0, lt_t (by omega), cond_true, ck_t (inR_t (by omega)), gtD_get hyx, hF _ (at_mem hx), cl_true]
        have ht : (s.take (i + 1)).filter (fun x => !(d x)) = (s.take i).filter (fun x => !(d x)) ++ (bif d s[i] then [] else [s[i]]) := by
          rw [List.take_add_one, hx, List.filter_append]
          congr 1
          show [s[i]].filter _ = _
          rw [List.filter_cons]
          cases d s[i] <;> rfl
        cases hd : d s[i]
        · rw [Bool.not_false, cond_true, ck_t (inR_t (by omega)), ck_t (i64B_n (by omega)), ck_t (i64B_n (by omega)), succ_i, succ_i, set_nat]
          refine ih (i + 1) (w + 1) k _ (by omega) (by omega) (by omega) (by rw [List.length_set]; exact hlen) ?_ ?_
          · rw [List.drop_set_of_lt (by omega)]
            exact hdr' ys hdr
          · rw [List.take_add_one, List.take_set_of_le (Nat.le_refl _), List.getElem?_set_self (by omega), ht, hd, hc]
            rfl
        · rw [Bool.not_true, cond_false, ck_t (i64B_n (by omega)), succ_i]
          refine ih (i + 1) w k _ (by omega) (by omega) (by omega) hlen (hdr' ys hdr) ?_
          rw [ht, hd, hc]
          simp
    have hstart : (s.take (j + 1)).filter (fun x => !(d x)) = s.take j := by
      rw [List.take_add_one, hj', List.filter_append, ← hpre]
      simp [hdj]
    obtain ⟨w', ys', h4, h5, h6, h7⟩ := key (s.length - (j + 1)) (j + 1) j fu s (by omega) (by omega) (by omega) rfl rfl hstart.symm
    rw [h4, cl_true]
    simp only [h5, subR_iff.2 ⟨show (0 : Int) ≤ (w' : Int) by omega, show (w' : Int) ≤ (s.length : Int) by omega, show (s.length : Int) ≤ (s.length : Int) from Int.le_refl _⟩, bd_eq, Int.toNat_natCast, ck_tt, beq_self_eq_true]
    have e3 : (ys'.take w' ++ List.replicate (s.length - w') ([] : List UInt8)) = (ys'.take w' ++ List.replicate (ys'.length - w') ([] : List UInt8)) := by rw [h5]
    rw [e3, ck_t (by rw [zeros_length (by omega)]; exact subR_k (by omega)), sub_zeros (by omega), h7]
theorem implCommon_t {fu : Nat} {a b : List (List UInt8)} (hf : 1048577 ≤ fu) (ha : a.length ≤ 1048576) (hb : b.length ≤ 1048576) : M_impl_CommonTokens fu a b = some ((setL a).filter fun x => b.any fun y => y == x) := by
  unfold M_impl_CommonTokens
  rw [sortedSet_t hf ha, cl_true, show cmpL (a.mergeSort fun x y => !(bLt y x)) = setL a from rfl, deleteFunc_t (d := fun x => !(b.any fun y => y == x)) hf (by have := setL_length a; omega) (fun x _ => by
    unfold M_impl_CommonTokens_1
    rw [contains_t (by omega) (by omega)]
    rfl), cl_true]
  simp only [Bool.not_not]
theorem common_eq (a b : List (List UInt8)) : (a.filter fun x => b.any fun y => y == x).foldl (putS bLt) [] = (setL a).filter fun x => b.any fun y => y == x := by
  obtain ⟨h1, h2⟩ := foldl_putS sto_bLt (a.filter fun x => b.any fun y => y == x) [] List.Pairwise.nil
  refine sortedS_one sto_bLt h1 ((setL_sorted a).sublist List.filter_sublist) fun x => ?_
  rw [h2, List.mem_filter, List.mem_filter, setL_mem]
  simp
end Go.Proofs.YtcodfkieaoomnaaGreatDoor
/- Plain: the words of a text and its tokens, program and reference alike. No statement of the seat is proved here. -/
namespace Go.Proofs.YtcodfkieaoomnaaGreatDoor
open Go.RowKit
set_option linter.unusedVariables false
set_option linter.unusedSimpArgs false

/-! ### words -/
def wds : List UInt8 → List UInt8 → List (List UInt8)
  | cur, [] => bif cur.isEmpty then [] else [cur]
  | cur, b :: l => bif b == 32 then (bif cur.isEmpty then wds [] l else cur :: wds [] l) else wds (cur ++ [b]) l
def neL (l : List (List UInt8)) : List (List UInt8) := l.filter fun y => !y.isEmpty
theorem neL_cons (x : List UInt8) (l : List (List UInt8)) : neL (x :: l) = bif x.isEmpty then neL l else x :: neL l := by
  unfold neL
  rw [List.filter_cons]
  cases x.isEmpty <;> rfl
theorem wds_spC : ∀ (s cur x : List UInt8) (xs : List (List UInt8)), spC 32 s = x :: xs → wds cur s = neL ((cur ++ x) :: xs)
  | [], cur, x, xs, h => by
    rw [spC] at h
    injection h with h1 h2
    subst h1; subst h2
    rw [wds, neL_cons, List.append_nil]
    rfl
  | b :: s, cur, x, xs, h => by
    obtain ⟨y, ys, hy⟩ : ∃ y ys, spC 32 s = y :: ys := by
      cases h' : spC 32 s with
      | nil => exact absurd h' (spC_ne 32 s)
      | cons y ys => exact ⟨y, ys, rfl⟩
    by_cases hb : b = 32
    · subst hb
      rw [spC, if_pos rfl] at h
      injection h with h1 h2
      subst h1; subst h2
      have ih := wds_spC s [] y ys hy
      rw [List.nil_append, ← hy] at ih
      rw [wds, show ((32 : UInt8) == 32) = true from rfl, cond_true, ih, neL_cons, List.append_nil]
    · rw [spC, if_neg hb, hy] at h
      injection h with h1 h2
      subst h1; subst h2
      rw [wds, show (b == 32) = false from beq_eq_false_iff_ne.2 hb, cond_false, wds_spC s (cur ++ [b]) y ys hy, List.append_assoc]
      rfl
theorem wds_ne (s : List UInt8) : wds [] s = neL (spC 32 s) := by
  cases h : spC 32 s with
  | nil => exact absurd h (spC_ne 32 s)
  | cons y ys => rw [wds_spC s [] y ys h, List.nil_append]
theorem wds_end (s : ByteArray) (f : Nat) (st : Option Nat) (acc : List (Nat × Nat)) (p : Nat → Bool) (hst : ∀ a, st = some a → a < s.size) :
    (Lib.closeSpans s (Lib.spansFromP p s f s.size st acc)).map (fun q => Lib.pieceU s.data.toList q.1 q.2) = acc.map (fun q => Lib.pieceU s.data.toList q.1 q.2) ++ wds (Lib.openPiece s.data.toList st s.size) (s.data.toList.drop s.size) := by
  have hd : s.data.toList.drop s.size = [] := List.drop_eq_nil_of_le (by rw [← Lib.size_eq]; exact Nat.le_refl _)
  rw [hd, Lib.spansFromP_end p s _ _ _ _ (Nat.lt_irrefl _)]
  cases st with
  | none => simp [Lib.closeSpans, Lib.openPiece, wds]
  | some a =>
    have := Lib.pieceU_ne s.data.toList a s.size (hst a rfl) (by rw [← Lib.size_eq]; exact Nat.le_refl _)
    have h2 : (Lib.pieceU s.data.toList a s.size).isEmpty = false := by
      cases hz : Lib.pieceU s.data.toList a s.size with
      | nil => exact absurd hz this
      | cons _ _ => rfl
    simp [Lib.closeSpans, Lib.openPiece, wds, h2]
theorem spans32 (s : ByteArray) (hs : ∀ b ∈ s.data.toList, b.toNat < 128) (p : Nat → Bool) (hp : ∀ b : UInt8, b.toNat < 128 → p b.toNat = (b == 32)) : ∀ (f pos : Nat) (st : Option Nat) (acc : List (Nat × Nat)), s.size ≤ pos + f → pos ≤ s.size → (∀ a, st = some a → a < pos) →
    (Lib.closeSpans s (Lib.spansFromP p s f pos st acc)).map (fun q => Lib.pieceU s.data.toList q.1 q.2) = acc.map (fun q => Lib.pieceU s.data.toList q.1 q.2) ++ wds (Lib.openPiece s.data.toList st pos) (s.data.toList.drop pos) := by
  intro f
  induction f with
  | zero =>
    intro pos st acc h hp0 hst
    obtain rfl : pos = s.size := by omega
    exact wds_end s 0 st acc p hst
  | succ f ih =>
    intro pos st acc h hp0 hst
    by_cases hlt : pos < s.size
    · have hl : pos < s.data.toList.length := by rw [← Lib.size_eq]; exact hlt
      have hb : (s[pos]'hlt) = s.data.toList[pos]'hl := rfl
      have ha : (s[pos]'hlt).toNat < 128 := by rw [hb]; exact hs _ (List.getElem_mem hl)
      have hd := decode_ascii s pos hlt ha
      have hdr : s.data.toList.drop pos = (s[pos]'hlt) :: s.data.toList.drop (pos + 1) := List.drop_eq_getElem_cons hl
      unfold Lib.spansFromP
      rw [if_pos hlt, hd, hdr]
      generalize (s[pos]'hlt) = b at ha hb hdr ⊢
      dsimp only
      rw [hp b ha, wds]
      have h1 : s.size ≤ pos + 1 + f := by omega
      cases hb32 : b == 32 with
      | true =>
        rw [if_pos rfl, cond_true]
        cases st with
        | none =>
          have ih := ih (pos + 1) none acc h1 (by omega) (fun a h => by cases h)
          dsimp only
          rw [ih]
          rfl
        | some a =>
          have hpn := Lib.pieceU_ne s.data.toList a pos (hst a rfl) (by omega)
          have ih := ih (pos + 1) none (acc ++ [(a, pos)]) h1 (by omega) (fun a h => by cases h)
          dsimp only
          rw [ih]
          have : (Lib.openPiece s.data.toList (some a) pos).isEmpty = false := by
            show (Lib.pieceU s.data.toList a pos).isEmpty = false
            cases hz : Lib.pieceU s.data.toList a pos with
            | nil => exact absurd hz hpn
            | cons _ _ => rfl
          rw [this, cond_false, List.map_append, List.append_assoc]
          rfl
      | false =>
        rw [if_neg (by decide), cond_false]
        have ht : (s.data.toList.drop pos).take 1 = [b] := by rw [hdr]; rfl
        cases st with
        | none =>
          have ih := ih (pos + 1) (some pos) acc h1 (by omega) (fun a h => by cases h; omega)
          dsimp only
          rw [ih]
          have : Lib.openPiece s.data.toList (some pos) (pos + 1) = [] ++ [b] := by
            show Lib.pieceU s.data.toList pos (pos + 1) = _
            unfold Lib.pieceU
            rw [Nat.add_sub_cancel_left, ht]
            rfl
          rw [this]
          rfl
        | some a =>
          have ih := ih (pos + 1) (some a) acc h1 (by omega) (fun b h => by cases h; have := hst a rfl; omega)
          dsimp only
          rw [ih]
          have : Lib.openPiece s.data.toList (some a) (pos + 1) = Lib.openPiece s.data.toList (some a) pos ++ [b] := by
            show Lib.pieceU s.data.toList a (pos + 1) = Lib.pieceU s.data.toList a pos ++ [b]
            rw [← Lib.pieceU_grow _ _ _ _ (Nat.le_of_lt (hst a rfl)), ht]
          rw [this]
    · obtain rfl : pos = s.size := by omega
      exact wds_end s (f + 1) st acc p hst
theorem fields32 (s : ByteArray) (hs : ∀ b ∈ s.data.toList, b.toNat < 128) (p : Nat → Bool) (hp : ∀ b : UInt8, b.toNat < 128 → p b.toNat = (b == 32)) : (Lib.goFieldsP p s).map (·.data.toList) = neL (spC 32 s.data.toList) := by
  have h := spans32 s hs p hp s.size 0 none [] (by omega) (Nat.zero_le _) (fun a h => by cases h)
  rw [List.map_nil, List.nil_append, List.drop_zero] at h
  rw [show Lib.openPiece s.data.toList none 0 = [] from rfl, wds_ne] at h
  rw [← h]
  unfold Lib.goFieldsP Lib.spansOfP
  rw [List.map_map]
  apply List.map_congr_left
  intro q _
  exact Lib.extract_data s q.1 q.2
/-! ### a normal text has letters, digits and spaces -/
def okC (c : UInt8) : Bool := wdB c || c == 32
theorem okC_asc {c : UInt8} (h : okC c = true) : c.toNat < 128 := by
  unfold okC wdB wdI smI cpI dgI at h
  by_cases h32 : c = 32
  · subst h32; decide
  · rw [show (c == 32) = false from beq_eq_false_iff_ne.2 h32, Bool.or_false] at h
    simp only [Bool.or_eq_true, Bool.and_eq_true, decide_eq_true_eq] at h
    omega
theorem strL_ok (s : List UInt8) : ∀ c ∈ strL s, okC c = true := by
  intro c hc
  unfold strL at hc
  obtain ⟨b, _, rfl⟩ := List.mem_map.1 hc
  unfold mkC okC
  cases h : wdB b
  · rfl
  · rw [cond_true, h]; rfl
theorem coT_ok {o : List UInt8 × Bool} (h : ∀ c ∈ o.1, okC c = true) : ∀ c ∈ coT o, okC c = true := by
  unfold coT
  cases (!o.1.isEmpty && o.2)
  · exact h
  · intro c hc
    rcases List.mem_append.1 hc with hc | hc
    · exact h c hc
    · rw [List.mem_singleton.1 hc]; rfl
theorem colL_ok : ∀ (s : List UInt8) (o : List UInt8 × Bool), (∀ c ∈ s, okC c = true) → (∀ c ∈ o.1, okC c = true) → ∀ c ∈ (s.foldl coS o).1, okC c = true
  | [], o, _, ho => ho
  | b :: s, o, hs, ho => by
    rw [List.foldl_cons]
    refine colL_ok s _ (fun c hc => hs c (List.mem_cons_of_mem _ hc)) ?_
    cases h : b == 32
    · rw [coS_f h]
      intro c hc
      rcases List.mem_append.1 hc with hc | hc
      · exact coT_ok ho c hc
      · rw [List.mem_singleton.1 hc]; exact hs b List.mem_cons_self
    · rw [coS_t h]
      exact ho
theorem nrmL_ok (s : List UInt8) : ∀ c ∈ nrmL s, okC c = true := colL_ok _ _ (strL_ok _) (fun c h => by cases h)
/-! ### tokens -/
theorem putL_set (l : List (List UInt8)) : l.foldl (putS bLt) [] = setL l := by
  obtain ⟨h1, h2⟩ := foldl_putS sto_bLt l [] List.Pairwise.nil
  refine sortedS_one sto_bLt h1 (setL_sorted l) fun x => ?_
  rw [h2, setL_mem]
  simp
def tokL (s : List UInt8) : List (List UInt8) := setL (neL (spC 32 (nrmL s)))
theorem neL_len (l : List (List UInt8)) : (neL l).length ≤ l.length := List.length_filter_le _ _
theorem words_t {fu : Nat} {s : List UInt8} (hs : s.length ≤ 2097152) (ha : ∀ c ∈ s, okC c = true) : M_impl_words fu s = some (neL (spC 32 s)) := by
  have hF : ∀ n : Int, M_impl_words_1 fu n = some (n == 32) := fun n => rfl
  unfold M_impl_words M_fields
  rw [ck_t (lenOK_t (by omega)), ck_t (runesOK_of fun n _ => by rw [hF]; rfl), cl_true]
  have := fields32 ⟨s.toArray⟩ (by simpa using fun b hb => okC_asc (ha b hb)) (fun n => (M_impl_words_1 fu (n : Int)).getD false) (fun b _ => by
    rw [hF]
    show (((b.toNat : Nat) : Int) == (32 : Int)) = _
    exact e32)
  rw [this]
theorem implTok_t {fu : Nat} {s : List UInt8} (hf : 1048577 ≤ fu) (hl : s.length ≤ 262144) : M_impl_Tokens fu s = some (tokL s) := by
  have h2 := nrm_len s
  have h3 := spC_len 32 (nrmL s)
  have h4 := neL_len (spC 32 (nrmL s))
  unfold M_impl_Tokens
  rw [implNorm_t (by omega) (by omega), cl_true, words_t (by omega) (nrmL_ok s), cl_true, sortedSet_t hf (by omega), cl_true]
  rfl
theorem specTok_t {fu : Nat} {s : List UInt8} (hf : 1048577 ≤ fu) (hl : s.length ≤ 262144) : M_spec_Tokens fu s = some (tokL s) := by
  have h2 := nrm_len s
  have h3 := spC_len 32 (nrmL s)
  unfold M_spec_Tokens tokL
  have hcut : M_spec_l2Cut fu (nrmL s) (32 : Int) = some (spC 32 (nrmL s)) := l2Cut_t (c := 32) hf (by omega)
  rw [specNorm_t (by omega) (by omega), cl_true, hcut, cl_true]
  generalize spC 32 (nrmL s) = l at h3 ⊢
  have h := loop_fold (xs := l) (g := fun (acc : List (List UInt8)) x => bif x.isEmpty then acc else putS bLt acc x) (Inv := fun i acc => acc.length ≤ i) (L := M_spec_Tokens_L0 fu l) (fun k i acc x hx hacc => by
    have hi := at_lt hx
    rw [M_spec_Tokens_L0, lt_t hi, cond_true]
    simp only [inR_t hi, gtD_get hx, ck_tt, put_t (show acc.length < fu by omega) (show acc.length ≤ 2147483648 by omega), cl_true, i64B_c (show i ≤ 4294967296 by omega), succ_i, cond_false]
    cases x with
    | nil => rfl
    | cons b x => rfl) (fun i acc x hx hacc => by
    show (bif x.isEmpty then acc else putS bLt acc x).length ≤ i + 1
    cases x.isEmpty
    · rw [cond_false]
      unfold putS putW
      cases (acc[plc bLt x acc]? == some x)
      · rw [cond_false, insAt_length]; omega
      · exact Nat.le_succ_of_le hacc
    · exact Nat.le_succ_of_le hacc) (fun k acc hacc => by rw [M_spec_Tokens_L0, lt_f]; rfl) (a := []) (Nat.zero_le _) (show l.length < fu by omega)
  rw [h.1, cl_true, ← putL_set]
  unfold neL
  rw [List.foldl_filter]
  congr 2
  funext acc x
  cases x.isEmpty <;> rfl
/-- what tokens are: not empty, of word bytes; how long -/
theorem spC_ok (c : UInt8) : ∀ s : List UInt8, ∀ x ∈ spC c s, ∀ b ∈ x, b ∈ s ∧ b ≠ c
  | [], x, hx, b, hb => by rw [spC] at hx; rw [List.mem_singleton.1 hx] at hb; cases hb
  | a :: s, x, hx, b, hb => by
    unfold spC at hx
    split at hx
    · rcases List.mem_cons.1 hx with rfl | hx
      · cases hb
      · exact ⟨List.mem_cons_of_mem _ (spC_ok c s x hx b hb).1, (spC_ok c s x hx b hb).2⟩
    · rename_i hac
      cases h : spC c s with
      | nil => exact absurd h (spC_ne c s)
      | cons y ys =>
        rw [h] at hx
        rcases List.mem_cons.1 hx with rfl | hx
        · rcases List.mem_cons.1 hb with rfl | hb
          · exact ⟨List.mem_cons_self, hac⟩
          · have := spC_ok c s y (by rw [h]; exact List.mem_cons_self) b hb
            exact ⟨List.mem_cons_of_mem _ this.1, this.2⟩
        · have := spC_ok c s x (by rw [h]; exact List.mem_cons_of_mem _ hx) b hb
          exact ⟨List.mem_cons_of_mem _ this.1, this.2⟩
theorem tokL_mem {s t : List UInt8} (h : t ∈ tokL s) : t ≠ [] ∧ t.length ≤ 2 * s.length ∧ ∀ b ∈ t, wdB b = true := by
  unfold tokL at h
  rw [setL_mem] at h
  unfold neL at h
  obtain ⟨h1, h2⟩ := List.mem_filter.1 h
  refine ⟨(by intro e; subst e; cases h2), Nat.le_trans (spC_mem 32 _ t h1) (nrm_len s), fun b hb => ?_⟩
  obtain ⟨h3, h4⟩ := spC_ok 32 _ t h1 b hb
  have := nrmL_ok s b h3
  unfold okC at this
  rw [show (b == 32) = false from beq_eq_false_iff_ne.2 h4, Bool.or_false] at this
  exact this
theorem tokL_len (s : List UInt8) : (tokL s).length ≤ 2 * s.length + 1 := by
  have h2 := nrm_len s
  have h3 := spC_len 32 (nrmL s)
  have h4 := neL_len (spC 32 (nrmL s))
  have h5 := setL_length (neL (spC 32 (nrmL s)))
  unfold tokL
  omega
end Go.Proofs.YtcodfkieaoomnaaGreatDoor
/- Plain: the codes of sounds, program and reference alike. No statement of the seat is proved here. -/
namespace Go.Proofs.YtcodfkieaoomnaaGreatDoor
open Go.RowKit
set_option linter.unusedVariables false
set_option linter.unusedSimpArgs false

theorem u8_all {p : UInt8 → Prop} (h : ∀ n : Fin 256, p (UInt8.ofNat n.val)) (d : UInt8) : p d := by
  have := h ⟨d.toNat, d.toNat_lt⟩
  rwa [UInt8.ofNat_toNat] at this
/-- a loop that ends early at an element with p, with something in hand -/
theorem loop_fx {α σ ρ τ : Type} {xs : List α} {bad : α → Bool} {r : ρ} {g : σ → α → σ} {f : σ → τ} {Inv : Nat → σ → Prop} {L : Nat → Int → σ → Option (Ex ρ τ)} {i0 : Nat}
    (hs : ∀ k (i : Nat) a x, i0 ≤ i → xs[i]? = some x → Inv i a → L (k + 1) (i : Int) a = bif bad x then some (.ret r) else L k ((i + 1 : Nat) : Int) (g a x)) (hI : ∀ (i : Nat) a x, i0 ≤ i → xs[i]? = some x → bad x = false → Inv i a → Inv (i + 1) (g a x))
    (he : ∀ k a, Inv xs.length a → L (k + 1) (xs.length : Int) a = some (.go (f a))) {a : σ} (h0 : Inv i0 a) (hi0 : i0 ≤ xs.length) {fu : Nat} (hf : xs.length - i0 < fu) :
    L fu (i0 : Int) a = some (bif (xs.drop i0).any bad then .ret r else .go (f ((xs.drop i0).foldl g a))) ∧ ((xs.drop i0).any bad = false → Inv xs.length ((xs.drop i0).foldl g a)) := by
  have key : ∀ m i k a, i + m = xs.length → m < k → i0 ≤ i → Inv i a → L k ((i : Nat) : Int) a = some (bif (xs.drop i).any bad then .ret r else .go (f ((xs.drop i).foldl g a))) ∧ ((xs.drop i).any bad = false → Inv xs.length ((xs.drop i).foldl g a)) := by
    intro m
    induction m with
    | zero =>
      intro i k a hi hk hge ha
      obtain ⟨k, rfl⟩ : ∃ q, k = q + 1 := ⟨k - 1, by omega⟩
      obtain rfl : i = xs.length := by omega
      rw [he k a ha, List.drop_length]
      exact ⟨rfl, fun _ => ha⟩
    | succ m ih =>
      intro i k a hi hk hge ha
      obtain ⟨k, rfl⟩ : ∃ q, k = q + 1 := ⟨k - 1, by omega⟩
      have hx := List.getElem?_eq_getElem (show i < xs.length by omega)
      rw [hs k i a _ hge hx ha, drop_cons hx, List.foldl_cons, List.any_cons]
      cases hb : bad xs[i] with
      | true => exact ⟨rfl, fun h => by cases h⟩
      | false =>
        rw [cond_false, Bool.false_or]
        exact ih (i + 1) k _ (by omega) (by omega) (by omega) (hI i a _ hge hx hb ha)
  exact key (xs.length - i0) i0 fu a (by omega) hf (Nat.le_refl _) h0
/-! ### the code of a letter -/
def sndD (d : UInt8) : Int := bif smI d.toNat then gtD sndL ((d.toNat : Int) - 97) else -2
def sndC (c : UInt8) : Int := sndD (fld c)
theorem specSC_t {fu : Nat} {c : UInt8} (hf : 1048577 ≤ fu) : M_spec_SoundCode fu (c.toNat : Int) = some (sndC c) := by
  unfold M_spec_SoundCode sndC
  have e : strB ([((c.toNat : Nat) : Int)] : List Int) = [c] := strB_bytL [c]
  rw [e, specFold_t (s := [c]) (by simp; omega) (by simp), cl_true]
  show _ = some (sndD (fld c))
  rw [show ([c].map fld) = [fld c] from rfl]
  generalize fld c = d
  revert d
  refine u8_all ?_
  decide +kernel
theorem implSC_e (fu : Nat) (c : UInt8) : M_impl_SoundCode fu (c.toNat : Int) = some (sndC c) := by
  unfold M_impl_SoundCode M_impl_isSmall sndC
  revert c
  refine u8_all ?_
  decide +kernel
theorem implSC_t {fu : Nat} {c : UInt8} : M_impl_SoundCode fu (c.toNat : Int) = some (sndC c) := implSC_e fu c
theorem sndC_r (c : UInt8) : -2 ≤ sndC c ∧ sndC c ≤ 6 := by
  revert c
  refine u8_all ?_
  decide +kernel
theorem dig_b {n : Int} (h0 : 0 ≤ n) (h1 : n ≤ 6) : ([(IntKind.u8.wrap ((48 : Int) + n))] : List Int) = bytL [UInt8.ofNat (48 + n.toNat)] := by
  obtain ⟨k, rfl⟩ : ∃ k : Nat, n = (k : Int) := ⟨n.toNat, by omega⟩
  rw [u8_wrap _ (by omega) (by omega), Int.toNat_natCast]
  unfold bytL
  rw [List.map_cons, List.map_nil, UInt8.toNat_ofNat']
  congr 1
  omega
/-! ### the code of a word -/
def sxG (o : List UInt8 × Int) (c : UInt8) : List UInt8 × Int := bif decide (sndC c < 0) then o else (bif decide (0 < sndC c) && (sndC c != o.2) then o.1 ++ [UInt8.ofNat (48 + (sndC c).toNat)] else o.1, sndC c)
def sxL (s : List UInt8) : List UInt8 := match s with
  | [] => []
  | c :: t => bif (c :: t).any (fun c => sndC c == -2) then [] else ((t.foldl sxG ([fld c], sndC c)).1 ++ [48, 48, 48]).take 4
theorem sxG_len : ∀ (t : List UInt8) (o : List UInt8 × Int), o.1.length ≤ (t.foldl sxG o).1.length ∧ (t.foldl sxG o).1.length ≤ o.1.length + t.length
  | [], o => ⟨Nat.le_refl _, Nat.le_refl _⟩
  | c :: t, o => by
    have := sxG_len t (sxG o c)
    have h2 : o.1.length ≤ (sxG o c).1.length ∧ (sxG o c).1.length ≤ o.1.length + 1 := by
      unfold sxG
      cases decide (sndC c < 0)
      · cases (decide (0 < sndC c) && (sndC c != o.2))
        · exact ⟨Nat.le_refl _, Nat.le_succ _⟩
        · simp
      · exact ⟨Nat.le_refl _, Nat.le_succ _⟩
    rw [List.foldl_cons, List.length_cons]
    omega
theorem sub1 {c : UInt8} {t : List UInt8} : subL (c :: t) 0 (1 : Int) = [c] := by
  rw [show ((1 : Int)) = ((1 : Nat) : Int) from rfl, subL_take]
  rfl
theorem implSx_t {fu : Nat} {s : List UInt8} (hf : 1048577 ≤ fu) (hl : s.length ≤ 1048576) : M_impl_Soundex fu s = some (sxL s) := by
  unfold M_impl_Soundex
  cases s with
  | nil => rfl
  | cons c t =>
    have hlen : (c :: t).length = t.length + 1 := rfl
    rw [show ((c :: t) == ([] : List UInt8)) = false from rfl, cond_false, ck_t (subR_iff.2 ⟨Int.le_refl _, by omega, by rw [hlen]; omega⟩), sub1, implFold_t (s := [c]) (by simp; omega) (by simp), cl_true, show ([c].map fld) = [fld c] from rfl, ck_t (lenOK_t (by simp)), ck_t (inR_0 (by rw [hlen]; omega)), show bAt (c :: t) (0 : Int) = (c.toNat : Int) from rfl, implSC_t, cl_true]
    have h1 := loop_fx (xs := c :: t) (bad := fun c => sndC c == -2) (r := ([] : List UInt8)) (g := sxG) (f := fun a : List UInt8 × Int => bytL a.1) (Inv := fun i a => a.1.length ≤ i) (i0 := 1) (L := fun k i (a : List UInt8 × Int) => M_impl_Soundex_L0 fu (c :: t) k a.2 i (bytL a.1)) (fun k i a x hge hx ha => by
      have hi := at_lt hx
      have hr := sndC_r x
      try dsimp only
      rw [M_impl_Soundex_L0, lt_t hi, cond_true, ck_t (inR_t hi), bAt_get hx, implSC_t, cl_true]
      have e0 : (((i : Nat) : Int) == (0 : Int)) = false := by rw [beq_eq_false_iff_ne]; omega
      have hone : ∀ (l : List Int), l.length = 1 → lenOK ((bytL a.1).length + l.length) = true := fun l hl => lenOK_t (by rw [bytL_len, hl]; omega)
      rw [e0, Bool.false_or, bd_eq, bd_eq, hone _ rfl, i64B_t (show -9223372036854775808 ≤ (48 : Int) + sndC x by omega) (show (48 : Int) + sndC x ≤ 9223372036854775807 by omega)]
      simp only [ck_tt, succ_i, i64B_c (show i ≤ 4294967296 by omega)]
      cases hb : sndC x == -2 with
      | true => rfl
      | false =>
        rw [cond_false, cond_false]
        unfold sxG
        cases hn : decide (sndC x < 0) with
        | true => rfl
        | false =>
          have h0 : 0 ≤ sndC x := by rw [decide_eq_false_iff_not] at hn; omega
          rw [cond_false]
          cases (decide (0 < sndC x) && (sndC x != a.2)) with
          | true => rw [cond_true, dig_b h0 hr.2, bytL_app]; rfl
          | false => rfl) (fun i a x hge hx hb ha => by
      have := (sxG_len [x] a).2
      simp only [List.foldl_cons, List.foldl_nil, List.length_singleton] at this
      show (sxG a x).1.length ≤ i + 1
      omega) (fun k a ha => by (try dsimp only); rw [M_impl_Soundex_L0, lt_f, cond_false]) (a := ([fld c], sndC c)) (Nat.le_refl _) (by rw [hlen]; omega) (fu := fu - 1) (by rw [hlen]; omega)
    have h1 := h1.1
    try dsimp only at h1
    obtain ⟨k, rfl⟩ : ∃ k, fu = k + 1 := ⟨fu - 1, by omega⟩
    rw [Nat.add_sub_cancel] at h1
    rw [M_impl_Soundex_L0, lt_0 (by rw [hlen]; omega), cond_true, ck_t (inR_0 (by rw [hlen]; omega)), show bAt (c :: t) (0 : Int) = (c.toNat : Int) from rfl, implSC_t, cl_true, bd_eq, show ((((0 : Int)) == (0 : Int)) || decide (sndC c < (0 : Int))) = true from rfl, cond_true, one_i, ck_t i64B_1, h1]
    have e : sxL (c :: t) = bif (c :: t).any (fun c => sndC c == -2) then [] else ((t.foldl sxG ([fld c], sndC c)).1 ++ [48, 48, 48]).take 4 := rfl
    rw [e, List.any_cons, List.drop_one, List.tail_cons]
    cases hb : sndC c == -2 with
    | true => rw [cond_true, cl_true, Bool.true_or, cond_true]; rfl
    | false =>
      rw [cond_false, cl_true, Bool.false_or]
      cases hb2 : t.any fun c => sndC c == -2 with
      | true => rw [cond_true, cond_true]; rfl
      | false =>
        have hg := sxG_len t ([fld c], sndC c)
        generalize (t.foldl sxG ([fld c], sndC c)).1 = o at hg ⊢
        rw [cond_false, cond_false, exM_go', strB_bytL]
        have hg1 : 1 ≤ o.length := hg.1
        have hg2 : o.length ≤ 1 + t.length := hg.2
        rw [ck_t (lenOK_t (by simp; omega)), ck_t (subR_iff.2 ⟨Int.le_refl _, by omega, by simp; omega⟩), show ((4 : Int)) = ((4 : Nat) : Int) from rfl, subL_take]
/-- the reference's way: four bytes at most are kept -/
theorem take4_app {o : List UInt8} {d : UInt8} : (o ++ [d]).take 4 = bif decide (o.length < 4) then o.take 4 ++ [d] else o.take 4 := by
  by_cases h : o.length < 4
  · rw [decide_eq_true h, cond_true, List.take_of_length_le (by simp; omega), List.take_of_length_le (by omega)]
  · rw [decide_eq_false h, cond_false, List.take_append_of_le_length (by omega)]
theorem pad_loop {fu : Nat} : ∀ (n k : Nat) (o : List UInt8), o.length + n = 4 → n < k → M_spec_Soundex_L1 fu k (bytL o) = some (bytL (o ++ List.replicate n 48))
  | 0, k, o, h, hk => by
    obtain ⟨k, rfl⟩ : ∃ q, k = q + 1 := ⟨k - 1, by omega⟩
    rw [M_spec_Soundex_L1, bytL_len, decide_eq_false (by omega), cond_false, List.replicate_zero, List.append_nil]
  | n + 1, k, o, h, hk => by
    obtain ⟨k, rfl⟩ : ∃ q, k = q + 1 := ⟨k - 1, by omega⟩
    rw [M_spec_Soundex_L1, bytL_len, decide_eq_true (by omega), cond_true, show ([(48 : Int)] : List Int) = bytL [48] from rfl, ck_t (lenOK_t (by rw [bytL_len]; simp; omega)), bytL_app, pad_loop n k (o ++ [48]) (by simp; omega) (by omega), List.append_assoc]
    rfl
theorem specSx_t {fu : Nat} {s : List UInt8} (hf : 1048577 ≤ fu) (hl : s.length ≤ 1048576) : M_spec_Soundex fu s = some (sxL s) := by
  unfold M_spec_Soundex
  cases s with
  | nil =>
    obtain ⟨k, rfl⟩ : ∃ k, fu = k + 1 := ⟨fu - 1, by omega⟩
    rw [M_spec_Soundex_L0]
    rfl
  | cons c t =>
    have hlen : (c :: t).length = t.length + 1 := rfl
    have h1 := loop_fx (xs := c :: t) (bad := fun c => sndC c == -2) (r := ([] : List UInt8)) (g := sxG) (f := fun a : List UInt8 × Int => bytL (a.1.take 4)) (Inv := fun i a => a.1.length ≤ i) (i0 := 1) (L := fun k i (a : List UInt8 × Int) => M_spec_Soundex_L0 fu (c :: t) k a.2 i (bytL (a.1.take 4))) (fun k i a x hge hx ha => by
      have hi := at_lt hx
      have hr := sndC_r x
      try dsimp only
      rw [M_spec_Soundex_L0, lt_t hi, cond_true, ck_t (inR_t hi), bAt_get hx, specSC_t hf, cl_true]
      have e0 : (((i : Nat) : Int) == (0 : Int)) = false := by rw [beq_eq_false_iff_ne]; omega
      have hone : ∀ (l : List Int), l.length = 1 → lenOK ((bytL (a.1.take 4)).length + l.length) = true := fun l hl => lenOK_t (by rw [bytL_len, hl, List.length_take]; omega)
      have h4 : decide (((bytL (a.1.take 4)).length : Int) < (4 : Int)) = decide (a.1.length < 4) := by
        rw [bytL_len, List.length_take]
        by_cases h : a.1.length < 4
        · rw [decide_eq_true h, decide_eq_true (by omega)]
        · rw [decide_eq_false h, decide_eq_false (by omega)]
      rw [e0, bd_eq, bd_eq, hone _ rfl, h4, i64B_t (show -9223372036854775808 ≤ (48 : Int) + sndC x by omega) (show (48 : Int) + sndC x ≤ 9223372036854775807 by omega)]
      simp only [ck_tt, succ_i, i64B_c (show i ≤ 4294967296 by omega)]
      cases hb : sndC x == -2 with
      | true => rfl
      | false =>
        rw [cond_false, cond_false]
        unfold sxG
        by_cases hn : sndC x < 0
        · rw [decide_eq_true hn, decide_eq_false (show ¬ (0 : Int) < sndC x by omega), decide_eq_false (show ¬ (0 : Int) ≤ sndC x by omega)]
          rfl
        · have h0 : 0 ≤ sndC x := by omega
          rw [decide_eq_false hn, decide_eq_true h0, cond_true, cond_true, cond_false, cond_false]
          cases (decide (0 < sndC x) && (sndC x != a.2)) with
          | true =>
            rw [Bool.true_and, cond_true, dig_b h0 hr.2, bytL_app]
            dsimp only
            rw [take4_app]
            cases decide (a.1.length < 4) <;> rfl
          | false => rfl) (fun i a x hge hx hb ha => by
      have := (sxG_len [x] a).2
      simp only [List.foldl_cons, List.foldl_nil, List.length_singleton] at this
      show (sxG a x).1.length ≤ i + 1
      omega) (fun k a ha => by (try dsimp only); rw [M_spec_Soundex_L0, lt_f, cond_false]) (a := ([fld c], sndC c)) (Nat.le_refl _) (by rw [hlen]; omega) (fu := fu - 1) (by rw [hlen]; omega)
    have h1 := h1.1
    try dsimp only at h1
    obtain ⟨k, rfl⟩ : ∃ k, fu = k + 1 := ⟨fu - 1, by omega⟩
    rw [Nat.add_sub_cancel] at h1
    rw [M_spec_Soundex_L0, lt_0 (by rw [hlen]; omega), cond_true, ck_t (inR_0 (by rw [hlen]; omega)), show bAt (c :: t) (0 : Int) = (c.toNat : Int) from rfl, specSC_t hf, cl_true, show (((0 : Int)) == (0 : Int)) = true from rfl, cond_true, ck_t (subR_iff.2 ⟨Int.le_refl _, by omega, by rw [hlen]; omega⟩), sub1, specFold_t (s := [c]) (by simp; omega) (by simp), cl_true, show ([c].map fld) = [fld c] from rfl, ck_t (inR_iff.2 ⟨Int.le_refl _, by simp⟩), show bAt [fld c] (0 : Int) = ((fld c).toNat : Int) from rfl, ck_t (lenOK_t (by simp)), one_i, ck_t i64B_1, show (([] : List Int) ++ [((fld c).toNat : Int)]) = bytL (([fld c] : List UInt8).take 4) from rfl, h1]
    have e : sxL (c :: t) = bif (c :: t).any (fun c => sndC c == -2) then [] else ((t.foldl sxG ([fld c], sndC c)).1 ++ [48, 48, 48]).take 4 := rfl
    rw [e, List.any_cons, List.drop_one, List.tail_cons]
    cases hb : sndC c == -2 with
    | true => rw [cond_true, cl_true, Bool.true_or, cond_true]; rfl
    | false =>
      rw [cond_false, cl_true, Bool.false_or]
      cases hb2 : t.any fun c => sndC c == -2 with
      | true => rw [cond_true, cond_true]; rfl
      | false =>
        have hg := sxG_len t ([fld c], sndC c)
        generalize (t.foldl sxG ([fld c], sndC c)).1 = o at hg ⊢
        have hg1 : 1 ≤ o.length := hg.1
        rw [cond_false, cond_false, exM_go', bytL_len, show (((o.take 4).length : Int) == (0 : Int)) = false by rw [beq_eq_false_iff_ne, List.length_take]; omega, cond_false, pad_loop (4 - (o.take 4).length) _ _ (by rw [List.length_take]; omega) (by omega), cl_true, strB_bytL]
        congr 1
        by_cases h4 : o.length < 4
        · rw [List.take_of_length_le (Nat.le_of_lt h4), List.take_append, List.take_of_length_le (Nat.le_of_lt h4)]
          congr 1
          match o.length, hg1, h4 with
          | 1, _, _ => rfl
          | 2, _, _ => rfl
          | 3, _, _ => rfl
        · rw [List.take_append_of_le_length (by omega), show 4 - (o.take 4).length = 0 by rw [List.length_take]; omega, List.replicate_zero, List.append_nil]
theorem sxL_len (s : List UInt8) : (sxL s).length ≤ 4 := by
  unfold sxL
  cases s with
  | nil => exact Nat.zero_le _
  | cons c t =>
    dsimp only
    cases ((c :: t).any fun c => sndC c == -2)
    · rw [cond_false, List.length_take]; omega
    · exact Nat.zero_le _
/-! ### the codes of all tokens -/
def skL (s : List UInt8) : List (List UInt8) := setL (neL ((tokL s).map sxL))
theorem isE (x : List UInt8) : (x == ([] : List UInt8)) = x.isEmpty := by cases x <;> rfl
theorem skFold (l : List (List UInt8)) : neL (l.map sxL) = l.foldl (fun (a : List (List UInt8)) t => bif (sxL t).isEmpty then a else a ++ [sxL t]) [] := by
  have key : ∀ (l a : List (List UInt8)), l.foldl (fun (a : List (List UInt8)) t => bif (sxL t).isEmpty then a else a ++ [sxL t]) a = a ++ neL (l.map sxL) := by
    intro l
    induction l with
    | nil => intro a; simp [neL]
    | cons t l ih =>
      intro a
      rw [List.foldl_cons, ih, List.map_cons, neL_cons]
      cases (sxL t).isEmpty <;> simp
  rw [key, List.nil_append]
theorem implSK_t {fu : Nat} {s : List UInt8} (hf : 1048577 ≤ fu) (hl : s.length ≤ 262144) : M_impl_SoundKeys fu s = some (skL s) := by
  have hle := tokL_len s
  have htl : ∀ t ∈ tokL s, t.length ≤ 1048576 := fun t ht => by have := (tokL_mem ht).2.1; omega
  unfold M_impl_SoundKeys skL
  rw [implTok_t hf hl, cl_true]
  generalize tokL s = l at hle htl ⊢
  have h := loop_fold (xs := l) (g := fun (a : List (List UInt8)) t => bif (sxL t).isEmpty then a else a ++ [sxL t]) (Inv := fun i a => a.length ≤ i) (L := M_impl_SoundKeys_L0 fu l) (fun k i a x hx ha => by
    have hi := at_lt hx
    rw [M_impl_SoundKeys_L0, lt_t hi, cond_true, ck_t (inR_t hi), gtD_get hx, implSx_t hf (htl x (at_mem hx)), cl_true, isE, succ_i, i64B_c (show i ≤ 4294967296 by omega), List.length_singleton, lenOK_t (show a.length + 1 ≤ 4294967296 by omega)]
    cases (sxL x).isEmpty <;> rfl) (fun i a x hx ha => by
    show (bif (sxL x).isEmpty then a else a ++ [sxL x]).length ≤ i + 1
    cases (sxL x).isEmpty
    · rw [cond_false, List.length_append, List.length_singleton]; omega
    · exact Nat.le_succ_of_le ha) (fun k a ha => by rw [M_impl_SoundKeys_L0, lt_f, cond_false]) (a := []) (Nat.zero_le _) (show l.length < fu by omega)
  rw [h.1, cl_true, ← skFold, sortedSet_t hf (by have := neL_len (l.map sxL); rw [List.length_map] at this; omega), cl_true]
  rfl
theorem specSK_t {fu : Nat} {s : List UInt8} (hf : 1048577 ≤ fu) (hl : s.length ≤ 262144) : M_spec_SoundKeys fu s = some (skL s) := by
  have hle := tokL_len s
  have htl : ∀ t ∈ tokL s, t.length ≤ 1048576 := fun t ht => by have := (tokL_mem ht).2.1; omega
  unfold M_spec_SoundKeys skL
  rw [specTok_t hf hl, cl_true]
  generalize tokL s = l at hle htl ⊢
  have h := loop_fold (xs := l) (g := fun (a : List (List UInt8)) t => bif (sxL t).isEmpty then a else putS bLt a (sxL t)) (Inv := fun i a => a.length ≤ i) (L := M_spec_SoundKeys_L0 fu l) (fun k i a x hx ha => by
    have hi := at_lt hx
    rw [M_spec_SoundKeys_L0, lt_t hi, cond_true, ck_t (inR_t hi), gtD_get hx, specSx_t hf (htl x (at_mem hx)), cl_true, isE, succ_i, i64B_c (show i ≤ 4294967296 by omega), put_t (show a.length < fu by omega) (show a.length ≤ 2147483648 by omega), cl_true]
    cases (sxL x).isEmpty <;> rfl) (fun i a x hx ha => by
    show (bif (sxL x).isEmpty then a else putS bLt a (sxL x)).length ≤ i + 1
    cases (sxL x).isEmpty
    · rw [cond_false]
      unfold putS putW
      cases (a[plc bLt (sxL x) a]? == some (sxL x))
      · rw [cond_false, insAt_length]; omega
      · exact Nat.le_succ_of_le ha
    · exact Nat.le_succ_of_le ha) (fun k a ha => by rw [M_spec_SoundKeys_L0, lt_f, cond_false]) (a := []) (Nat.zero_le _) (show l.length < fu by omega)
  rw [h.1, cl_true]
  congr 1
  rw [← putL_set]
  unfold neL
  rw [List.foldl_filter, List.foldl_map]
  congr 1
  funext acc x
  cases (sxL x).isEmpty <;> rfl
theorem skL_len (s : List UInt8) : (skL s).length ≤ 2 * s.length + 1 := by
  have h1 := tokL_len s
  have h2 := neL_len ((tokL s).map sxL)
  have h3 := setL_length (neL ((tokL s).map sxL))
  rw [List.length_map] at h2
  unfold skL
  omega
theorem skL_mem {s t : List UInt8} (h : t ∈ skL s) : t.length ≤ 4 := by
  unfold skL neL at h
  rw [setL_mem] at h
  obtain ⟨u, _, rfl⟩ := List.mem_map.1 (List.mem_filter.1 h).1
  exact sxL_len u
end Go.Proofs.YtcodfkieaoomnaaGreatDoor
/- Plain: indexes of sets, program and reference alike. No statement of the seat is proved here. -/
namespace Go.Proofs.YtcodfkieaoomnaaGreatDoor
open Go.RowKit
set_option linter.unusedVariables false
set_option linter.unusedSimpArgs false

def inI (x lo hi : Int) : Bool := decide (lo ≤ x) && decide (x ≤ hi)
theorem l1In_t {fu : Nat} {x lo hi : Int} : M_spec_l1In fu x lo hi = some (inI x lo hi) := rfl
end Go.Proofs.YtcodfkieaoomnaaGreatDoor
/- Plain: numbers in decimal, the features' names, program and reference alike. No statement of the seat is proved here. -/
namespace Go.Proofs.YtcodfkieaoomnaaGreatDoor
open Go.RowKit
set_option linter.unusedVariables false
set_option linter.unusedSimpArgs false

theorem dig_t : ∀ d : Nat, d < 10 → strB [IntKind.u8.wrap ((48 : Int) + (d : Int))] = [UInt8.ofNat (48 + d)] := by
  intro d hd
  have : ∀ d : Fin 10, strB [IntKind.u8.wrap ((48 : Int) + ((d.val : Nat) : Int))] = [UInt8.ofNat (48 + d.val)] := by decide
  exact this ⟨d, hd⟩
theorem tmod_abs (n : Int) : (if n.tmod 10 < 0 then 0 - n.tmod 10 else n.tmod 10) = ((n.natAbs % 10 : Nat) : Int) ∧ (n.tdiv 10).natAbs = n.natAbs / 10 := by
  cases n with
  | ofNat u =>
    have h1 : (Int.ofNat u).tmod 10 = ((u % 10 : Nat) : Int) := rfl
    have h2 : (Int.ofNat u).tdiv 10 = ((u / 10 : Nat) : Int) := rfl
    rw [h1, h2]
    refine ⟨?_, ?_⟩
    · rw [if_neg (by omega)]; rfl
    · rw [Int.natAbs_natCast]; rfl
  | negSucc u =>
    have h1 : (Int.negSucc u).tmod 10 = -(((u + 1) % 10 : Nat) : Int) := rfl
    have h2 : (Int.negSucc u).tdiv 10 = -(((u + 1) / 10 : Nat) : Int) := rfl
    rw [h1, h2, show (Int.negSucc u).natAbs = u + 1 from rfl]
    refine ⟨?_, ?_⟩
    · split <;> omega
    · rw [Int.natAbs_neg, Int.natAbs_natCast]
def decT (u : Nat) : List UInt8 := if u = 0 then [] else Lib.decDigits u
theorem decT_step (u : Nat) (h : u ≠ 0) : decT u = decT (u / 10) ++ [UInt8.ofNat (48 + u % 10)] := by
  unfold decT
  rw [if_neg h, Lib.decDigits]
  by_cases h10 : u < 10
  · rw [dif_pos h10, if_pos (by omega), List.nil_append, Nat.mod_eq_of_lt h10]
  · rw [dif_neg h10, if_neg (by omega)]
theorem decT_len (k u : Nat) (h : u < 10 ^ (k + 1)) : (decT u).length ≤ k + 1 := by
  unfold decT
  split
  · simp
  · exact decDigits_le k u h
theorem spec_digits {fu : Nat} : ∀ (k : Nat) (n : Int) (acc : List UInt8), n.natAbs < 10 ^ k → n.natAbs ≤ 9223372036854775808 → acc.length + k ≤ 1000 → ∀ q, k < q → M_spec_FormatInt_L0 fu q n acc = some (decT n.natAbs ++ acc)
  | 0, n, acc, h, hn, hl, q, hq => by
    obtain ⟨q, rfl⟩ : ∃ z, q = z + 1 := ⟨q - 1, by omega⟩
    have : n = 0 := by rw [Nat.pow_zero] at h; omega
    subst this
    rw [M_spec_FormatInt_L0]
    rfl
  | k + 1, n, acc, h, hn, hl, q, hq => by
    obtain ⟨q, rfl⟩ : ∃ z, q = z + 1 := ⟨q - 1, by omega⟩
    by_cases h0 : n = 0
    · subst h0
      rw [M_spec_FormatInt_L0]
      rfl
    · obtain ⟨h1, h2⟩ := tmod_abs n
      have hm : n.natAbs % 10 < 10 := Nat.mod_lt _ (by omega)
      have hu : n.natAbs ≠ 0 := by omega
      have hd := dig_t (n.natAbs % 10) hm
      have ih := spec_digits (fu := fu) k (n.tdiv 10) ([UInt8.ofNat (48 + n.natAbs % 10)] ++ acc) (by rw [h2]; rw [Nat.pow_succ] at h; omega) (by rw [h2]; omega) (by simp; omega) q (by omega)
      have hr : -9223372036854775808 ≤ n.tdiv 10 ∧ n.tdiv 10 ≤ 9223372036854775807 := by
        generalize n.tdiv 10 = z at h2
        omega
      have hlen : lenOK (([UInt8.ofNat (48 + n.natAbs % 10)] : List UInt8) ++ acc).length = true := lenOK_t (by simp; omega)
      have fin : decT (n.tdiv 10).natAbs ++ ([UInt8.ofNat (48 + n.natAbs % 10)] ++ acc) = decT n.natAbs ++ acc := by rw [h2, decT_step _ hu, List.append_assoc]
      rw [M_spec_FormatInt_L0, show (n != (0 : Int)) = true from by simpa using h0, cond_true, ck_t (show ((10 : Int) != 0) = true from rfl)]
      by_cases ht : n.tmod 10 < 0
      · rw [if_pos ht] at h1
        rw [decide_eq_true ht, cond_true, h1, ck_t (i64B_t (by omega) (by omega)), ck_t (i64B_t (by omega) (by omega)), hd, ck_t hlen, ck_t (show ((10 : Int) != 0) = true from rfl), ck_t (i64B_t hr.1 hr.2), ih, fin]
      · rw [if_neg ht] at h1
        rw [decide_eq_false ht, cond_false, h1, ck_t (i64B_t (by omega) (by omega)), hd, ck_t hlen, ck_t (show ((10 : Int) != 0) = true from rfl), ck_t (i64B_t hr.1 hr.2), ih, fin]
theorem specFI_t {fu : Nat} {n : Int} (hf : 1048577 ≤ fu) (h0 : -9223372036854775808 ≤ n) (h1 : n ≤ 9223372036854775807) : M_spec_FormatInt fu n = some (Lib.itoa n) := by
  unfold M_spec_FormatInt
  by_cases hz : n = 0
  · subst hz
    rw [show ((0 : Int) == 0) = true from rfl, cond_true]
    unfold Lib.itoa
    rw [if_neg (by decide), show (0 : Int).toNat = 0 from rfl, Lib.decDigits, dif_pos (by decide)]
    rfl
  · have hd := spec_digits (fu := fu) 20 n [] (by omega) (by omega) (by simp) fu (by omega)
    have hl := decT_len 19 n.natAbs (by omega)
    rw [List.append_nil] at hd
    have hu : n.natAbs ≠ 0 := by omega
    have e : decT n.natAbs = Lib.decDigits n.natAbs := if_neg hu
    rw [show (n == (0 : Int)) = false from by simpa using hz, cond_false, hd, cl_true]
    unfold Lib.itoa
    by_cases hneg : n < 0
    · rw [decide_eq_true hneg, cond_true, if_pos hneg, ck_t (lenOK_t (by simp; omega)), e]
      rfl
    · rw [decide_eq_false hneg, cond_false, if_neg hneg, e, show n.natAbs = n.toNat from by omega]
theorem implFI_t {fu : Nat} {n : Int} (h0 : -9223372036854775808 ≤ n) (h1 : n ≤ 9223372036854775807) : M_impl_FormatInt fu n = some (Lib.itoa n) := by
  unfold M_impl_FormatInt M_itoa
  rw [ck_t (i64B_t h0 h1)]
  rfl
theorem itoa_le {n : Int} (h0 : -9223372036854775808 ≤ n) (h1 : n ≤ 9223372036854775807) : (Lib.itoa n).length ≤ 21 := itoa_len h0 h1
end Go.Proofs.YtcodfkieaoomnaaGreatDoor
/- Plain: numbers read from texts, program and reference alike. No statement of the seat is proved here. -/
namespace Go.Proofs.YtcodfkieaoomnaaGreatDoor
open Go.RowKit
set_option linter.unusedVariables false
set_option linter.unusedSimpArgs false

/-- s is the decimal text of n, a number of nine digits at most -/
def IsI (s : List UInt8) (n : Int) : Prop := Lib.itoa n = s ∧ -999999999 ≤ n ∧ n ≤ 999999999
theorem dig_nat (d : Nat) (h : d < 10) : (UInt8.ofNat (48 + d)).toNat = 48 + d := by
  rw [UInt8.toNat_ofNat']
  omega
theorem dec_small {u : Nat} (h : u < 10) : Lib.decDigits u = [UInt8.ofNat (48 + u)] := by rw [Lib.decDigits, dif_pos h]
theorem dec_big {u : Nat} (h : ¬ u < 10) : Lib.decDigits u = Lib.decDigits (u / 10) ++ [UInt8.ofNat (48 + u % 10)] := by rw [Lib.decDigits, dif_neg h]
theorem dec_dig (u : Nat) : ∀ c ∈ Lib.decDigits u, 48 ≤ c.toNat ∧ c.toNat ≤ 57 := by
  induction u using Nat.strongRecOn with
  | _ u ih =>
    intro c hc
    by_cases h : u < 10
    · rw [dec_small h] at hc
      rw [List.mem_singleton.1 hc, dig_nat u h]
      omega
    · rw [dec_big h] at hc
      rcases List.mem_append.1 hc with hc | hc
      · exact ih (u / 10) (by omega) c hc
      · rw [List.mem_singleton.1 hc, dig_nat _ (Nat.mod_lt _ (by omega))]
        omega
theorem dec_ne (u : Nat) : Lib.decDigits u ≠ [] := by
  by_cases h : u < 10
  · rw [dec_small h]; simp
  · rw [dec_big h]; simp
/-! ### the reference's scan -/
def scS (p : Nat × Nat) (c : UInt8) : Nat × Nat := if 48 ≤ c.toNat ∧ c.toNat ≤ 57 then (p.1 * 10 + (c.toNat - 48), p.2 + 1) else p
theorem sc_dec (u : Nat) : (Lib.decDigits u).foldl scS (0, 0) = (u, (Lib.decDigits u).length) := by
  induction u using Nat.strongRecOn with
  | _ u ih =>
    by_cases h : u < 10
    · rw [dec_small h]
      have := dig_nat u h
      simp only [List.foldl_cons, List.foldl_nil, scS, this, List.length_singleton]
      rw [if_pos (by omega)]
      simp
    · have hd := dig_nat (u % 10) (Nat.mod_lt _ (by omega))
      rw [dec_big h, List.foldl_append, ih (u / 10) (by omega)]
      simp only [List.foldl_cons, List.foldl_nil, scS, hd, List.length_append, List.length_singleton]
      rw [if_pos (by omega)]
      congr 1
      omega
theorem sc_lt : ∀ (s : List UInt8) (p : Nat × Nat), p.1 < 10 ^ p.2 → (s.foldl scS p).1 < 10 ^ (s.foldl scS p).2
  | [], p, h => h
  | c :: s, p, h => by
    rw [List.foldl_cons]
    refine sc_lt s _ ?_
    unfold scS
    split
    · show p.1 * 10 + (c.toNat - 48) < 10 ^ (p.2 + 1)
      rw [Nat.pow_succ]
      omega
    · exact h
theorem sc_cnt : ∀ (s : List UInt8) (p : Nat × Nat), (s.foldl scS p).2 ≤ p.2 + s.length
  | [], p => Nat.le_refl _
  | c :: s, p => by
    have := sc_cnt s (scS p c)
    rw [List.foldl_cons, List.length_cons]
    have h : (scS p c).2 ≤ p.2 + 1 := by
      unfold scS
      split
      · exact Nat.le_refl _
      · exact Nat.le_succ _
    omega
theorem pow_le11 {k : Nat} (h : k ≤ 11) : 10 ^ k ≤ 100000000000 := Nat.le_trans (Nat.pow_le_pow_right (by omega) h) (by omega)
theorem scan_t {fu : Nat} {s : List UInt8} (hs : s.length ≤ 1048576) : ∀ m i k (p : Nat × Nat), (i + m = s.length ∨ (m = 0 ∧ 11 ≤ i)) → i ≤ 11 → m < k → p.1 < 10 ^ p.2 → p.2 ≤ i → (s.take 11).take i = s.take i →
    M_spec_ParseInt_L0 fu s k (p.1 : Int) (p.2 : Int) (i : Int) = some (((((s.take 11).drop i).foldl scS p).1 : Int), ((((s.take 11).drop i).foldl scS p).2 : Int)) := by
  intro m
  induction m with
  | zero =>
    intro i k p hi h11 hk hp hpi ht
    obtain ⟨k, rfl⟩ : ∃ z, k = z + 1 := ⟨k - 1, by omega⟩
    have hd : (s.take 11).drop i = [] := List.drop_eq_nil_of_le (by rw [List.length_take]; omega)
    have hc : (decide ((i : Int) < (s.length : Int)) && decide ((i : Int) < 11)) = false := by
      rw [Bool.and_eq_false_imp, decide_eq_true_eq, decide_eq_false_iff_not]
      omega
    rw [M_spec_ParseInt_L0, bd_eq, hc, cond_false, hd]
    rfl
  | succ m ih =>
    intro i k p hi h11 hk hp hpi ht
    obtain ⟨k, rfl⟩ : ∃ z, k = z + 1 := ⟨k - 1, by omega⟩
    have hlt : i < s.length := by omega
    by_cases h : i < 11
    · have hc : (decide ((i : Int) < (s.length : Int)) && decide ((i : Int) < 11)) = true := by
        rw [Bool.and_eq_true, decide_eq_true_eq, decide_eq_true_eq]
        omega
      have hx := List.getElem?_eq_getElem hlt
      have hb := bAt_get' hx
      have h256 : s[i].toNat < 256 := UInt8.toNat_lt _
      have hdrop : (s.take 11).drop i = s[i] :: (s.take 11).drop (i + 1) := by
        rw [List.drop_eq_getElem_cons (by rw [List.length_take]; omega), List.getElem_take]
      have hpb : p.1 ≤ 100000000000 := Nat.le_of_lt (Nat.lt_of_lt_of_le hp (pow_le11 (by omega)))
      have hw : IntKind.i64.wrap (IntKind.u8.wrap ((s[i].toNat : Int) - 48)) = ((s[i].toNat - 48 : Nat) : Int) ∨ s[i].toNat < 48 := by
        rcases Nat.lt_or_ge s[i].toNat 48 with h' | h'
        · exact .inr h'
        · left
          have e : ((s[i].toNat : Int) - 48) = ((s[i].toNat - 48 : Nat) : Int) := by omega
          rw [e]
          have h1 : IntKind.u8.wrap ((s[i].toNat - 48 : Nat) : Int) = ((s[i].toNat - 48 : Nat) : Int) := by
            unfold IntKind.wrap
            simp [IntKind.bits, IntKind.signed]
            omega
          rw [h1]
          exact IntWalk.i64_in _ (by omega)
      have hnext : ∀ q : Nat × Nat, q.1 < 10 ^ q.2 → q.2 ≤ i + 1 → M_spec_ParseInt_L0 fu s k (q.1 : Int) (q.2 : Int) ((i + 1 : Nat) : Int) = some (((((s.take 11).drop (i + 1)).foldl scS q).1 : Int), ((((s.take 11).drop (i + 1)).foldl scS q).2 : Int)) := fun q h1 h2 =>
        ih (i + 1) k q (by omega) (by omega) (by omega) h1 h2 (by rw [List.take_take, Nat.min_eq_left (by omega)])
      rw [M_spec_ParseInt_L0, bd_eq, hc, cond_true, ck_t (inR_t hlt), hb, ck_t (by rw [inR_t hlt, Bool.or_true]), bd_eq, hdrop, List.foldl_cons]
      by_cases hdg : 48 ≤ s[i].toNat ∧ s[i].toNat ≤ 57
      · have hd : (decide ((48 : Int) ≤ (s[i].toNat : Int)) && decide ((s[i].toNat : Int) ≤ 57)) = true := by
          rw [Bool.and_eq_true, decide_eq_true_eq, decide_eq_true_eq]
          omega
        have hw' := hw.resolve_right (by omega)
        have e : scS p s[i] = (p.1 * 10 + (s[i].toNat - 48), p.2 + 1) := if_pos hdg
        have hq := hnext (p.1 * 10 + (s[i].toNat - 48), p.2 + 1) (by show _ < 10 ^ (p.2 + 1); rw [Nat.pow_succ]; omega) (by show p.2 + 1 ≤ i + 1; omega)
        rw [hd, cond_true, hw', ck_t (i64B_t (by omega) (by omega)), ck_t (inR_t hlt), ck_t (i64B_t (by omega) (by omega)), ck_t (i64B_t (by omega) (by omega)), ck_t (i64B_n (by omega)), e, ← hq]
        congr 1
      · have hd : (decide ((48 : Int) ≤ (s[i].toNat : Int)) && decide ((s[i].toNat : Int) ≤ 57)) = false := by
          rw [Bool.and_eq_false_imp, decide_eq_true_eq, decide_eq_false_iff_not]
          omega
        have e : scS p s[i] = p := if_neg hdg
        rw [hd, cond_false, ck_t (i64B_n (by omega)), e, succ_i]
        exact hnext p hp (by omega)
    · have hd : (s.take 11).drop i = [] := List.drop_eq_nil_of_le (by rw [List.length_take]; omega)
      have hc : (decide ((i : Int) < (s.length : Int)) && decide ((i : Int) < 11)) = false := by
        rw [Bool.and_eq_false_imp, decide_eq_true_eq, decide_eq_false_iff_not]
        omega
      rw [M_spec_ParseInt_L0, bd_eq, hc, cond_false, hd]
      rfl
theorem itoa_pos {n : Int} (h : 0 ≤ n) : Lib.itoa n = Lib.decDigits n.toNat := by unfold Lib.itoa; rw [if_neg (by omega)]
theorem itoa_neg' {n : Int} (h : n < 0) : Lib.itoa n = 45 :: Lib.decDigits n.natAbs := by unfold Lib.itoa; rw [if_pos h]
theorem dec_len9 {u : Nat} (h : u ≤ 999999999) : (Lib.decDigits u).length ≤ 9 := decDigits_le 8 u (by omega)
/-- what a text of a number looks like -/
theorem isI_scan {s : List UInt8} {n : Int} (h : IsI s n) : s.length ≤ 10 ∧ 0 < s.length ∧ s.foldl scS (0, 0) = (n.natAbs, (Lib.decDigits n.natAbs).length) ∧ (Lib.decDigits n.natAbs).length ≤ 9 ∧ (s[0]? = some 45 ↔ n < 0) := by
  obtain ⟨rfl, h1, h2⟩ := h
  have hl := dec_len9 (u := n.natAbs) (by omega)
  have hp := List.length_pos_iff.2 (dec_ne n.natAbs)
  by_cases hn : n < 0
  · rw [itoa_neg' hn]
    refine ⟨by simp; omega, by simp, ?_, hl, by simp [hn]⟩
    rw [List.foldl_cons, show scS (0, 0) 45 = (0, 0) from rfl, sc_dec]
  · rw [itoa_pos (by omega), show n.toNat = n.natAbs by omega]
    refine ⟨by omega, hp, sc_dec _, hl, ?_⟩
    constructor
    · intro h
      have := dec_dig n.natAbs 45 (List.mem_of_getElem? h)
      exact absurd this.1 (by decide)
    · intro h; omega
/-- read as a number, or not -/
def RdI (s : List UInt8) (r : Int × Bool) : Prop := (∃ n, IsI s n ∧ r = (n, true)) ∨ ((∀ n, ¬ IsI s n) ∧ r = (0, false))
theorem isI_one {s : List UInt8} {n m : Int} (h : IsI s n) (k : IsI s m) : n = m := by
  have a := isI_scan h
  have b := isI_scan k
  have e : n.natAbs = m.natAbs := by
    have := a.2.2.1.symm.trans b.2.2.1
    injection this
  have := a.2.2.2.2
  have := b.2.2.2.2
  by_cases hs : s[0]? = some 45
  · have := a.2.2.2.2.1 hs
    have := b.2.2.2.2.1 hs
    omega
  · have h1 : ¬ n < 0 := fun h => hs (a.2.2.2.2.2 h)
    have h2 : ¬ m < 0 := fun h => hs (b.2.2.2.2.2 h)
    omega
theorem RdI.one {s : List UInt8} {r q : Int × Bool} (h : RdI s r) (k : RdI s q) : r = q := by
  rcases h with ⟨n, h1, rfl⟩ | ⟨h1, rfl⟩ <;> rcases k with ⟨m, k1, rfl⟩ | ⟨k1, rfl⟩
  · rw [isI_one h1 k1]
  · exact absurd h1 (k1 n)
  · exact absurd k1 (h1 m)
  · rfl
theorem RdI.no {s : List UInt8} (h : RdI s (0, false)) : ∀ n, ¬ IsI s n := by
  rcases h with ⟨n, _, h⟩ | ⟨h, _⟩
  · cases h
  · exact h
theorem specPI_t {fu : Nat} {s : List UInt8} (hf : 1048577 ≤ fu) (hs : s.length ≤ 1048576) : ∃ r, M_spec_ParseInt fu s = some r ∧ RdI s r := by
  have hsc := scan_t (fu := fu) hs s.length 0 fu (0, 0) (.inl (by omega)) (by omega) (by omega) (by decide) (Nat.le_refl _) (by simp)
  rw [List.drop_zero] at hsc
  have hlt := sc_lt (s.take 11) (0, 0) (by decide)
  have hct := sc_cnt (s.take 11) (0, 0)
  have htk : (s.take 11).length ≤ 11 := by rw [List.length_take]; omega
  generalize hp : (s.take 11).foldl scS (0, 0) = p at hsc hlt hct
  have hpb : p.1 ≤ 100000000000 := Nat.le_of_lt (Nat.lt_of_lt_of_le hlt (pow_le11 (by omega)))
  have hM : M_spec_ParseInt_L0 fu s fu 0 0 0 = some ((p.1 : Int), (p.2 : Int)) := hsc
  have h45 : ((decide ((0 : Int) < (s.length : Int))) && ((bAt s (0 : Int)) == (45 : Int))) = decide (s[0]? = some 45) := by
    cases s with
    | nil => rfl
    | cons b l =>
      have hb : bAt (b :: l) (0 : Int) = (b.toNat : Int) := bAt_get' (i := 0) rfl
      rw [hb, decide_eq_true (by simp), Bool.true_and]
      by_cases e : b = 45
      · subst e; rfl
      · rw [decide_eq_false (by simpa using e), beq_eq_false_iff_ne]
        intro h
        exact e (UInt8.toNat_inj.1 (by show b.toNat = 45; omega))
  have hck : (!(true && ((decide ((0 : Int) < (s.length : Int))) == true)) || inR (0 : Int) s.length) = true := by
    cases s with
    | nil => rfl
    | cons b l => rw [inR_iff.2 ⟨Int.le_refl _, by simp⟩, Bool.or_true]
  -- both arms read alike
  have arm : ∀ z : Int, (z = (p.1 : Int) ∧ s[0]? ≠ some 45) ∨ (z = 0 - (p.1 : Int) ∧ s[0]? = some 45) →
      ∃ r, (bd ((decide ((9 : Int) < (p.2 : Int))) || (decide ((10 : Int) < (s.length : Int)))) fun x33 =>
        cl (true && (x33 == false)) (M_spec_FormatInt fu z) fun x35 =>
        bd (x33 || (!(x35 == s))) fun x37 =>
        bif x37 then (some ((0 : Int), false)) else (some (z, true))) = some r ∧ RdI s r := by
    intro z hz
    rw [bd_eq]
    have key : ∀ n, IsI s n → n = z ∧ p.2 ≤ 9 ∧ s.length ≤ 10 := fun n hn => by
      obtain ⟨a1, a2, a3, a4, a5⟩ := isI_scan hn
      rw [List.take_of_length_le (by omega), a3] at hp
      subst hp
      refine ⟨?_, a4, a1⟩
      rcases hz with ⟨rfl, h⟩ | ⟨rfl, h⟩
      · have : ¬ n < 0 := fun hn => h (a5.2 hn)
        show n = (n.natAbs : Int)
        omega
      · have := a5.1 h
        show n = 0 - (n.natAbs : Int)
        omega
    cases hg : (decide ((9 : Int) < (p.2 : Int))) || (decide ((10 : Int) < (s.length : Int)))
    · rw [Bool.or_eq_false_iff, decide_eq_false_iff_not, decide_eq_false_iff_not] at hg
      have h9 : p.1 < 1000000000 := Nat.lt_of_lt_of_le hlt (Nat.le_trans (Nat.pow_le_pow_right (n := 10) (by omega) (show p.2 ≤ 9 by omega)) (by omega))
      rw [show (true && (false == false)) = true from rfl, specFI_t hf (by omega) (by omega), cl_true, bd_eq, Bool.false_or]
      cases he : Lib.itoa z == s
      · refine ⟨_, by rw [Bool.not_false, cond_true], .inr ⟨fun n hn => ?_, rfl⟩⟩
        obtain ⟨rfl, _⟩ := key n hn
        rw [hn.1, beq_self_eq_true] at he
        cases he
      · exact ⟨_, by rw [Bool.not_true, cond_false], .inl ⟨z, ⟨by simpa using he, by omega, by omega⟩, rfl⟩⟩
    · rw [show (true && (true == false)) = false from rfl, cl_false, bd_eq, Bool.true_or, cond_true]
      refine ⟨_, rfl, .inr ⟨fun n hn => ?_, rfl⟩⟩
      obtain ⟨_, h1, h2⟩ := key n hn
      rw [Bool.or_eq_true, decide_eq_true_eq, decide_eq_true_eq] at hg
      omega
  unfold M_spec_ParseInt
  rw [hM, cl_true, ck_t hck, bd_eq, h45]
  by_cases hs0 : s[0]? = some 45
  · rw [decide_eq_true hs0, cond_true, ck_t (i64B_t (by omega) (by omega))]
    exact arm _ (.inr ⟨rfl, hs0⟩)
  · rw [decide_eq_false hs0, cond_false]
    exact arm _ (.inl ⟨rfl, hs0⟩)
/-! ### the program -/
theorem pu_app : ∀ (xs : List UInt8) (acc v d : Nat), Lib.parseUint10 acc xs = .ok v → v < 1000000000 → d < 10 → Lib.parseUint10 acc (xs ++ [UInt8.ofNat (48 + d)]) = .ok (v * 10 + d)
  | [], acc, v, d, h, hv, hd => by
    simp only [Lib.parseUint10] at h
    injection h with h
    subst h
    have := dig_nat d hd
    simp only [List.nil_append, Lib.parseUint10, this]
    rw [if_pos (by omega), if_neg (by omega), if_neg (by omega)]
    congr 1
    omega
  | c :: xs, acc, v, d, h, hv, hd => by
    rw [List.cons_append]
    simp only [Lib.parseUint10] at h ⊢
    split at h
    · rename_i h1
      rw [if_pos h1]
      split at h
      · cases h
      · rename_i h2
        rw [if_neg h2]
        split at h
        · cases h
        · rename_i h3
          rw [if_neg h3]
          exact pu_app xs _ v d h hv hd
    · cases h
theorem pu_dec (u : Nat) (h : u ≤ 999999999) : Lib.parseUint10 0 (Lib.decDigits u) = .ok u := by
  induction u using Nat.strongRecOn with
  | _ u ih =>
    by_cases h10 : u < 10
    · rw [dec_small h10]
      have := pu_app [] 0 0 u rfl (by omega) h10
      rw [List.nil_append] at this
      simpa using this
    · rw [dec_big h10, pu_app _ 0 (u / 10) (u % 10) (ih (u / 10) (by omega) (by omega)) (by omega) (Nat.mod_lt _ (by omega))]
      congr 1
      omega
theorem atoi_itoa {n : Int} (h1 : -999999999 ≤ n) (h2 : n ≤ 999999999) : Lib.atoiAll (Lib.itoa n) = .ok n := by
  have hm : ∀ u : Nat, u ≤ 999999999 → Lib.parseMag (Lib.decDigits u) = .ok u := fun u hu => by
    unfold Lib.parseMag
    rw [if_neg (dec_ne u), pu_dec u hu]
  by_cases hn : n < 0
  · rw [itoa_neg' hn]
    unfold Lib.atoiAll
    simp only [show ((45 : UInt8).toNat = 43 ∨ (45 : UInt8).toNat = 45) = True from by simp, if_true, hm n.natAbs (by omega)]
    simp only [show ((45 : UInt8).toNat = 45) = True from by simp, not_true, false_and, if_false, true_and, if_true]
    rw [if_neg (by omega)]
    congr 1
    omega
  · rw [itoa_pos (by omega)]
    have hne := dec_ne n.toNat
    have hdg := dec_dig n.toNat
    have hm' := hm n.toNat (by omega)
    cases hd : Lib.decDigits n.toNat with
    | nil => exact absurd hd hne
    | cons c r =>
      rw [hd] at hdg hm'
      have hc := hdg c List.mem_cons_self
      unfold Lib.atoiAll
      simp only []
      rw [if_neg (by omega), hm']
      simp only []
      rw [if_neg (by omega), if_neg (by omega), if_neg (by omega)]
      congr 1
      omega
theorem atoi_i64 {s : List UInt8} {v : Int} (h : Lib.atoiAll s = .ok v) : -9223372036854775808 ≤ v ∧ v ≤ 9223372036854775807 := by
  unfold Lib.atoiAll at h
  cases s with
  | nil => cases h
  | cons c r =>
    simp only [] at h
    cases hm : Lib.parseMag (if c.toNat = 43 ∨ c.toNat = 45 then r else c :: r) with
    | ok u =>
      rw [hm] at h
      simp only [] at h
      split at h
      · cases h
      · split at h
        · cases h
        · injection h with h
          split at h <;> omega
    | _ => rw [hm] at h; cases h
theorem implPI_t {fu : Nat} {s : List UInt8} (hs : s.length ≤ 1048576) : ∃ r, M_impl_ParseInt fu s = some r ∧ RdI s r := by
  unfold M_impl_ParseInt M_atoi
  rw [ck_t (lenOK_t (by omega)), cl_true]
  have no : ∀ n, IsI s n → Lib.atoiAll s = .ok n := fun n hn => by rw [← hn.1]; exact atoi_itoa hn.2.1 hn.2.2
  have bad : ∀ a : Int, (∀ n, ¬ IsI s n) → ∃ r, (cl (true && (true == false)) (M_impl_FormatInt fu a) fun x4 =>
      bd (true || (!(x4 == s))) fun x6 =>
      cl (true && (x6 == false)) (M_impl_within fu a (-999999999 : Int) (999999999 : Int)) fun x8 =>
      bd (x6 || (!x8)) fun x10 =>
      bif x10 then (some ((0 : Int), false)) else (some (a, true))) = some r ∧ RdI s r := fun a h => ⟨_, rfl, .inr ⟨h, rfl⟩⟩
  cases hc : Lib.atoiAll s with
  | range =>
    have e : atoiR s = (Lib.atoiSat s, true) := by unfold atoiR; rw [hc]
    rw [e]
    exact bad _ fun n hn => by rw [no n hn] at hc; cases hc
  | ok v =>
    have e : atoiR s = (v, false) := by unfold atoiR; rw [hc]
    have hv := atoi_i64 hc
    rw [e]
    dsimp only
    rw [show (true && (false == false)) = true from rfl, implFI_t hv.1 hv.2, cl_true, bd_eq, Bool.false_or]
    have key : ∀ n, IsI s n → n = v := fun n hn => by
      have := (no n hn).symm.trans hc
      injection this
    cases he : Lib.itoa v == s
    · rw [Bool.not_false, show (true && (true == false)) = false from rfl, cl_false, bd_eq, Bool.true_or, cond_true]
      refine ⟨_, rfl, .inr ⟨fun n hn => ?_, rfl⟩⟩
      obtain rfl := key n hn
      rw [hn.1, beq_self_eq_true] at he
      cases he
    · rw [Bool.not_true, show (true && (false == false)) = true from rfl, show M_impl_within fu v (-999999999) 999999999 = some (decide (-999999999 ≤ v) && decide (v ≤ 999999999)) from rfl, cl_true, bd_eq, Bool.false_or]
      cases hw : decide (-999999999 ≤ v) && decide (v ≤ 999999999)
      · rw [Bool.not_false, cond_true]
        refine ⟨_, rfl, .inr ⟨fun n hn => ?_, rfl⟩⟩
        obtain rfl := key n hn
        rw [decide_eq_true hn.2.1, decide_eq_true hn.2.2] at hw
        cases hw
      · rw [Bool.not_true, cond_false]
        rw [Bool.and_eq_true, decide_eq_true_eq, decide_eq_true_eq] at hw
        exact ⟨_, rfl, .inl ⟨v, ⟨by simpa using he, hw.1, hw.2⟩, rfl⟩⟩
  | _ =>
    have e : atoiR s = (0, true) := by unfold atoiR; rw [hc]
    rw [e]
    exact bad 0 fun n hn => by rw [no n hn] at hc; cases hc
end Go.Proofs.YtcodfkieaoomnaaGreatDoor
/- Plain: valid records, digits, years, program and reference alike. No statement of the seat is proved here. -/
namespace Go.Proofs.YtcodfkieaoomnaaGreatDoor
open Go.RowKit
set_option linter.unusedVariables false
set_option linter.unusedSimpArgs false

theorem within_t {fu : Nat} {x lo hi : Int} : M_impl_within fu x lo hi = some (inI x lo hi) := rfl
theorem i64_wr {n : Int} (h0 : -9223372036854775808 ≤ n) (h1 : n ≤ 9223372036854775807) : IntKind.i64.wrap n = n := IntWalk.i64_in _ (by omega)
/-! ### texts -/
def ntC (c : UInt8) : Bool := !(inI c.toNat 32 126)
def txB (s : List UInt8) : Bool := !(s.any ntC) && decide (s.length ≤ 40)
theorem dec40 {n : Nat} : decide ((n : Int) ≤ (40 : Int)) = decide (n ≤ 40) := by
  by_cases h : n ≤ 40
  · rw [decide_eq_true h, decide_eq_true (by omega)]
  · rw [decide_eq_false h, decide_eq_false (by omega)]
theorem implTx_t {fu : Nat} {s : List UInt8} (hf : s.length < fu) (hl : s.length ≤ 1048576) : M_impl_IsText fu s = some (txB s) := by
  unfold M_impl_IsText
  have h := loop_any (xs := s) (p := ntC) (r := false) (L := M_impl_IsText_L0 fu s) (fun k i c hc => by
    have hi := at_lt hc
    have hcu : c.toNat < 256 := c.toNat_lt
    rw [M_impl_IsText_L0, lt_t hi, cond_true, ck_t (inR_t hi), bAt_get hc, i64_wr (by omega) (by omega), within_t, cl_true, succ_i, ck_t (i64B_c (by omega))]
    rfl) (fun k => by rw [M_impl_IsText_L0, lt_f]; rfl) hf
  rw [h, cl_true, dec40]
  unfold txB
  cases s.any ntC <;> rfl
theorem specTx_t {fu : Nat} {s : List UInt8} (hf : s.length < fu) (hl : s.length ≤ 1048576) : M_spec_IsText fu s = some (txB s) := by
  unfold M_spec_IsText
  have h := loop_any (xs := s) (p := ntC) (r := false) (L := M_spec_IsText_L0 fu s) (fun k i c hc => by
    have hi := at_lt hc
    have e : (decide ((c.toNat : Int) < (32 : Int)) || decide ((126 : Int) < (c.toNat : Int))) = ntC c := by
      unfold ntC inI
      by_cases h1 : (32 : Int) ≤ (c.toNat : Int)
      · by_cases h2 : (c.toNat : Int) ≤ 126
        · rw [decide_eq_true h1, decide_eq_true h2, decide_eq_false (by omega), decide_eq_false (by omega)]; rfl
        · rw [decide_eq_true h1, decide_eq_false h2, decide_eq_false (by omega), decide_eq_true (by omega)]; rfl
      · rw [decide_eq_false h1, decide_eq_true (by omega), Bool.true_or, Bool.false_and]; rfl
    rw [M_spec_IsText_L0, lt_t hi, cond_true, ck_t (inR_t hi), inR_t hi, Bool.or_true, ck_tt, bAt_get hc, bd_eq, e, succ_i, ck_t (i64B_c (by omega))]) (fun k => by rw [M_spec_IsText_L0, lt_f]; rfl) hf
  rw [h, cl_true, dec40]
  unfold txB
  cases s.any ntC <;> rfl
def pcC (c : UInt8) : Bool := ((c.toNat : Int) == (124 : Int)) || ((c.toNat : Int) == (59 : Int))
def flB (s : List UInt8) : Bool := txB s && !(s.any pcC)
theorem pc_mem (c : UInt8) : ([124, 59] : List UInt8).contains c = pcC c := by
  revert c
  refine u8_all ?_
  decide +kernel
theorem any_pc : ∀ s : List UInt8, Lib.containsAny s [124, 59] = s.any pcC
  | [] => rfl
  | b :: l => by
    have ih := any_pc l
    have hg := Lib.indexAny_ge [124, 59] l
    unfold Lib.containsAny at ih ⊢
    rw [Lib.indexAny, List.any_cons, ← ih, pc_mem]
    cases pcC b
    · rw [if_neg (by decide), Bool.false_or]
      by_cases h : Lib.indexAny l [124, 59] = -1
      · rw [if_pos (by simpa using h), h]
      · rw [if_neg (by simpa using h), decide_eq_true (by omega), decide_eq_true (by omega)]
    · rw [if_pos rfl]; rfl
theorem tx_asc {s : List UInt8} (h : txB s = true) : (s.all fun b => decide (b.toNat < 128)) = true ∧ s.length ≤ 40 := by
  unfold txB at h
  rw [Bool.and_eq_true, decide_eq_true_eq, Bool.not_eq_true', List.any_eq_false] at h
  refine ⟨?_, h.2⟩
  rw [List.all_eq_true]
  intro b hb
  have := h.1 b hb
  unfold ntC inI at this
  rw [Bool.not_eq_true, Bool.not_eq_false', Bool.and_eq_true, decide_eq_true_eq, decide_eq_true_eq] at this
  exact decide_eq_true (by omega)
theorem implFl_t {fu : Nat} {s : List UInt8} (hf : s.length < fu) (hl : s.length ≤ 1048576) : M_impl_isField fu s = some (flB s) := by
  unfold M_impl_isField flB
  rw [implTx_t hf hl, cl_true]
  cases h : txB s with
  | false => rfl
  | true =>
    obtain ⟨h1, h2⟩ := tx_asc h
    unfold M_containsAny
    rw [h1, decide_eq_true (show s.length < 4294967281 by omega), show ((true && decide (([124, 59] : List UInt8).length < 4294967281)) && true && (([124, 59] : List UInt8).all fun b => decide (b.toNat < 128))) = true from rfl, ck_tt, any_pc]
    rfl
theorem specFl_t {fu : Nat} {s : List UInt8} (hf : s.length < fu) (hl : s.length ≤ 1048576) : M_spec_l8Field fu s = some (flB s) := by
  unfold M_spec_l8Field
  have h := loop_any (xs := s) (p := pcC) (r := false) (L := M_spec_l8Field_L0 fu s) (fun k i c hc => by
    have hi := at_lt hc
    rw [M_spec_l8Field_L0, lt_t hi, cond_true, ck_t (inR_t hi), inR_t hi, Bool.or_true, ck_tt, bAt_get hc, bd_eq, succ_i, ck_t (i64B_c (by omega))]
    rfl) (fun k => by rw [M_spec_l8Field_L0, lt_f]; rfl) hf
  rw [h, cl_true, specTx_t hf hl]
  unfold flB
  cases s.any pcC
  · rw [Bool.not_false, Bool.and_true]; rfl
  · rw [Bool.not_true, Bool.and_false]; rfl
/-! ### records -/
abbrev RecT := Int × Int × Int × List (List UInt8)
def recB (r : RecT) : Bool := ((inI r.1 0 3 && inI r.2.1 1 99) && inI r.2.2.1 1 999) && (((r.2.2.2.length : Int) == (4 : Int)) && !(r.2.2.2.any fun s => !(flB s)))
/-- a record short enough to be looked at -/
def RecOK (r : RecT) : Prop := r.2.2.2.length ≤ 1048576 ∧ ∀ s ∈ r.2.2.2, s.length ≤ 1048576
theorem containsF_t {fu : Nat} {l : List (List UInt8)} {F : List UInt8 → Option Bool} {p : List UInt8 → Bool} (hF : ∀ x ∈ l, F x = some (p x)) (hf : l.length < fu) (hl : l.length ≤ 1048576) : M_slices_ContainsFunc_string_string fu l F = some (l.any p) := by
  unfold M_slices_ContainsFunc_string_string M_slices_IndexFunc_string_string
  have h := loop_ix (xs := l) (p := p) (L := M_slices_IndexFunc_string_string_L0 fu l F) (fun k i y hy => by
    have hi := at_lt hy
    rw [M_slices_IndexFunc_string_string_L0, lt_t hi, cond_true, ck_t (inR_t hi), gtD_get hy, hF y (at_mem hy), cl_true, succ_i, ck_t (i64B_c (by omega))]) (fun k => by rw [M_slices_IndexFunc_string_string_L0, lt_f]; rfl) hf
  rw [h, cl_true]
  cases hi : ixI 0 (l.map p) with
  | none =>
    have h2 := ixI_none hi
    have : l.any p = false := by
      rw [List.any_eq_false]
      intro y hy
      have := h2 (p y) (List.mem_map_of_mem hy)
      simp [this]
    rw [this]
    rfl
  | some j =>
    obtain ⟨_, h2, _⟩ := ixI_some hi
    have : l.any p = true := by
      rw [Nat.sub_zero, List.getElem?_map] at h2
      obtain ⟨y, hy, e⟩ := Option.map_eq_some_iff.1 h2
      rw [List.any_eq_true]
      exact ⟨y, List.mem_of_getElem? hy, e⟩
    rw [this]
    show some (decide (0 ≤ (j : Int))) = some true
    rw [decide_eq_true (by omega)]
theorem implRec_t {fu : Nat} {r : RecT} (hf : 1048577 ≤ fu) (h : RecOK r) : M_impl_IsValidRecord fu r = some (recB r) := by
  unfold M_impl_IsValidRecord recB
  rw [within_t, within_t, within_t, containsF_t (p := fun s => !(flB s)) (fun s hs => by
    unfold M_impl_IsValidRecord_1
    rw [implFl_t (by have := h.2 s hs; omega) (h.2 s hs)]
    rfl) (by have := h.1; omega) h.1]
  generalize inI r.1 0 3 = a
  generalize inI r.2.1 1 99 = b
  generalize inI r.2.2.1 1 999 = c
  generalize ((r.2.2.2.length : Int) == (4 : Int)) = d
  generalize (r.2.2.2.any fun s => !(flB s)) = e
  cases a <;> cases b <;> cases c <;> cases d <;> cases e <;> rfl
theorem specRec_t {fu : Nat} {r : RecT} (hf : 1048577 ≤ fu) (h : RecOK r) : M_spec_IsValidRecord fu r = some (recB r) := by
  unfold M_spec_IsValidRecord recB
  have hl := loop_any (xs := r.2.2.2) (p := fun s => !(flB s)) (r := false) (L := M_spec_IsValidRecord_L0 fu r) (fun k i s hs => by
    have hi := at_lt hs
    have h1 := h.1
    have h2 := h.2 s (at_mem hs)
    rw [M_spec_IsValidRecord_L0, lt_t hi, cond_true, ck_t (inR_t hi), gtD_get hs, specFl_t (by omega) h2, cl_true, succ_i, ck_t (i64B_c (by omega))]) (fun k => by rw [M_spec_IsValidRecord_L0, lt_f]; rfl) (show r.2.2.2.length < fu by have := h.1; omega)
  rw [hl, cl_true, l1In_t, l1In_t, l1In_t]
  generalize inI r.1 0 3 = a
  generalize inI r.2.1 1 99 = b
  generalize inI r.2.2.1 1 999 = c
  generalize ((r.2.2.2.length : Int) == (4 : Int)) = d
  generalize (r.2.2.2.any fun s => !(flB s)) = e
  cases a <;> cases b <;> cases c <;> cases d <;> cases e <;> rfl
theorem rec_fields {r : RecT} (h : recB r = true) : ∃ a b c d : List UInt8, r.2.2.2 = [a, b, c, d] ∧ a.length ≤ 40 ∧ b.length ≤ 40 ∧ c.length ≤ 40 ∧ d.length ≤ 40 := by
  unfold recB at h
  rw [Bool.and_eq_true] at h
  obtain ⟨_, h⟩ := h
  rw [Bool.and_eq_true, Bool.not_eq_true', List.any_eq_false] at h
  obtain ⟨h1, h2⟩ := h
  have hl : ∀ s ∈ r.2.2.2, s.length ≤ 40 := fun s hs => by
    have := h2 s hs
    unfold flB at this
    rw [Bool.not_eq_true, Bool.not_eq_false', Bool.and_eq_true] at this
    exact (tx_asc this.1).2
  rw [beq_iff_eq] at h1
  generalize r.2.2.2 = l at h1 hl
  match l, h1, hl with
  | [a, b, c, d], _, hl => exact ⟨a, b, c, d, rfl, hl a (by simp), hl b (by simp), hl c (by simp), hl d (by simp)⟩
  | [], h1, _ => simp at h1
  | [_], h1, _ => simp at h1
  | [_, _], h1, _ => simp at h1
  | [_, _, _], h1, _ => simp at h1
  | _ :: _ :: _ :: _ :: _ :: _, h1, _ => simp at h1; omega
/-! ### digits and years -/
def dgC (c : UInt8) : Bool := dgI c.toNat
def dgL (s : List UInt8) : List UInt8 := s.filter dgC
theorem dgFold (s : List UInt8) : dgL s = s.foldl (fun (a : List UInt8) c => bif dgC c then a ++ [c] else a) [] := by
  have key : ∀ (s a : List UInt8), s.foldl (fun (a : List UInt8) c => bif dgC c then a ++ [c] else a) a = a ++ s.filter dgC := by
    intro s
    induction s with
    | nil => intro a; simp
    | cons c s ih =>
      intro a
      rw [List.foldl_cons, ih, List.filter_cons]
      cases dgC c <;> simp
  rw [key, List.nil_append]
  rfl
theorem implDg_t {fu : Nat} {s : List UInt8} (hf : s.length < fu) (hl : s.length ≤ 1048576) : M_impl_DigitsOf fu s = some (dgL s) := by
  unfold M_impl_DigitsOf
  have h := loop_fold (xs := s) (g := fun (a : List UInt8) c => bif dgC c then a ++ [c] else a) (Inv := fun i a => a.length ≤ i) (L := fun k i (a : List UInt8) => (M_impl_DigitsOf_L0 fu s k i (bytL a)).map strB) (fun k i a c hc ha => by
    have hi := at_lt hc
    rw [M_impl_DigitsOf_L0, lt_t hi, cond_true, ck_t (inR_t hi), inR_t hi, ck_tt, bAt_get hc, show M_impl_isDigit fu (c.toNat : Int) = some (dgC c) from rfl, cl_true, lenOK_t (by rw [bytL_len]; show a.length + 1 ≤ 4294967296; omega), ck_tt, succ_i, i64B_c (show i ≤ 4294967296 by omega), ck_tt, ck_tt]
    cases dgC c
    · rfl
    · rw [cond_true, cond_true, bytL_one, bytL_app]) (fun i a c hc ha => by
    show (bif dgC c then a ++ [c] else a).length ≤ i + 1
    cases dgC c
    · exact Nat.le_succ_of_le ha
    · rw [cond_true, List.length_append, List.length_singleton]; omega) (fun k a ha => by rw [M_impl_DigitsOf_L0, lt_f, cond_false, Option.map_some, strB_bytL]) (a := []) (Nat.zero_le _) hf
  rw [dgFold, ← h.1]
  show cl true (M_impl_DigitsOf_L0 fu s fu 0 (bytL [])) _ = _
  cases M_impl_DigitsOf_L0 fu s fu 0 (bytL []) <;> rfl
theorem specDg_t {fu : Nat} {s : List UInt8} (hf : s.length < fu) (hl : s.length ≤ 1048576) : M_spec_DigitsOf fu s = some (dgL s) := by
  unfold M_spec_DigitsOf
  have h := loop_fold (xs := s) (g := fun (a : List UInt8) c => bif dgC c then a ++ [c] else a) (Inv := fun i a => a.length ≤ i) (L := fun k i (a : List UInt8) => (M_spec_DigitsOf_L0 fu s k i (bytL a)).map strB) (fun k i a c hc ha => by
    have hi := at_lt hc
    rw [M_spec_DigitsOf_L0, lt_t hi, cond_true, ck_t (inR_t hi), inR_t hi, Bool.or_true, ck_tt, ck_tt, bAt_get hc, bd_eq, show (decide ((48 : Int) ≤ (c.toNat : Int)) && decide ((c.toNat : Int) ≤ (57 : Int))) = dgC c from rfl, lenOK_t (by rw [bytL_len]; show a.length + 1 ≤ 4294967296; omega), ck_tt, succ_i, i64B_c (show i ≤ 4294967296 by omega), ck_tt, ck_tt]
    cases dgC c
    · rfl
    · rw [cond_true, cond_true, bytL_one, bytL_app]) (fun i a c hc ha => by
    show (bif dgC c then a ++ [c] else a).length ≤ i + 1
    cases dgC c
    · exact Nat.le_succ_of_le ha
    · rw [cond_true, List.length_append, List.length_singleton]; omega) (fun k a ha => by rw [M_spec_DigitsOf_L0, lt_f, cond_false, Option.map_some, strB_bytL]) (a := []) (Nat.zero_le _) hf
  rw [dgFold, ← h.1]
  show cl true (M_spec_DigitsOf_L0 fu s fu 0 (bytL [])) _ = _
  cases M_spec_DigitsOf_L0 fu s fu 0 (bytL []) <;> rfl
theorem dgL_len (s : List UInt8) : (dgL s).length ≤ s.length := List.length_filter_le _ _
/-- the year that a text says, or 0 -/
def YrI (s : List UInt8) (y : Int) : Prop := ∃ r, RdI s r ∧ y = bif r.2 && inI r.1 1000 9999 then r.1 else 0
theorem YrI.one {s : List UInt8} {y z : Int} (h : YrI s y) (k : YrI s z) : y = z := by
  obtain ⟨r, h1, rfl⟩ := h
  obtain ⟨q, k1, rfl⟩ := k
  rw [h1.one k1]
theorem YrI.range {s : List UInt8} {y : Int} (h : YrI s y) : y = 0 ∨ (1000 ≤ y ∧ y ≤ 9999) := by
  obtain ⟨r, _, rfl⟩ := h
  cases hb : r.2 && inI r.1 1000 9999
  · exact .inl rfl
  · right
    rw [Bool.and_eq_true] at hb
    have := hb.2
    unfold inI at this
    rw [Bool.and_eq_true, decide_eq_true_eq, decide_eq_true_eq] at this
    exact this
theorem implYr_t {fu : Nat} {s : List UInt8} (hs : s.length ≤ 1048576) : ∃ y, M_impl_ParseYear fu s = some y ∧ YrI s y := by
  obtain ⟨r, h1, h2⟩ := implPI_t (fu := fu) hs
  refine ⟨_, ?_, r, h2, rfl⟩
  unfold M_impl_ParseYear
  rw [h1, cl_true, within_t]
  generalize inI r.1 1000 9999 = b
  cases r.2 <;> cases b <;> rfl
theorem specYr_t {fu : Nat} {s : List UInt8} (hf : 1048577 ≤ fu) (hs : s.length ≤ 1048576) : ∃ y, M_spec_ParseYear fu s = some y ∧ YrI s y := by
  obtain ⟨r, h1, h2⟩ := specPI_t (fu := fu) hf hs
  refine ⟨_, ?_, r, h2, rfl⟩
  unfold M_spec_ParseYear
  rw [h1, cl_true, l1In_t]
  generalize inI r.1 1000 9999 = b
  cases r.2 <;> cases b <;> rfl
theorem year_t {s : List UInt8} (hs : s.length ≤ 1048576) : ∃ y : Int, (y = 0 ∨ (1000 ≤ y ∧ y ≤ 9999)) ∧ YrI s y ∧ ∀ fu, 1048577 ≤ fu → M_impl_ParseYear fu s = some y ∧ M_spec_ParseYear fu s = some y := by
  obtain ⟨y, h1, h2⟩ := specYr_t (fu := 1048577) (Nat.le_refl _) hs
  refine ⟨y, h2.range, h2, fun fu hf => ?_⟩
  obtain ⟨a, a1, a2⟩ := implYr_t (fu := fu) hs
  obtain ⟨b, b1, b2⟩ := specYr_t (fu := fu) hf hs
  rw [a1, b1, a2.one h2, b2.one h2]
  exact ⟨rfl, rfl⟩
end Go.Proofs.YtcodfkieaoomnaaGreatDoor
/- Plain: the keys of a record's blocks, program and reference alike; what the laws BlockKeys and ShareBlock ask. No statement of the seat is proved here. -/
namespace Go.Proofs.YtcodfkieaoomnaaGreatDoor
open Go.RowKit
set_option linter.unusedVariables false
set_option linter.unusedSimpArgs false

/-- a loop that lays what f gives of each element behind a list -/
theorem loop_map {α β : Type} {xs : List α} {f : α → β} {a0 : List β} {L : Nat → Int → List β → Option (List β)}
    (hs : ∀ k (i : Nat) a x, xs[i]? = some x → a.length = a0.length + i → L (k + 1) (i : Int) a = L k ((i + 1 : Nat) : Int) (a ++ [f x])) (he : ∀ k a, L (k + 1) (xs.length : Int) a = some a) {fu : Nat} (hf : xs.length < fu) :
    L fu (0 : Int) a0 = some (a0 ++ xs.map f) := by
  have h := loop_fold (xs := xs) (g := fun (a : List β) x => a ++ [f x]) (Inv := fun i a => a.length = a0.length + i) (L := L) hs (fun i a x hx ha => by rw [List.length_append, List.length_singleton]; omega) (fun k a _ => he k a) (a := a0) rfl hf
  rw [h.1]
  congr 1
  have key : ∀ (xs : List α) (a : List β), xs.foldl (fun (a : List β) x => a ++ [f x]) a = a ++ xs.map f := by
    intro xs
    induction xs with
    | nil => intro a; simp
    | cons x xs ih => intro a; rw [List.foldl_cons, ih]; simp
  exact key xs a0
/-- .. that puts it into a set -/
theorem loop_putS {α : Type} {xs : List α} {f : α → List UInt8} {a0 : List (List UInt8)} {L : Nat → Int → List (List UInt8) → Option (List (List UInt8))}
    (hs : ∀ k (i : Nat) a x, xs[i]? = some x → a.length ≤ a0.length + i → L (k + 1) (i : Int) a = L k ((i + 1 : Nat) : Int) (putS bLt a (f x))) (he : ∀ k a, L (k + 1) (xs.length : Int) a = some a) {fu : Nat} (hf : xs.length < fu) :
    L fu (0 : Int) a0 = some ((xs.map f).foldl (putS bLt) a0) ∧ ((xs.map f).foldl (putS bLt) a0).length ≤ a0.length + xs.length := by
  have h := loop_fold (xs := xs) (g := fun (a : List (List UInt8)) x => putS bLt a (f x)) (Inv := fun i a => a.length ≤ a0.length + i) (L := L) hs (fun i a x hx ha => by
    show (putS bLt a (f x)).length ≤ a0.length + (i + 1)
    unfold putS putW
    cases (a[plc bLt (f x) a]? == some (f x))
    · rw [cond_false, insAt_length]; omega
    · rw [cond_true]; omega) (fun k a _ => he k a) (a := a0) (Nat.le_refl _) hf
  rw [List.foldl_map]
  exact h
def k1L (n : List UInt8) : List (List UInt8) := (skL n).map ([115] ++ ·)
def k2L (d : List UInt8) : List (List UInt8) := bif decide (4 ≤ (dgL d).length) then [[112] ++ (dgL d).drop ((dgL d).length - 4)] else []
def k3L (n : List UInt8) (y : Int) : List (List UInt8) := bif decide (0 < y) then (tokL n).map (fun t => ([121] ++ Lib.itoa y) ++ t.take 1) else []
def bkL (n d : List UInt8) (y : Int) : List (List UInt8) := setL ((k1L n ++ k2L d) ++ k3L n y)
theorem sub_one {t : List UInt8} : subL t 0 (1 : Int) = t.take 1 := by
  rw [show ((1 : Int)) = ((1 : Nat) : Int) from rfl, subL_take]
theorem dec4 {n : Nat} : decide ((4 : Int) ≤ (n : Int)) = decide (4 ≤ n) := by
  by_cases h : 4 ≤ n
  · rw [decide_eq_true h, decide_eq_true (by omega)]
  · rw [decide_eq_false h, decide_eq_false (by omega)]
theorem sub4 {l : List UInt8} (h : 4 ≤ l.length) : subL l ((l.length : Int) - 4) (l.length : Int) = l.drop (l.length - 4) := by
  rw [show ((l.length : Int) - 4) = ((l.length - 4 : Nat) : Int) by omega, subL_drop]
theorem itoa_y {y : Int} (h : y = 0 ∨ (1000 ≤ y ∧ y ≤ 9999)) : (Lib.itoa y).length ≤ 21 := itoa_le (by omega) (by omega)
theorem tokL_40 {n t : List UInt8} (hn : n.length ≤ 40) (h : t ∈ tokL n) : 1 ≤ t.length ∧ t.length ≤ 80 := by
  obtain ⟨h1, h2, _⟩ := tokL_mem h
  have : t.length ≠ 0 := fun e => h1 (List.eq_nil_of_length_eq_zero e)
  omega
theorem implBK_t {fu : Nat} {r : RecT} {a b c d : List UInt8} {y : Int} (hf : 1048577 ≤ fu) (hr : r.2.2.2 = [a, b, c, d]) (ha : a.length ≤ 40) (hc : c.length ≤ 40) (hd : d.length ≤ 40) (hy : y = 0 ∨ (1000 ≤ y ∧ y ≤ 9999)) (hyp : M_impl_ParseYear fu c = some y) : M_impl_blockKeys fu r = some (bkL a d y) := by
  have hsk := skL_len a
  have htk := tokL_len a
  have hdg := dgL_len d
  have hit := itoa_y hy
  unfold M_impl_blockKeys
  rw [hr, show inR (0 : Int) ([a, b, c, d] : List (List UInt8)).length = true from rfl, show inR (3 : Int) ([a, b, c, d] : List (List UInt8)).length = true from rfl, show inR (2 : Int) ([a, b, c, d] : List (List UInt8)).length = true from rfl, show gtD [a, b, c, d] (0 : Int) = a from rfl, show gtD [a, b, c, d] (3 : Int) = d from rfl, show gtD [a, b, c, d] (2 : Int) = c from rfl]
  simp only [ck_tt]
  rw [implSK_t hf (by omega), cl_true]
  have h1 := loop_map (xs := skL a) (f := ([115] ++ ·)) (a0 := []) (L := M_impl_blockKeys_L0 fu (skL a)) (fun k i acc x hx hacc => by
    have hi := at_lt hx
    have hx4 := skL_mem (at_mem hx)
    have hacc : acc.length = 0 + i := hacc
    rw [M_impl_blockKeys_L0, lt_t hi, cond_true, ck_t (inR_t hi), gtD_get hx, ck_t (lenOK_t (by simp; omega)), ck_t (lenOK_t (by simp; omega)), succ_i, ck_t (i64B_c (by omega))]) (fun k a => by rw [M_impl_blockKeys_L0, lt_f, cond_false]) (fu := fu) (by omega)
  rw [h1, cl_true, List.nil_append, implDg_t (by omega) (by omega), cl_true, hyp, dec4]
  have hk1 : (k1L a).length = (skL a).length := by simp [k1L]
  have h3 : ∀ (acc0 : List (List UInt8)), acc0.length ≤ 1000 → 0 < y → M_impl_blockKeys_L1 fu y (tokL a) fu (0 : Int) acc0 = some (acc0 ++ k3L a y) ∧ M_impl_blockKeys_L2 fu y (tokL a) fu (0 : Int) acc0 = some (acc0 ++ k3L a y) := fun acc0 h0 hy0 => by
    have e : k3L a y = (tokL a).map fun t => ([121] ++ Lib.itoa y) ++ t.take 1 := by unfold k3L; rw [decide_eq_true hy0]; rfl
    rw [e]
    constructor
    · refine loop_map (xs := tokL a) (f := fun t => ([121] ++ Lib.itoa y) ++ t.take 1) (a0 := acc0) (L := M_impl_blockKeys_L1 fu y (tokL a)) (fun k i acc x hx hacc => ?_) (fun k a => by rw [M_impl_blockKeys_L1, lt_f, cond_false]) (by omega)
      have hi := at_lt hx
      have hx4 := tokL_40 ha (at_mem hx)
      rw [M_impl_blockKeys_L1, lt_t hi, cond_true, ck_t (inR_t hi), implFI_t (by omega) (by omega), cl_true, gtD_get hx, sub_one, ck_t (lenOK_t (by simp; omega)), ck_t (subR_iff.2 ⟨Int.le_refl _, by omega, by omega⟩), ck_t (lenOK_t (by simp; omega)), ck_t (lenOK_t (by simp; omega)), succ_i, ck_t (i64B_c (by omega))]
    · refine loop_map (xs := tokL a) (f := fun t => ([121] ++ Lib.itoa y) ++ t.take 1) (a0 := acc0) (L := M_impl_blockKeys_L2 fu y (tokL a)) (fun k i acc x hx hacc => ?_) (fun k a => by rw [M_impl_blockKeys_L2, lt_f, cond_false]) (by omega)
      have hi := at_lt hx
      have hx4 := tokL_40 ha (at_mem hx)
      rw [M_impl_blockKeys_L2, lt_t hi, cond_true, ck_t (inR_t hi), implFI_t (by omega) (by omega), cl_true, gtD_get hx, sub_one, ck_t (lenOK_t (by simp; omega)), ck_t (subR_iff.2 ⟨Int.le_refl _, by omega, by omega⟩), ck_t (lenOK_t (by simp; omega)), ck_t (lenOK_t (by simp; omega)), succ_i, ck_t (i64B_c (by omega))]
  have h2n : (k2L d).length ≤ 1 := by
    unfold k2L
    cases decide (4 ≤ (dgL d).length)
    · exact Nat.zero_le _
    · exact Nat.le_refl _
  have h3n : (k3L a y).length ≤ (tokL a).length := by
    unfold k3L
    cases decide (0 < y)
    · exact Nat.zero_le _
    · rw [cond_true, List.length_map]; exact Nat.le_refl _
  have e1 : (skL a).map ([115] ++ ·) = k1L a := rfl
  rw [e1]
  cases h4 : decide (4 ≤ (dgL d).length) with
  | true =>
    have h44 : 4 ≤ (dgL d).length := of_decide_eq_true h4
    have e2 : k1L a ++ ([([112] : List UInt8) ++ subL (dgL d) (((dgL d).length : Int) - 4) ((dgL d).length : Int)] : List (List UInt8)) = k1L a ++ k2L d := by unfold k2L; rw [h4, sub4 h44]; rfl
    rw [cond_true, ck_t (i64B_t (by omega) (by omega)), ck_t (subR_iff.2 ⟨by omega, by omega, Int.le_refl _⟩), ck_t (lenOK_t (by rw [sub4 h44]; simp; omega)), ck_t (lenOK_t (by simp; omega)), cl_true, e2]
    cases hy0 : decide (0 < y) with
    | true =>
      rw [cond_true, implTok_t hf (by omega), cl_true, (h3 _ (by rw [List.length_append]; omega) (of_decide_eq_true hy0)).1, cl_true, sortedSet_t hf (by rw [List.length_append, List.length_append]; omega), cl_true]
      rfl
    | false =>
      rw [cond_false, sortedSet_t hf (by rw [List.length_append]; omega), cl_true]
      have : k3L a y = [] := by unfold k3L; rw [hy0]; rfl
      unfold bkL
      rw [this, List.append_nil]
      rfl
  | false =>
    have e2 : k1L a = k1L a ++ k2L d := by unfold k2L; rw [h4]; simp
    rw [cond_false, cl_true, e2]
    cases hy0 : decide (0 < y) with
    | true =>
      rw [cond_true, implTok_t hf (by omega), cl_true, (h3 _ (by rw [List.length_append]; omega) (of_decide_eq_true hy0)).2, cl_true, sortedSet_t hf (by rw [List.length_append, List.length_append]; omega), cl_true]
      rfl
    | false =>
      rw [cond_false, sortedSet_t hf (by rw [List.length_append]; omega), cl_true]
      have : k3L a y = [] := by unfold k3L; rw [hy0]; rfl
      unfold bkL
      rw [this, List.append_nil]
      rfl
theorem specBK_t {fu : Nat} {r : RecT} {a b c d : List UInt8} {y : Int} (hf : 1048577 ≤ fu) (hok : RecOK r) (hb : recB r = true) (hr : r.2.2.2 = [a, b, c, d]) (ha : a.length ≤ 40) (hc : c.length ≤ 40) (hd : d.length ≤ 40) (hy : y = 0 ∨ (1000 ≤ y ∧ y ≤ 9999)) (hyp : M_spec_ParseYear fu c = some y) : M_spec_BlockKeys fu r = some (bkL a d y) := by
  have hsk := skL_len a
  have htk := tokL_len a
  have hdg := dgL_len d
  have hit := itoa_y hy
  unfold M_spec_BlockKeys
  rw [specRec_t hf hok, cl_true, hb, hr, show inR (0 : Int) ([a, b, c, d] : List (List UInt8)).length = true from rfl, show inR (3 : Int) ([a, b, c, d] : List (List UInt8)).length = true from rfl, show inR (2 : Int) ([a, b, c, d] : List (List UInt8)).length = true from rfl, show gtD [a, b, c, d] (0 : Int) = a from rfl, show gtD [a, b, c, d] (3 : Int) = d from rfl, show gtD [a, b, c, d] (2 : Int) = c from rfl]
  simp only [ck_tt, Bool.not_true, cond_false]
  rw [specSK_t hf (by omega), cl_true]
  obtain ⟨h1, l1⟩ := loop_putS (xs := skL a) (f := ([115] ++ ·)) (a0 := []) (L := M_spec_BlockKeys_L0 fu (skL a)) (fun k i acc x hx hacc => by
    have hi := at_lt hx
    have hx4 := skL_mem (at_mem hx)
    have hacc : acc.length ≤ 0 + i := hacc
    rw [M_spec_BlockKeys_L0, lt_t hi, cond_true, ck_t (inR_t hi), gtD_get hx, ck_t (lenOK_t (by simp; omega)), put_t (by omega) (by omega), cl_true, succ_i, ck_t (i64B_c (by omega)), cond_false]) (fun k a => by rw [M_spec_BlockKeys_L0, lt_f, cond_false]) (fu := fu) (by omega)
  have l1 : ((k1L a).foldl (putS bLt) []).length ≤ (skL a).length := by
    have : ((k1L a).foldl (putS bLt) []).length ≤ 0 + (skL a).length := l1
    omega
  rw [h1, cl_true, show ((skL a).map ([115] ++ ·)) = k1L a from rfl, specDg_t (by omega) (by omega), cl_true, hyp, specTok_t hf (by omega), dec4]
  have h3 : ∀ (acc0 : List (List UInt8)), acc0.length ≤ 1000 → M_spec_BlockKeys_L1 fu (tokL a) y fu (0 : Int) acc0 = some ((k3L a y).foldl (putS bLt) acc0) ∧ M_spec_BlockKeys_L2 fu (tokL a) y fu (0 : Int) acc0 = some ((k3L a y).foldl (putS bLt) acc0) := fun acc0 h0 => by
    cases hy0 : decide (0 < y) with
    | true =>
      have e : k3L a y = (tokL a).map fun t => ([121] ++ Lib.itoa y) ++ t.take 1 := by unfold k3L; rw [hy0]; rfl
      rw [e]
      constructor
      · refine (loop_putS (xs := tokL a) (f := fun t => ([121] ++ Lib.itoa y) ++ t.take 1) (a0 := acc0) (L := M_spec_BlockKeys_L1 fu (tokL a) y) (fun k i acc x hx hacc => ?_) (fun k a => by rw [M_spec_BlockKeys_L1, lt_f, Bool.false_and, bd_eq, cond_false]) (by omega)).1
        have hi := at_lt hx
        have hx4 := tokL_40 ha (at_mem hx)
        rw [M_spec_BlockKeys_L1, lt_t hi, hy0, Bool.true_and, bd_eq, cond_true, specFI_t hf (by omega) (by omega), cl_true, ck_t (lenOK_t (by simp; omega)), ck_t (inR_t hi), gtD_get hx, sub_one, ck_t (subR_iff.2 ⟨Int.le_refl _, by omega, by omega⟩), ck_t (lenOK_t (by simp; omega)), put_t (by omega) (by omega), cl_true, succ_i, ck_t (i64B_c (by omega)), cond_false]
      · refine (loop_putS (xs := tokL a) (f := fun t => ([121] ++ Lib.itoa y) ++ t.take 1) (a0 := acc0) (L := M_spec_BlockKeys_L2 fu (tokL a) y) (fun k i acc x hx hacc => ?_) (fun k a => by rw [M_spec_BlockKeys_L2, lt_f, Bool.false_and, bd_eq, cond_false]) (by omega)).1
        have hi := at_lt hx
        have hx4 := tokL_40 ha (at_mem hx)
        rw [M_spec_BlockKeys_L2, lt_t hi, hy0, Bool.true_and, bd_eq, cond_true, specFI_t hf (by omega) (by omega), cl_true, ck_t (lenOK_t (by simp; omega)), ck_t (inR_t hi), gtD_get hx, sub_one, ck_t (subR_iff.2 ⟨Int.le_refl _, by omega, by omega⟩), ck_t (lenOK_t (by simp; omega)), put_t (by omega) (by omega), cl_true, succ_i, ck_t (i64B_c (by omega)), cond_false]
    | false =>
      have e : k3L a y = [] := by unfold k3L; rw [hy0]; rfl
      rw [e]
      obtain ⟨k, rfl⟩ : ∃ k, fu = k + 1 := ⟨fu - 1, by omega⟩
      constructor
      · rw [M_spec_BlockKeys_L1, hy0, Bool.and_false, bd_eq, cond_false]; rfl
      · rw [M_spec_BlockKeys_L2, hy0, Bool.and_false, bd_eq, cond_false]; rfl
  have fin : (k3L a y).foldl (putS bLt) ((k2L d).foldl (putS bLt) ((k1L a).foldl (putS bLt) [])) = bkL a d y := by
    rw [← List.foldl_append, ← List.foldl_append, putL_set, ← List.append_assoc]
    rfl
  cases h4 : decide (4 ≤ (dgL d).length) with
  | true =>
    have h44 : 4 ≤ (dgL d).length := of_decide_eq_true h4
    have e2 : (k2L d).foldl (putS bLt) ((k1L a).foldl (putS bLt) []) = putS bLt ((k1L a).foldl (putS bLt) []) ([112] ++ (dgL d).drop ((dgL d).length - 4)) := by unfold k2L; rw [h4]; rfl
    have l2 : (putS bLt ((k1L a).foldl (putS bLt) []) ([112] ++ (dgL d).drop ((dgL d).length - 4))).length ≤ (skL a).length + 1 := by
      generalize (k1L a).foldl (putS bLt) [] = z at l1 ⊢
      generalize ([112] ++ (dgL d).drop ((dgL d).length - 4) : List UInt8) = x
      unfold putS putW
      cases (z[plc bLt x z]? == some x)
      · rw [cond_false, insAt_length]; omega
      · rw [cond_true]; omega
    rw [cond_true, ck_t (i64B_t (by omega) (by omega)), ck_t (subR_iff.2 ⟨by omega, by omega, Int.le_refl _⟩), ck_t (lenOK_t (by rw [sub4 h44]; simp; omega)), put_t (by omega) (by omega), cl_true, cond_false, cl_true, cl_true, sub4 h44, (h3 _ (by omega)).1, cl_true, ← e2, fin]
  | false =>
    have e2 : (k2L d).foldl (putS bLt) ((k1L a).foldl (putS bLt) []) = (k1L a).foldl (putS bLt) [] := by unfold k2L; rw [h4]; rfl
    rw [cond_false, cl_true, cl_true, (h3 _ (by omega)).2, cl_true, ← e2, fin]
/-- the keys of any record -/
theorem keys_t {r : RecT} (hok : RecOK r) : ∃ l : List (List UInt8), (∀ fu, 1048577 ≤ fu → M_spec_BlockKeys fu r = some l ∧ M_impl_BlockKeys fu r = some l) ∧ l.length ≤ 200 ∧ (∀ x ∈ l, x.length ≤ 120) ∧ SortedS bLt l := by
  cases hb : recB r with
  | false =>
    refine ⟨[], fun fu hf => ⟨?_, ?_⟩, by simp, (fun x hx => by cases hx), List.Pairwise.nil⟩
    · unfold M_spec_BlockKeys
      rw [specRec_t hf hok, cl_true, hb]
      rfl
    · unfold M_impl_BlockKeys
      rw [implRec_t hf hok, cl_true, hb]
      rfl
  | true =>
    obtain ⟨a, b, c, d, hr, ha, hb2, hc, hd⟩ := rec_fields hb
    obtain ⟨y, hy, _, hyp⟩ := year_t (s := c) (by omega)
    have hsk := skL_len a
    have htk := tokL_len a
    have hdg := dgL_len d
    have hit := itoa_y hy
    have h2n : (k2L d).length ≤ 1 := by
      unfold k2L
      cases decide (4 ≤ (dgL d).length)
      · exact Nat.zero_le _
      · exact Nat.le_refl _
    have h3n : (k3L a y).length ≤ (tokL a).length := by
      unfold k3L
      cases decide (0 < y)
      · exact Nat.zero_le _
      · rw [cond_true, List.length_map]; exact Nat.le_refl _
    refine ⟨bkL a d y, fun fu hf => ⟨specBK_t hf hok hb hr ha hc hd hy (hyp fu hf).2, ?_⟩, ?_, fun x hx => ?_, setL_sorted _⟩
    · unfold M_impl_BlockKeys
      rw [implRec_t hf hok, cl_true, hb, implBK_t hf hr ha hc hd hy (hyp fu hf).1]
      rfl
    · have := setL_length ((k1L a ++ k2L d) ++ k3L a y)
      rw [List.length_append, List.length_append] at this
      have hk1 : (k1L a).length = (skL a).length := by simp [k1L]
      unfold bkL
      omega
    · unfold bkL at hx
      rw [setL_mem] at hx
      rcases List.mem_append.1 hx with hx | hx
      · rcases List.mem_append.1 hx with hx | hx
        · obtain ⟨t, ht, rfl⟩ := List.mem_map.1 hx
          have := skL_mem ht
          simp; omega
        · unfold k2L at hx
          cases h4 : decide (4 ≤ (dgL d).length)
          · rw [h4] at hx; cases hx
          · rw [h4, cond_true, List.mem_singleton] at hx
            rw [hx]
            simp; omega
      · unfold k3L at hx
        cases h4 : decide (0 < y)
        · rw [h4] at hx; cases hx
        · rw [h4, cond_true] at hx
          obtain ⟨t, ht, rfl⟩ := List.mem_map.1 hx
          simp; omega
theorem recOK_w {r : RecT} (h : w_Record r ≤ 1048576) : RecOK r := by
  unfold w_Record w_StringS wL at h
  exact ⟨by omega, fun s hs => Nat.le_trans (sz_mem (f := fun s : List UInt8 => s.length) hs) (by omega)⟩
theorem share_t {fu : Nat} {a b : RecT} (hf : 1048577 ≤ fu) (ha : RecOK a) (hb : RecOK b) : ∃ r : Bool, M_spec_ShareBlock fu a b = some r ∧ M_impl_ShareBlock fu a b = some r ∧ ∃ x y : List (List UInt8), M_impl_BlockKeys fu a = some x ∧ M_impl_BlockKeys fu b = some y ∧ (r = true ↔ ∃ k, k ∈ x ∧ k ∈ y) := by
  obtain ⟨x, h1, h2, h3, h4⟩ := keys_t ha
  obtain ⟨y, k1, k2, k3, k4⟩ := keys_t hb
  refine ⟨decide ((0 : Int) < (((setL x).filter fun z => y.any fun w => w == z).length : Int)), ?_, ?_, x, y, (h1 _ hf).2, (k1 _ hf).2, ?_⟩
  · unfold M_spec_ShareBlock
    rw [(h1 _ hf).1, cl_true, (k1 _ hf).1, cl_true, specCommon_t hf (by omega) (by omega), cl_true, common_eq]
  · unfold M_impl_ShareBlock
    rw [(h1 _ hf).2, cl_true, (k1 _ hf).2, cl_true, implCommon_t hf (by omega) (by omega), cl_true]
  · rw [decide_eq_true_eq]
    constructor
    · intro h
      have h0 : 0 < ((setL x).filter fun z => y.any fun w => w == z).length := by omega
      obtain ⟨z, hz⟩ := List.exists_mem_of_length_pos h0
      obtain ⟨z1, z2⟩ := List.mem_filter.1 hz
      rw [setL_mem] at z1
      exact ⟨z, z1, any_mem.1 z2⟩
    · rintro ⟨z, z1, z2⟩
      have : z ∈ (setL x).filter fun z => y.any fun w => w == z := List.mem_filter.2 ⟨setL_mem.2 z1, any_mem.2 z2⟩
      have := List.length_pos_of_mem this
      omega
theorem hs_ShareBlock {a0 a1 : RecT} (h0 : (qP qI (qP qI (qP qI (qS qB)))) a0) (h1 : (qP qI (qP qI (qP qI (qS qB)))) a1) (hw : w_Record a0 + w_Record a1 ≤ 1048576) : ∃ r : Bool, M_spec_ShareBlock 1048577 a0 a1 = some r ∧ M_impl_ShareBlock 1048577 a0 a1 = some r := by
  obtain ⟨r, h1, h2, _⟩ := share_t (Nat.le_refl 1048577) (recOK_w (r := a0) (by omega)) (recOK_w (r := a1) (by omega))
  exact ⟨r, h1, h2⟩
end Go.Proofs.YtcodfkieaoomnaaGreatDoor
