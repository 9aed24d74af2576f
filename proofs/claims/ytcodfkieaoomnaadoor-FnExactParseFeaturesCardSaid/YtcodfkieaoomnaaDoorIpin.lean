/- Plain: numbers read from texts, program and reference alike. No statement of the seat is proved here. -/
import Derived.Test.YtcodfkieaoomnaaDoorIfi
import Derived.Test.YtcodfkieaoomnaaDoorIspl
namespace Go.Proofs.YtcodfkieaoomnaaDoor
open Go.RowKit
set_option linter.unusedVariables false
set_option linter.unusedSimpArgs false

/-- s is the decimal text of n, a number of nine digits at most -/
def IsI (s : List UInt8) (n : Int) : Prop := Lib.itoa n = s ∧ -999999999 ≤ n ∧ n ≤ 999999999
theorem dig_nat (d : Nat) (h : d < 10) : (UInt8.ofNat (48 + d)).toNat = 48 + d := by
  rw [UInt8.toNat_ofNat']
  omega
theorem dec_small {u : Nat} (h : u < 10) : Lib.decDigits u = [UInt8.ofNat (48 + u)] := by rw [Lib.decDigits, dif_pos h]
theorem dec_big {u : Nat} (h : ¬ u < 10) : Lib.decDigits u = Lib.decDigits (u / 10) ++ [UInt8.ofNat (48 + u % 10)] := by rw [Lib.decDigits, dif_neg h]
theorem dec_dig (u : Nat) : ∀ c ∈ Lib.decDigits u, 48 ≤ c.toNat ∧ c.toNat ≤ 57 := by
  induction u using Nat.strongRecOn with
  | _ u ih =>
    intro c hc
    by_cases h : u < 10
    · rw [dec_small h] at hc
      rw [List.mem_singleton.1 hc, dig_nat u h]
      omega
    · rw [dec_big h] at hc
      rcases List.mem_append.1 hc with hc | hc
      · exact ih (u / 10) (by omega) c hc
      · rw [List.mem_singleton.1 hc, dig_nat _ (Nat.mod_lt _ (by omega))]
        omega
theorem dec_ne (u : Nat) : Lib.decDigits u ≠ [] := by
  by_cases h : u < 10
  · rw [dec_small h]; simp
  · rw [dec_big h]; simp
/-! ### the reference's scan -/
def scS (p : Nat × Nat) (c : UInt8) : Nat × Nat := if 48 ≤ c.toNat ∧ c.toNat ≤ 57 then (p.1 * 10 + (c.toNat - 48), p.2 + 1) else p
theorem sc_dec (u : Nat) : (Lib.decDigits u).foldl scS (0, 0) = (u, (Lib.decDigits u).length) := by
  induction u using Nat.strongRecOn with
  | _ u ih =>
    by_cases h : u < 10
    · rw [dec_small h]
      have := dig_nat u h
      simp only [List.foldl_cons, List.foldl_nil, scS, this, List.length_singleton]
      rw [if_pos (by omega)]
      simp
    · have hd := dig_nat (u % 10) (Nat.mod_lt _ (by omega))
      rw [dec_big h, List.foldl_append, ih (u / 10) (by omega)]
      simp only [List.foldl_cons, List.foldl_nil, scS, hd, List.length_append, List.length_singleton]
      rw [if_pos (by omega)]
      congr 1
      omega
theorem sc_lt : ∀ (s : List UInt8) (p : Nat × Nat), p.1 < 10 ^ p.2 → (s.foldl scS p).1 < 10 ^ (s.foldl scS p).2
  | [], p, h => h
  | c :: s, p, h => by
    rw [List.foldl_cons]
    refine sc_lt s _ ?_
    unfold scS
    split
    · show p.1 * 10 + (c.toNat - 48) < 10 ^ (p.2 + 1)
      rw [Nat.pow_succ]
      omega
    · exact h
theorem sc_cnt : ∀ (s : List UInt8) (p : Nat × Nat), (s.foldl scS p).2 ≤ p.2 + s.length
  | [], p => Nat.le_refl _
  | c :: s, p => by
    have := sc_cnt s (scS p c)
    rw [List.foldl_cons, List.length_cons]
    have h : (scS p c).2 ≤ p.2 + 1 := by
      unfold scS
      split
      · exact Nat.le_refl _
      · exact Nat.le_succ _
    omega
theorem pow_le11 {k : Nat} (h : k ≤ 11) : 10 ^ k ≤ 100000000000 := Nat.le_trans (Nat.pow_le_pow_right (by omega) h) (by omega)
theorem scan_t {fu : Nat} {s : List UInt8} (hs : s.length ≤ 1048576) : ∀ m i k (p : Nat × Nat), (i + m = s.length ∨ (m = 0 ∧ 11 ≤ i)) → i ≤ 11 → m < k → p.1 < 10 ^ p.2 → p.2 ≤ i → (s.take 11).take i = s.take i →
    M_spec_ParseInt_L0 fu s k (p.1 : Int) (p.2 : Int) (i : Int) = some (((((s.take 11).drop i).foldl scS p).1 : Int), ((((s.take 11).drop i).foldl scS p).2 : Int)) := by
  intro m
  induction m with
  | zero =>
    intro i k p hi h11 hk hp hpi ht
    obtain ⟨k, rfl⟩ : ∃ z, k = z + 1 := ⟨k - 1, by omega⟩
    have hd : (s.take 11).drop i = [] := List.drop_eq_nil_of_le (by rw [List.length_take]; omega)
    have hc : (decide ((i : Int) < (s.length : Int)) && decide ((i : Int) < 11)) = false := by
      rw [Bool.and_eq_false_imp, decide_eq_true_eq, decide_eq_false_iff_not]
      omega
    rw [M_spec_ParseInt_L0, bd_eq, hc, cond_false, hd]
    rfl
  | succ m ih =>
    intro i k p hi h11 hk hp hpi ht
    obtain ⟨k, rfl⟩ : ∃ z, k = z + 1 := ⟨k - 1, by omega⟩
    have hlt : i < s.length := by omega
    by_cases h : i < 11
    · have hc : (decide ((i : Int) < (s.length : Int)) && decide ((i : Int) < 11)) = true := by
        rw [Bool.and_eq_true, decide_eq_true_eq, decide_eq_true_eq]
        omega
      have hx := List.getElem?_eq_getElem hlt
      have hb := bAt_get' hx
      have h256 : s[i].toNat < 256 := UInt8.toNat_lt _
      have hdrop : (s.take 11).drop i = s[i] :: (s.take 11).drop (i + 1) := by
        rw [List.drop_eq_getElem_cons (by rw [List.length_take]; omega), List.getElem_take]
      have hpb : p.1 ≤ 100000000000 := Nat.le_of_lt (Nat.lt_of_lt_of_le hp (pow_le11 (by omega)))
      have hw : IntKind.i64.wrap (IntKind.u8.wrap ((s[i].toNat : Int) - 48)) = ((s[i].toNat - 48 : Nat) : Int) ∨ s[i].toNat < 48 := by
        rcases Nat.lt_or_ge s[i].toNat 48 with h' | h'
        · exact .inr h'
        · left
          have e : ((s[i].toNat : Int) - 48) = ((s[i].toNat - 48 : Nat) : Int) := by omega
          rw [e]
          have h1 : IntKind.u8.wrap ((s[i].toNat - 48 : Nat) : Int) = ((s[i].toNat - 48 : Nat) : Int) := by
            unfold IntKind.wrap
            simp [IntKind.bits, IntKind.signed]
            omega
          rw [h1]
          exact IntWalk.i64_in _ (by omega)
      have hnext : ∀ q : Nat × Nat, q.1 < 10 ^ q.2 → q.2 ≤ i + 1 → M_spec_ParseInt_L0 fu s k (q.1 : Int) (q.2 : Int) ((i + 1 : Nat) : Int) = some (((((s.take 11).drop (i + 1)).foldl scS q).1 : Int), ((((s.take 11).drop (i + 1)).foldl scS q).2 : Int)) := fun q h1 h2 =>
        ih (i + 1) k q (by omega) (by omega) (by omega) h1 h2 (by rw [List.take_take, Nat.min_eq_left (by omega)])
      rw [M_spec_ParseInt_L0, bd_eq, hc, cond_true, ck_t (inR_t hlt), hb, ck_t (by rw [inR_t hlt, Bool.or_true]), bd_eq, hdrop, List.foldl_cons]
      by_cases hdg : 48 ≤ s[i].toNat ∧ s[i].toNat ≤ 57
      · have hd : (decide ((48 : Int) ≤ (s[i].toNat : Int)) && decide ((s[i].toNat : Int) ≤ 57)) = true := by
          rw [Bool.and_eq_true, decide_eq_true_eq, decide_eq_true_eq]
          omega
        have hw' := hw.resolve_right (by omega)
        have e : scS p s[i] = (p.1 * 10 + (s[i].toNat - 48), p.2 + 1) := if_pos hdg
        have hq := hnext (p.1 * 10 + (s[i].toNat - 48), p.2 + 1) (by show _ < 10 ^ (p.2 + 1); rw [Nat.pow_succ]; omega) (by show p.2 + 1 ≤ i + 1; omega)
        rw [hd, cond_true, hw', ck_t (i64B_t (by omega) (by omega)), ck_t (inR_t hlt), ck_t (i64B_t (by omega) (by omega)), ck_t (i64B_t (by omega) (by omega)), ck_t (i64B_n (by omega)), e, ← hq]
        congr 1
      · have hd : (decide ((48 : Int) ≤ (s[i].toNat : Int)) && decide ((s[i].toNat : Int) ≤ 57)) = false := by
          rw [Bool.and_eq_false_imp, decide_eq_true_eq, decide_eq_false_iff_not]
          omega
        have e : scS p s[i] = p := if_neg hdg
        rw [hd, cond_false, ck_t (i64B_n (by omega)), e, succ_i]
        exact hnext p hp (by omega)
    · have hd : (s.take 11).drop i = [] := List.drop_eq_nil_of_le (by rw [List.length_take]; omega)
      have hc : (decide ((i : Int) < (s.length : Int)) && decide ((i : Int) < 11)) = false := by
        rw [Bool.and_eq_false_imp, decide_eq_true_eq, decide_eq_false_iff_not]
        omega
      rw [M_spec_ParseInt_L0, bd_eq, hc, cond_false, hd]
      rfl
theorem itoa_pos {n : Int} (h : 0 ≤ n) : Lib.itoa n = Lib.decDigits n.toNat := by unfold Lib.itoa; rw [if_neg (by omega)]
theorem itoa_neg' {n : Int} (h : n < 0) : Lib.itoa n = 45 :: Lib.decDigits n.natAbs := by unfold Lib.itoa; rw [if_pos h]
theorem dec_len9 {u : Nat} (h : u ≤ 999999999) : (Lib.decDigits u).length ≤ 9 := decDigits_le 8 u (by omega)
/-- what a text of a number looks like -/
theorem isI_scan {s : List UInt8} {n : Int} (h : IsI s n) : s.length ≤ 10 ∧ 0 < s.length ∧ s.foldl scS (0, 0) = (n.natAbs, (Lib.decDigits n.natAbs).length) ∧ (Lib.decDigits n.natAbs).length ≤ 9 ∧ (s[0]? = some 45 ↔ n < 0) := by
  obtain ⟨rfl, h1, h2⟩ := h
  have hl := dec_len9 (u := n.natAbs) (by omega)
  have hp := List.length_pos_iff.2 (dec_ne n.natAbs)
  by_cases hn : n < 0
  · rw [itoa_neg' hn]
    refine ⟨by simp; omega, by simp, ?_, hl, by simp [hn]⟩
    rw [List.foldl_cons, show scS (0, 0) 45 = (0, 0) from rfl, sc_dec]
  · rw [itoa_pos (by omega), show n.toNat = n.natAbs by omega]
    refine ⟨by omega, hp, sc_dec _, hl, ?_⟩
    constructor
    · intro h
      have := dec_dig n.natAbs 45 (List.mem_of_getElem? h)
      exact absurd this.1 (by decide)
    · intro h; omega
/-- read as a number, or not -/
def RdI (s : List UInt8) (r : Int × Bool) : Prop := (∃ n, IsI s n ∧ r = (n, true)) ∨ ((∀ n, ¬ IsI s n) ∧ r = (0, false))
theorem isI_one {s : List UInt8} {n m : Int} (h : IsI s n) (k : IsI s m) : n = m := by
  have a := isI_scan h
  have b := isI_scan k
  have e : n.natAbs = m.natAbs := by
    have := a.2.2.1.symm.trans b.2.2.1
    injection this
  have := a.2.2.2.2
  have := b.2.2.2.2
  by_cases hs : s[0]? = some 45
  · have := a.2.2.2.2.1 hs
    have := b.2.2.2.2.1 hs
    omega
  · have h1 : ¬ n < 0 := fun h => hs (a.2.2.2.2.2 h)
    have h2 : ¬ m < 0 := fun h => hs (b.2.2.2.2.2 h)
    omega
theorem RdI.one {s : List UInt8} {r q : Int × Bool} (h : RdI s r) (k : RdI s q) : r = q := by
  rcases h with ⟨n, h1, rfl⟩ | ⟨h1, rfl⟩ <;> rcases k with ⟨m, k1, rfl⟩ | ⟨k1, rfl⟩
  · rw [isI_one h1 k1]
  · exact absurd h1 (k1 n)
  · exact absurd k1 (h1 m)
  · rfl
theorem RdI.no {s : List UInt8} (h : RdI s (0, false)) : ∀ n, ¬ IsI s n := by
  rcases h with ⟨n, _, h⟩ | ⟨h, _⟩
  · cases h
  · exact h
theorem specPI_t {fu : Nat} {s : List UInt8} (hf : 1048577 ≤ fu) (hs : s.length ≤ 1048576) : ∃ r, M_spec_ParseInt fu s = some r ∧ RdI s r := by
  have hsc := scan_t (fu := fu) hs s.length 0 fu (0, 0) (.inl (by omega)) (by omega) (by omega) (by decide) (Nat.le_refl _) (by simp)
  rw [List.drop_zero] at hsc
  have hlt := sc_lt (s.take 11) (0, 0) (by decide)
  have hct := sc_cnt (s.take 11) (0, 0)
  have htk : (s.take 11).length ≤ 11 := by rw [List.length_take]; omega
  generalize hp : (s.take 11).foldl scS (0, 0) = p at hsc hlt hct
  have hpb : p.1 ≤ 100000000000 := Nat.le_of_lt (Nat.lt_of_lt_of_le hlt (pow_le11 (by omega)))
  have hM : M_spec_ParseInt_L0 fu s fu 0 0 0 = some ((p.1 : Int), (p.2 : Int)) := hsc
  have h45 : ((decide ((0 : Int) < (s.length : Int))) && ((bAt s (0 : Int)) == (45 : Int))) = decide (s[0]? = some 45) := by
    cases s with
    | nil => rfl
    | cons b l =>
      have hb : bAt (b :: l) (0 : Int) = (b.toNat : Int) := bAt_get' (i := 0) rfl
      rw [hb, decide_eq_true (by simp), Bool.true_and]
      by_cases e : b = 45
      · subst e; rfl
      · rw [decide_eq_false (by simpa using e), beq_eq_false_iff_ne]
        intro h
        exact e (UInt8.toNat_inj.1 (by show b.toNat = 45; omega))
  have hck : (!(true && ((decide ((0 : Int) < (s.length : Int))) == true)) || inR (0 : Int) s.length) = true := by
    cases s with
    | nil => rfl
    | cons b l => rw [inR_iff.2 ⟨Int.le_refl _, by simp⟩, Bool.or_true]
  -- both arms read alike
  have arm : ∀ z : Int, (z = (p.1 : Int) ∧ s[0]? ≠ some 45) ∨ (z = 0 - (p.1 : Int) ∧ s[0]? = some 45) →
      ∃ r, (bd ((decide ((9 : Int) < (p.2 : Int))) || (decide ((10 : Int) < (s.length : Int)))) fun x33 =>
        cl (true && (x33 == false)) (M_spec_FormatInt fu z) fun x35 =>
        bd (x33 || (!(x35 == s))) fun x37 =>
        bif x37 then (some ((0 : Int), false)) else (some (z, true))) = some r ∧ RdI s r := by
    intro z hz
    rw [bd_eq]
    have key : ∀ n, IsI s n → n = z ∧ p.2 ≤ 9 ∧ s.length ≤ 10 := fun n hn => by
      obtain ⟨a1, a2, a3, a4, a5⟩ := isI_scan hn
      rw [List.take_of_length_le (by omega), a3] at hp
      subst hp
      refine ⟨?_, a4, a1⟩
      rcases hz with ⟨rfl, h⟩ | ⟨rfl, h⟩
      · have : ¬ n < 0 := fun hn => h (a5.2 hn)
        show n = (n.natAbs : Int)
        omega
      · have := a5.1 h
        show n = 0 - (n.natAbs : Int)
        omega
    cases hg : (decide ((9 : Int) < (p.2 : Int))) || (decide ((10 : Int) < (s.length : Int)))
    · rw [Bool.or_eq_false_iff, decide_eq_false_iff_not, decide_eq_false_iff_not] at hg
      have h9 : p.1 < 1000000000 := Nat.lt_of_lt_of_le hlt (Nat.le_trans (Nat.pow_le_pow_right (n := 10) (by omega) (show p.2 ≤ 9 by omega)) (by omega))
      rw [show (true && (false == false)) = true from rfl, specFI_t hf (by omega) (by omega), cl_true, bd_eq, Bool.false_or]
      cases he : Lib.itoa z == s
      · refine ⟨_, by rw [Bool.not_false, cond_true], .inr ⟨fun n hn => ?_, rfl⟩⟩
        obtain ⟨rfl, _⟩ := key n hn
        rw [hn.1, beq_self_eq_true] at he
        cases he
      · exact ⟨_, by rw [Bool.not_true, cond_false], .inl ⟨z, ⟨by simpa using he, by omega, by omega⟩, rfl⟩⟩
    · rw [show (true && (true == false)) = false from rfl, cl_false, bd_eq, Bool.true_or, cond_true]
      refine ⟨_, rfl, .inr ⟨fun n hn => ?_, rfl⟩⟩
      obtain ⟨_, h1, h2⟩ := key n hn
      rw [Bool.or_eq_true, decide_eq_true_eq, decide_eq_true_eq] at hg
      omega
  unfold M_spec_ParseInt
  rw [hM, cl_true, ck_t hck, bd_eq, h45]
  by_cases hs0 : s[0]? = some 45
  · rw [decide_eq_true hs0, cond_true, ck_t (i64B_t (by omega) (by omega))]
    exact arm _ (.inr ⟨rfl, hs0⟩)
  · rw [decide_eq_false hs0, cond_false]
    exact arm _ (.inl ⟨rfl, hs0⟩)
/-! ### the program -/
theorem pu_app : ∀ (xs : List UInt8) (acc v d : Nat), Lib.parseUint10 acc xs = .ok v → v < 1000000000 → d < 10 → Lib.parseUint10 acc (xs ++ [UInt8.ofNat (48 + d)]) = .ok (v * 10 + d)
  | [], acc, v, d, h, hv, hd => by
    simp only [Lib.parseUint10] at h
    injection h with h
    subst h
    have := dig_nat d hd
    simp only [List.nil_append, Lib.parseUint10, this]
    rw [if_pos (by omega), if_neg (by omega), if_neg (by omega)]
    congr 1
    omega
  | c :: xs, acc, v, d, h, hv, hd => by
    rw [List.cons_append]
    simp only [Lib.parseUint10] at h ⊢
    split at h
    · rename_i h1
      rw [if_pos h1]
      split at h
      · cases h
      · rename_i h2
        rw [if_neg h2]
        split at h
        · cases h
        · rename_i h3
          rw [if_neg h3]
          exact pu_app xs _ v d h hv hd
    · cases h
theorem pu_dec (u : Nat) (h : u ≤ 999999999) : Lib.parseUint10 0 (Lib.decDigits u) = .ok u := by
  induction u using Nat.strongRecOn with
  | _ u ih =>
    by_cases h10 : u < 10
    · rw [dec_small h10]
      have := pu_app [] 0 0 u rfl (by omega) h10
      rw [List.nil_append] at this
      simpa using this
    · rw [dec_big h10, pu_app _ 0 (u / 10) (u % 10) (ih (u / 10) (by omega) (by omega)) (by omega) (Nat.mod_lt _ (by omega))]
      congr 1
      omega
theorem atoi_itoa {n : Int} (h1 : -999999999 ≤ n) (h2 : n ≤ 999999999) : Lib.atoiAll (Lib.itoa n) = .ok n := by
  have hm : ∀ u : Nat, u ≤ 999999999 → Lib.parseMag (Lib.decDigits u) = .ok u := fun u hu => by
    unfold Lib.parseMag
    rw [if_neg (dec_ne u), pu_dec u hu]
  by_cases hn : n < 0
  · rw [itoa_neg' hn]
    unfold Lib.atoiAll
    simp only [show ((45 : UInt8).toNat = 43 ∨ (45 : UInt8).toNat = 45) = True from by simp, if_true, hm n.natAbs (by omega)]
    simp only [show ((45 : UInt8).toNat = 45) = True from by simp, not_true, false_and, if_false, true_and, if_true]
    rw [if_neg (by omega)]
    congr 1
    omega
  · rw [itoa_pos (by omega)]
    have hne := dec_ne n.toNat
    have hdg := dec_dig n.toNat
    have hm' := hm n.toNat (by omega)
    cases hd : Lib.decDigits n.toNat with
    | nil => exact absurd hd hne
    | cons c r =>
      rw [hd] at hdg hm'
      have hc := hdg c List.mem_cons_self
      unfold Lib.atoiAll
      simp only []
      rw [if_neg (by omega), hm']
      simp only []
      rw [if_neg (by omega), if_neg (by omega), if_neg (by omega)]
      congr 1
      omega
theorem atoi_i64 {s : List UInt8} {v : Int} (h : Lib.atoiAll s = .ok v) : -9223372036854775808 ≤ v ∧ v ≤ 9223372036854775807 := by
  unfold Lib.atoiAll at h
  cases s with
  | nil => cases h
  | cons c r =>
    simp only [] at h
    cases hm : Lib.parseMag (if c.toNat = 43 ∨ c.toNat = 45 then r else c :: r) with
    | ok u =>
      rw [hm] at h
      simp only [] at h
      split at h
      · cases h
      · split at h
        · cases h
        · injection h with h
          split at h <;> omega
    | _ => rw [hm] at h; cases h
theorem implPI_t {fu : Nat} {s : List UInt8} (hs : s.length ≤ 1048576) : ∃ r, M_impl_ParseInt fu s = some r ∧ RdI s r := by
  unfold M_impl_ParseInt M_atoi
  rw [ck_t (lenOK_t (by omega)), cl_true]
  have no : ∀ n, IsI s n → Lib.atoiAll s = .ok n := fun n hn => by rw [← hn.1]; exact atoi_itoa hn.2.1 hn.2.2
  have bad : ∀ a : Int, (∀ n, ¬ IsI s n) → ∃ r, (cl (true && (true == false)) (M_impl_FormatInt fu a) fun x4 =>
      bd (true || (!(x4 == s))) fun x6 =>
      cl (true && (x6 == false)) (M_impl_within fu a (-999999999 : Int) (999999999 : Int)) fun x8 =>
      bd (x6 || (!x8)) fun x10 =>
      bif x10 then (some ((0 : Int), false)) else (some (a, true))) = some r ∧ RdI s r := fun a h => ⟨_, rfl, .inr ⟨h, rfl⟩⟩
  cases hc : Lib.atoiAll s with
  | range =>
    have e : atoiR s = (Lib.atoiSat s, true) := by unfold atoiR; rw [hc]
    rw [e]
    exact bad _ fun n hn => by rw [no n hn] at hc; cases hc
  | ok v =>
    have e : atoiR s = (v, false) := by unfold atoiR; rw [hc]
    have hv := atoi_i64 hc
    rw [e]
    dsimp only
    rw [show (true && (false == false)) = true from rfl, implFI_t hv.1 hv.2, cl_true, bd_eq, Bool.false_or]
    have key : ∀ n, IsI s n → n = v := fun n hn => by
      have := (no n hn).symm.trans hc
      injection this
    cases he : Lib.itoa v == s
    · rw [Bool.not_false, show (true && (true == false)) = false from rfl, cl_false, bd_eq, Bool.true_or, cond_true]
      refine ⟨_, rfl, .inr ⟨fun n hn => ?_, rfl⟩⟩
      obtain rfl := key n hn
      rw [hn.1, beq_self_eq_true] at he
      cases he
    · rw [Bool.not_true, show (true && (false == false)) = true from rfl, show M_impl_within fu v (-999999999) 999999999 = some (decide (-999999999 ≤ v) && decide (v ≤ 999999999)) from rfl, cl_true, bd_eq, Bool.false_or]
      cases hw : decide (-999999999 ≤ v) && decide (v ≤ 999999999)
      · rw [Bool.not_false, cond_true]
        refine ⟨_, rfl, .inr ⟨fun n hn => ?_, rfl⟩⟩
        obtain rfl := key n hn
        rw [decide_eq_true hn.2.1, decide_eq_true hn.2.2] at hw
        cases hw
      · rw [Bool.not_true, cond_false]
        rw [Bool.and_eq_true, decide_eq_true_eq, decide_eq_true_eq] at hw
        exact ⟨_, rfl, .inl ⟨v, ⟨by simpa using he, hw.1, hw.2⟩, rfl⟩⟩
  | _ =>
    have e : atoiR s = (0, true) := by unfold atoiR; rw [hc]
    rw [e]
    exact bad 0 fun n hn => by rw [no n hn] at hc; cases hc
end Go.Proofs.YtcodfkieaoomnaaDoor

