/- Plain: sets of tokens, program and reference alike. No statement of the seat is proved here. -/
import Derived.Test.YtmgiijdejigdhaaEz
import Derived.Test.YtmgiijdejigdhaaPd
namespace Go.Proofs.Ytmgiijdejigdhaa
open Go.RowKit
set_option linter.unusedVariables false
set_option linter.unusedSimpArgs false

theorem bAt_get {t : List UInt8} {i : Nat} {c : UInt8} (h : t[i]? = some c) : bAt t (i : Int) = (c.toNat : Int) := by
  unfold bAt
  rw [Int.toNat_natCast, List.getD_eq_getElem?_getD, h]
  rfl
def smI (n : Int) : Bool := decide (97 ≤ n) && decide (n ≤ 122)
def dgI (n : Int) : Bool := decide (48 ≤ n) && decide (n ≤ 57)
def cpI (n : Int) : Bool := decide (65 ≤ n) && decide (n ≤ 90)
/-- no small letter and no digit -/
def naC (c : UInt8) : Bool := !(smI c.toNat) && !(dgI c.toNat)
theorem isAlnum_t {fu : Nat} {t : List UInt8} (hf : t.length < fu) (hl : t.length ≤ 4294967296) : M_impl_isAlphanumeric fu t = some (!(t.any naC)) := by
  unfold M_impl_isAlphanumeric
  have h := loop_any (xs := t) (p := naC) (r := false) (L := M_impl_isAlphanumeric_L0 fu t) (fun k i c hc => by
    have hi := at_lt hc
    rw [M_impl_isAlphanumeric_L0, lt_t hi, cond_true]
    simp only [inR_t hi, bAt_get hc, M_impl_isSmall, M_impl_isDigit, bd_eq, cl_if, cl_true, Bool.or_true, ck_tt, i64B_c (show i ≤ 4294967296 by omega), succ_i, naC, smI, dgI]
    generalize (decide ((97 : Int) ≤ (c.toNat : Int)) && decide ((c.toNat : Int) ≤ 122)) = s
    generalize (decide ((48 : Int) ≤ (c.toNat : Int)) && decide ((c.toNat : Int) ≤ 57)) = d
    cases s <;> cases d <;> rfl) (fun k => by rw [M_impl_isAlphanumeric_L0, lt_f]; rfl) hf
  rw [h, cl_true]
  cases t.any naC <;> rfl
/-- a token that is none -/
def tokX (t : List UInt8) : Bool := (t == []) || t.any naC
def tokB (l : List (List UInt8)) : Bool := !(adjAny tokX (fun p x => tokX x || !(bLt p x)) l)
theorem impl_tok {fu : Nat} {l : List (List UInt8)} (hf : 1048577 ≤ fu) (hl : l.length ≤ 1048576) (he : ∀ t ∈ l, t.length ≤ 1048576) : M_impl_IsTokenSet fu l = some (tokB l) := by
  unfold M_impl_IsTokenSet
  have h := loop_adj (xs := l) (b0 := tokX) (b := fun p x => tokX x || !(bLt p x)) (r := false) (L := M_impl_IsTokenSet_L0 fu l) (fun k x hx => by
    have hi := at_lt hx
    have hal := isAlnum_t (fu := fu) (t := x) (by have := he x (at_mem hx); omega) (by have := he x (at_mem hx); omega)
    rw [M_impl_IsTokenSet_L0, lt_0 hi, cond_true]
    simp only [inR_0 hi, gtD_0 hx, one_i, i64B_1, no_00, hal, bd_eq, cl_if, ck_tt, tokX]
    cases (x == []) <;> cases x.any naC <;> rfl) (fun k i q x hq hx => by
    have hi := at_lt hx
    have hi' := at_lt hq
    have hal := isAlnum_t (fu := fu) (t := x) (by have := he x (at_mem hx); omega) (by have := he x (at_mem hx); omega)
    rw [M_impl_IsTokenSet_L0, lt_t hi, cond_true]
    simp only [inR_t hi, inR_t hi', gtD_get hx, pred_i, gtD_get hq, pos_i, hal, bd_eq, cl_if, i64B_t (show -9223372036854775808 ≤ (i : Int) by omega) (show (i : Int) ≤ 9223372036854775807 by omega), Bool.or_true, ck_tt, i64B_c (show i + 1 ≤ 4294967296 by omega), succ_i, tokX]
    cases (x == []) <;> cases x.any naC <;> cases bLt q x <;> rfl) (fun k => by rw [M_impl_IsTokenSet_L0, lt_f]; rfl) (show l.length < fu by omega)
  rw [h, cl_true]
  unfold tokB
  cases adjAny tokX (fun p x => tokX x || !(bLt p x)) l <;> rfl
/-! the reference's way -/
def foldI (n : Int) : Int := bif cpI n then n + 32 else n
theorem u8_wrap (n : Int) (h0 : 0 ≤ n) (h1 : n ≤ 255) : IntKind.u8.wrap n = n := by
  have : n % 256 = n := Int.emod_eq_of_lt h0 (by omega)
  simp [IntKind.wrap, IntKind.bits, this, show IntKind.u8.signed = false from rfl]
theorem fold_t {fu : Nat} {t : List UInt8} (hf : t.length < fu) (hl : t.length ≤ 1048576) : M_spec_FoldCase fu t = some (t.map fun c => UInt8.ofNat (foldI c.toNat).toNat) := by
  unfold M_spec_FoldCase
  have h := loop_fold (xs := t) (g := fun (a : List Int) (c : UInt8) => a ++ [foldI c.toNat]) (Inv := fun i a => a.length = i) (L := M_spec_FoldCase_L0 fu t) (fun k i a c hc ha => by
    have hi := at_lt hc
    have hcu : c.toNat < 256 := c.toNat_lt
    rw [M_spec_FoldCase_L0, lt_t hi, cond_true]
    simp only [inR_t hi, bAt_get hc, bd_eq, ck_tt, List.length_singleton, lenOK_t (show a.length + 1 ≤ 4294967296 by omega), i64B_c (show i ≤ 4294967296 by omega), succ_i, foldI, cpI]
    cases hcp : (decide ((65 : Int) ≤ (c.toNat : Int)) && decide ((c.toNat : Int) ≤ 90))
    · rfl
    · simp only [Bool.and_eq_true, decide_eq_true_eq] at hcp
      rw [u8_wrap _ (by omega) (by omega)]
      rfl) (fun i a c hc ha => by simp [ha]) (fun k a ha => by rw [M_spec_FoldCase_L0, lt_f]; rfl) (a := []) rfl hf
  rw [h.1, cl_true]
  have key : ∀ (t : List UInt8) (a : List Int), t.foldl (fun (a : List Int) (c : UInt8) => a ++ [foldI c.toNat]) a = a ++ t.map fun c => foldI c.toNat := by
    intro t
    induction t with
    | nil => intro a; simp
    | cons c t ih => intro a; rw [List.foldl_cons, ih]; simp
  rw [key, List.nil_append]
  unfold strB
  rw [List.map_map]
  rfl
theorem fold_eq (t : List UInt8) : ((t.map fun c => UInt8.ofNat (foldI c.toNat).toNat) == t) = !(t.any fun c => cpI c.toNat) := by
  induction t with
  | nil => rfl
  | cons c t ih =>
    rw [List.map_cons, List.cons_beq_cons, ih, List.any_cons]
    have hcu : c.toNat < 256 := c.toNat_lt
    have : (UInt8.ofNat (foldI c.toNat).toNat == c) = !(cpI c.toNat) := by
      unfold foldI
      cases h : cpI c.toNat
      · rw [cond_false, Int.toNat_natCast, UInt8.ofNat_toNat]
        simp
      · rw [cond_true, Bool.not_true, beq_eq_false_iff_ne]
        intro e
        have e2 := congrArg UInt8.toNat e
        unfold cpI at h
        simp only [Bool.and_eq_true, decide_eq_true_eq] at h
        rw [UInt8.toNat_ofNat'] at e2
        omega
    rw [this]
    cases cpI c.toNat <;> rfl
def wdI (n : Int) : Bool := (smI n || cpI n) || dgI n
theorem spec_tok1 {fu : Nat} {l : List (List UInt8)} {i : Nat} {t : List UInt8} (ht : l[i]? = some t) (hf : t.length < fu) (hl : t.length ≤ 1048576) (hne : t ≠ []) : M_spec_IsTokenSet_L1 fu l (i : Int) fu (0 : Int) = some (bif t.any naC then .ret false else .go ()) := by
  have hit := at_lt ht
  have h := loop_any (xs := t) (p := fun c => !(wdI c.toNat) || t.any (fun c => cpI c.toNat)) (r := false) (L := M_spec_IsTokenSet_L1 fu l (i : Int)) (fun k j c hc => by
    have hj := at_lt hc
    have hfd := fold_t (fu := fu) hf hl
    rw [M_spec_IsTokenSet_L1]
    simp only [inR_t hit, gtD_get ht, lt_t hj, cond_true, inR_t hj, bAt_get hc, M_spec_l2Word, bd_eq, cl_if, cl_true, hfd, Bool.or_true, ck_tt, i64B_c (show j ≤ 4294967296 by omega), succ_i, wdI, smI, cpI, dgI]
    generalize ((decide ((97 : Int) ≤ (c.toNat : Int)) && decide ((c.toNat : Int) ≤ 122) || decide ((65 : Int) ≤ (c.toNat : Int)) && decide ((c.toNat : Int) ≤ 90)) || decide ((48 : Int) ≤ (c.toNat : Int)) && decide ((c.toNat : Int) ≤ 57)) = s
    cases s
    · rfl
    · have := fold_eq t
      unfold cpI at this
      simp only [Bool.not_true, Bool.false_or, show (false == false) = true from rfl, Bool.true_and, cond_true, this, Bool.not_not]) (fun k => by rw [M_spec_IsTokenSet_L1, ck_t (inR_t hit), gtD_get ht, lt_f]; rfl) hf
  rw [h]
  congr 2
  -- some capital, or some mark: a byte that is neither small nor digit
  have hp : ∀ c : UInt8, naC c = (!(wdI c.toNat) || cpI c.toNat) := by
    intro c
    unfold naC wdI
    cases hs : smI c.toNat <;> cases hc : cpI c.toNat <;> cases hd : dgI c.toNat <;> first | rfl | (unfold smI at hs; unfold cpI at hc; unfold dgI at hd; simp only [Bool.and_eq_true, decide_eq_true_eq] at hs hc hd; omega)
  rw [Bool.eq_iff_iff]
  simp only [List.any_eq_true, hp, Bool.or_eq_true]
  constructor
  · rintro ⟨c, hc, h | ⟨d, hd, h⟩⟩
    · exact ⟨c, hc, .inl h⟩
    · exact ⟨d, hd, .inr h⟩
  · rintro ⟨c, hc, h | h⟩
    · exact ⟨c, hc, .inl h⟩
    · exact ⟨c, hc, .inr ⟨c, hc, h⟩⟩
theorem spec_tok {fu : Nat} {l : List (List UInt8)} (hf : 1048577 ≤ fu) (hl : l.length ≤ 1048576) (he : ∀ t ∈ l, t.length ≤ 1048576) : M_spec_IsTokenSet fu l = some (tokB l) := by
  unfold M_spec_IsTokenSet
  have key : ∀ (i : Nat) x, l[i]? = some x → (x == []) = false → M_spec_IsTokenSet_L1 fu l (i : Int) fu (0 : Int) = some (bif x.any naC then .ret false else .go ()) := fun i x hx hne => spec_tok1 hx (by have := he x (at_mem hx); omega) (he x (at_mem hx)) (by intro e; subst e; cases hne)
  have h := loop_adj (xs := l) (b0 := tokX) (b := fun p x => tokX x || !(bLt p x)) (r := false) (L := M_spec_IsTokenSet_L0 fu l) (fun k x hx => by
    have hi := at_lt hx
    rw [M_spec_IsTokenSet_L0, lt_0 hi, cond_true]
    simp only [inR_0 hi, gtD_0 hx, one_i, i64B_1, no_00, bd_eq, ck_tt, tokX]
    cases hx0 : (x == [])
    · have := key 0 x hx hx0
      rw [show ((0 : Nat) : Int) = 0 from rfl] at this
      simp only [this, cl_true]
      cases x.any naC <;> rfl
    · rfl) (fun k i q x hq hx => by
    have hi := at_lt hx
    have hi' := at_lt hq
    rw [M_spec_IsTokenSet_L0, lt_t hi, cond_true]
    simp only [inR_t hi, inR_t hi', gtD_get hx, pred_i, gtD_get hq, pos_i, bd_eq, i64B_t (show -9223372036854775808 ≤ (i : Int) by omega) (show (i : Int) ≤ 9223372036854775807 by omega), Bool.or_true, ck_tt, i64B_c (show i + 1 ≤ 4294967296 by omega), succ_i, tokX]
    cases hx0 : (x == [])
    · rw [key (i + 1) x hx hx0]
      simp only [cl_true]
      cases x.any naC <;> cases bLt q x <;> rfl
    · cases bLt q x <;> rfl) (fun k => by rw [M_spec_IsTokenSet_L0, lt_f]; rfl) (show l.length < fu by omega)
  rw [h, cl_true]
  unfold tokB
  cases adjAny tokX (fun p x => tokX x || !(bLt p x)) l <;> rfl
end Go.Proofs.Ytmgiijdejigdhaa

