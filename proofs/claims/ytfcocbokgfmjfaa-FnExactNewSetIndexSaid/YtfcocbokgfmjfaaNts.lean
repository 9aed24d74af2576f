/- Plain: sets of tokens, program and reference alike. No statement of the seat is proved here. -/
import Derived.Test.YtfcocbokgfmjfaaNz
import Derived.Test.YtfcocbokgfmjfaaPd
namespace Go.Proofs.Ytfcocbokgfmjfaa
open Go.RowKit
set_option linter.unusedVariables false
set_option linter.unusedSimpArgs false

theorem bAt_get {t : List UInt8} {i : Nat} {c : UInt8} (h : t[i]? = some c) : bAt t (i : Int) = (c.toNat : Int) := by
  unfold bAt
  rw [Int.toNat_natCast, List.getD_eq_getElem?_getD, h]
  rfl
def smI (n : Int) : Bool := decide (97 ≤ n) && decide (n ≤ 122)
def dgI (n : Int) : Bool := decide (48 ≤ n) && decide (n ≤ 57)
def cpI (n : Int) : Bool := decide (65 ≤ n) && decide (n ≤ 90)
/-- no small letter and no digit -/
def naC (c : UInt8) : Bool := !(smI c.toNat) && !(dgI c.toNat)
theorem isAlnum_t {fu : Nat} {t : List UInt8} (hf : t.length < fu) (hl : t.length ≤ 4294967296) : M_impl_isAlphanumeric fu t = some (!(t.any naC)) := by
  unfold M_impl_isAlphanumeric
  have h := loop_any (xs := t) (p := naC) (r := false) (L := M_impl_isAlphanumeric_L0 fu t) (fun k i c hc => by
    have hi := at_lt hc
    rw [M_impl_isAlphanumeric_L0, lt_t hi, cond_true]
    simp only [inR_t hi, bAt_get hc, M_impl_isSmall, M_impl_isDigit, bd_eq, cl_if, cl_true, Bool.or_true, ck_tt, i64B_c (show i ≤ 4294967296 by omega), succ_i, naC, smI, dgI]
    generalize (decide ((97 : Int) ≤ (c.toNat : Int)) && decide ((c.toNat : Int) ≤ 122)) = s
    generalize (decide ((48 : Int) ≤ (c.toNat : Int)) && decide ((c.toNat : Int) ≤ 57)) = d
    cases s <;> cases d <;> rfl) (fun k => by rw [M_impl_isAlphanumeric_L0, lt_f]; rfl) hf
  rw [h, cl_true]
  cases t.any naC <;> rfl
/-- a token that is none -/
def tokX (t : List UInt8) : Bool := (t == []) || t.any naC
def tokB (l : List (List UInt8)) : Bool := !(adjAny tokX (fun p x => tokX x || !(bLt p x)) l)
theorem impl_tok {fu : Nat} {l : List (List UInt8)} (hf : 1048577 ≤ fu) (hl : l.length ≤ 1048576) (he : ∀ t ∈ l, t.length ≤ 1048576) : M_impl_IsTokenSet fu l = some (tokB l) := by
  unfold M_impl_IsTokenSet
  have h := loop_adj (xs := l) (b0 := tokX) (b := fun p x => tokX x || !(bLt p x)) (r := false) (L := M_impl_IsTokenSet_L0 fu l) (fun k x hx => by
    have hi := at_lt hx
    have hal := isAlnum_t (fu := fu) (t := x) (by have := he x (at_mem hx); omega) (by have := he x (at_mem hx); omega)
    rw [M_impl_IsTokenSet_L0, lt_0 hi, cond_true]
    simp only [inR_0 hi, gtD_0 hx, one_i, i64B_1, no_00, hal, bd_eq, cl_if, ck_tt, tokX]
    cases (x == []) <;> cases x.any naC <;> rfl) (fun k i q x hq hx => by
    have hi := at_lt hx
    have hi' := at_lt hq
    have hal := isAlnum_t (fu := fu) (t := x) (by have := he x (at_mem hx); omega) (by have := he x (at_mem hx); omega)
    rw [M_impl_IsTokenSet_L0, lt_t hi, cond_true]
    simp only [inR_t hi, inR_t hi', gtD_get hx, pred_i, gtD_get hq, pos_i, hal, bd_eq, cl_if, i64B_t (show -9223372036854775808 ≤ (i : Int) by omega) (show (i : Int) ≤ 9223372036854775807 by omega), Bool.or_true, ck_tt, i64B_c (show i + 1 ≤ 4294967296 by omega), succ_i, tokX]
    cases (x == []) <;> cases x.any naC <;> cases bLt q x <;> rfl) (fun k => by rw [M_impl_IsTokenSet_L0, lt_f]; rfl) (show l.length < fu by omega)
  rw [h, cl_true]
  unfold tokB
  cases adjAny tokX (fun p x => tokX x || !(bLt p x)) l <;> rfl
/-! the reference's way -/
def foldI (n : Int) : Int := bif cpI n then n + 32 else n
theorem u8_wrap (n : Int) (h0 : 0 ≤ n) (h1 : n ≤ 255) : IntKind.u8.wrap n = n := by
  have : n % 256 = n := Int.emod_eq_of_lt h0 (by omega)
  simp [IntKind.wrap, IntKind.bits, this, show IntKind.u8.signed = false from rfl]
theorem fold_eq (t : List UInt8) : ((t.map fun c => UInt8.ofNat (foldI c.toNat).toNat) == t) = !(t.any fun c => cpI c.toNat) := by
  induction t with
  | nil => rfl
  | cons c t ih =>
    rw [List.map_cons, List.cons_beq_cons, ih, List.any_cons]
    have hcu : c.toNat < 256 := c.toNat_lt
    have : (UInt8.ofNat (foldI c.toNat).toNat == c) = !(cpI c.toNat) := by
      unfold foldI
      cases h : cpI c.toNat
      · rw [cond_false, Int.toNat_natCast, UInt8.ofNat_toNat]
        simp
      · rw [cond_true, Bool.not_true, beq_eq_false_iff_ne]
        intro e
        have e2 := congrArg UInt8.toNat e
        unfold cpI at h
        simp only [Bool.and_eq_true, decide_eq_true_eq] at h
        rw [UInt8.toNat_ofNat'] at e2
        omega
    rw [this]
    cases cpI c.toNat <;> rfl
def wdI (n : Int) : Bool := (smI n || cpI n) || dgI n
end Go.Proofs.Ytfcocbokgfmjfaa

