/- Plain: sets of tokens, program and reference alike. No statement of the seat is proved here. -/
import Derived.Test.YtofiipblinonoaaOz
import Derived.Test.YtofiipblinonoaaPd
namespace Go.Proofs.Ytofiipblinonoaa
open Go.RowKit
set_option linter.unusedVariables false
set_option linter.unusedSimpArgs false

theorem bAt_get {t : List UInt8} {i : Nat} {c : UInt8} (h : t[i]? = some c) : bAt t (i : Int) = (c.toNat : Int) := by
  unfold bAt
  rw [Int.toNat_natCast, List.getD_eq_getElem?_getD, h]
  rfl
def smI (n : Int) : Bool := decide (97 ≤ n) && decide (n ≤ 122)
def dgI (n : Int) : Bool := decide (48 ≤ n) && decide (n ≤ 57)
def cpI (n : Int) : Bool := decide (65 ≤ n) && decide (n ≤ 90)
/-- no small letter and no digit -/
def naC (c : UInt8) : Bool := !(smI c.toNat) && !(dgI c.toNat)
/-- a token that is none -/
def tokX (t : List UInt8) : Bool := (t == []) || t.any naC
def tokB (l : List (List UInt8)) : Bool := !(adjAny tokX (fun p x => tokX x || !(bLt p x)) l)
/-! the reference's way -/
def foldI (n : Int) : Int := bif cpI n then n + 32 else n
theorem u8_wrap (n : Int) (h0 : 0 ≤ n) (h1 : n ≤ 255) : IntKind.u8.wrap n = n := by
  have : n % 256 = n := Int.emod_eq_of_lt h0 (by omega)
  simp [IntKind.wrap, IntKind.bits, this, show IntKind.u8.signed = false from rfl]
theorem fold_eq (t : List UInt8) : ((t.map fun c => UInt8.ofNat (foldI c.toNat).toNat) == t) = !(t.any fun c => cpI c.toNat) := by
  induction t with
  | nil => rfl
  | cons c t ih =>
    rw [List.map_cons, List.cons_beq_cons, ih, List.any_cons]
    have hcu : c.toNat < 256 := c.toNat_lt
    have : (UInt8.ofNat (foldI c.toNat).toNat == c) = !(cpI c.toNat) := by
      unfold foldI
      cases h : cpI c.toNat
      · rw [cond_false, Int.toNat_natCast, UInt8.ofNat_toNat]
        simp
      · rw [cond_true, Bool.not_true, beq_eq_false_iff_ne]
        intro e
        have e2 := congrArg UInt8.toNat e
        unfold cpI at h
        simp only [Bool.and_eq_true, decide_eq_true_eq] at h
        rw [UInt8.toNat_ofNat'] at e2
        omega
    rw [this]
    cases cpI c.toNat <;> rfl
def wdI (n : Int) : Bool := (smI n || cpI n) || dgI n
end Go.Proofs.Ytofiipblinonoaa

