/- More operations for printed proofs: strings, numbers of other kinds, conversions, parts of a row of our own, calls that write a row. No statement of the seat is proved here. -/
import Derived.Test.YtmgiijdejigdhaaDz
import Derived.Laws.BytesArg
import Derived.Laws.Strings
namespace Go.Proofs.Ytmgiijdejigdhaa
open Go.RowKit
set_option linter.unusedVariables false

section
variable {P : Program} {R : Reg} {w : World} {d : Option Nat} {t : TypeId} {p : String} {af : Array Edge} {g : Option (Nat × Bool)} {A : Av} {α β : Type} {x y : Operand} {T T' : TypeId}
/-! ### numbers of whatever kind -/
section ints
variable {k k' : IntKind} {a b c e : Int}
theorem of_add_w (hx : evalR R x = .int k a) (hy : evalR R y = .int k b) : OpF P ⟨d, .binOp .add T x y T', t, p, af, g⟩ R w (.raw (.int k (k.wrap (a + b)))) :=
  opr_val (w' := w) (by simp [execOp, hx, hy, go_sem]) ⟨rfl, Fr.refl _⟩
end ints
/-! ### strings -/
def bLt (a b : List UInt8) : Bool := Op.bytesLess a b
theorem rep1_str {A : Av} {w : World} {s : ByteArray} {x : List UInt8} (hx : s.data.toList = x) (h : s.size ≤ maxLen) : eStr.rep A w x [.string s] := ⟨s, rfl, hx, h⟩
theorem rep_sl_val {E : Enc α} {A : Av} {w : World} {v : Value} {x : List α} (h : Rep (eSl E) A w v x) : ∃ a n c, v = .slice a n c ∧ (eSl E).rep A w x [.slice a n c] := by
  obtain ⟨cs, hv, a, n, c, rfl, h1⟩ := h
  exact ⟨a, n, c, hv, a, n, c, rfl, h1⟩
section strs
variable {a b : List UInt8}
theorem str_two (hx : Rep eStr A w (evalR R x) a) : ∃ s : ByteArray, evalR R x = .string s ∧ s.toList = a ∧ s.size ≤ maxLen := by
  obtain ⟨cs, hv, s, rfl, rfl, hm⟩ := hx
  exact ⟨s, hv, ByteArray.toList_eq s, hm⟩
theorem of_seql (hx : Rep eStr A w (evalR R x) a) (hy : Rep eStr A w (evalR R y) b) : OpF P ⟨d, .binOp .eql T x y T', t, p, af, g⟩ R w (.raw (.bool (a == b))) := by
  obtain ⟨s, hs, rfl, _⟩ := str_two hx
  obtain ⟨u, hu, rfl, _⟩ := str_two hy
  exact opr_val (w' := w) (by simp [execOp, hs, hu, go_sem]) ⟨rfl, Fr.refl _⟩
theorem of_sneq (hx : Rep eStr A w (evalR R x) a) (hy : Rep eStr A w (evalR R y) b) : OpF P ⟨d, .binOp .neq T x y T', t, p, af, g⟩ R w (.raw (.bool (!(a == b)))) := by
  obtain ⟨s, hs, rfl, _⟩ := str_two hx
  obtain ⟨u, hu, rfl, _⟩ := str_two hy
  exact opr_val (w' := w) (by simp [execOp, hs, hu, go_sem]) ⟨rfl, Fr.refl _⟩
theorem of_sgeq (hx : Rep eStr A w (evalR R x) a) (hy : Rep eStr A w (evalR R y) b) : OpF P ⟨d, .binOp .geq T x y T', t, p, af, g⟩ R w (.raw (.bool (!(bLt a b)))) := by
  obtain ⟨s, hs, rfl, _⟩ := str_two hx
  obtain ⟨u, hu, rfl, _⟩ := str_two hy
  exact opr_val (w' := w) (by simp [execOp, hs, hu, go_sem, bLt]) ⟨rfl, Fr.refl _⟩
theorem of_cat (hx : Rep eStr A w (evalR R x) a) (hy : Rep eStr A w (evalR R y) b) (hl : lenOK (a ++ b).length = true) : OpF P ⟨d, .binOp .add T x y T', t, p, af, g⟩ R w (.rep eStr A (a ++ b)) := by
  obtain ⟨cs, hs, s, rfl, rfl, _⟩ := hx
  obtain ⟨cs', hu, u, rfl, rfl, _⟩ := hy
  have hs' : evalR R x = .string s := hs
  have hu' : evalR R y = .string u := hu
  have h := lenOK_le hl
  rw [List.length_append, Array.length_toList, Array.length_toList] at h
  have h1 : s.size + u.size ≤ 9223372036854775807 := by
    have e1 : s.data.size = s.size := rfl
    have e2 : u.data.size = u.size := rfl
    omega
  refine opr_val (v := .string (s ++ u)) (w' := w) (by simp [execOp, hs', hu', go_sem, h1]) ⟨⟨_, rfl, _, rfl, ?_, ?_⟩, Fr.refl _⟩
  · rw [ByteArray.data_append, Array.toList_append]
  · rw [ByteArray.size_append]
    unfold maxLen
    have e1 : s.data.size = s.size := rfl
    have e2 : u.data.size = u.size := rfl
    omega
end strs
/-! ### min, max -/
section
variable {a b c : Int}
end
/-! ### bytes to a string -/
def strB (xs : List Int) : List UInt8 := xs.map fun n => UInt8.ofNat n.toNat
theorem of_conv_bytes {S D e : TypeId} {xs : List Int} {A1 : Av} (hx : Rep (eSl (eInt .u8)) A1 w (evalR R y) xs) (hs : P.underlying S = some (.slice e)) (he : P.underlying e = some (.int .u8)) (hd : P.underlying D = some .string) :
    OpF P ⟨d, .convert S D y, t, p, af, g⟩ R w (.rep eStr A (strB xs)) := by
  obtain ⟨cs, hv, ad, n, c, rfl, hl, hnc, hcm, h4⟩ := hx
  have hv' : evalR R y = .slice ad n c := hv
  rcases Nat.eq_zero_or_pos n with h0 | h0
  · have hnil : xs = [] := List.eq_nil_of_length_eq_zero (by omega)
    subst hnil
    refine opr_val (v := .string ByteArray.empty) (w' := w) ?_ ⟨⟨_, rfl, _, rfl, rfl, Nat.zero_le _⟩, Fr.refl _⟩
    have : (convert S D (.slice ad n c)).run P w = .ok (.string ByteArray.empty) w := by
      rw [run_convert_bytes_string w S D e ad n c hs he hd, h0]
      cases ad with
      | none => simp [Conv.bytesToString]
      | some a => 
        have := run_bytesToString (P := P) w a 0 c [] (by simp [loadCells, loadCellsFrom])
        simpa using this
    simp [execOp, hv', this]
  · obtain ⟨b, off, rfl, hb, hall⟩ := h4 h0
    have hc := run_convert_bytes_arg (P := P) w S e hs he b off n c xs hl (fun i hi => by
      have hx : xs[i]? = some xs[i] := List.getElem?_eq_getElem (by omega)
      obtain ⟨⟨cs, h1, h2⟩, _⟩ := hall i _ hx
      obtain rfl := h1
      have := h2 0 _ rfl
      simp only [eInt, Nat.mul_one, Nat.add_zero] at this
      rw [this]
      simp [List.getD, hx]) D hd
    refine opr_val (v := .string (strOfNums xs)) (w' := w) (by simp [execOp, hv', hc]) ⟨⟨_, rfl, _, rfl, ?_, ?_⟩, Fr.refl _⟩
    · simp [strOfNums, strB]
    · have : (strOfNums xs).size = xs.length := by simp [strOfNums, ByteArray.size]
      omega
/-! ### a slice that may be nil -/
def isNilV : Value → Bool
  | .slice none _ _ => true
  | _ => false
section
variable {E : Enc α} {xs : List α} {u : Value} {e : TypeId}
theorem nil_of_rep (h : Rep (eSl E) A w u xs) (hn : isNilV u = true) : xs = [] := by
  obtain ⟨cs, rfl, ad, n, c, rfl, hl, hnc, hcm, h4⟩ := h
  rcases Nat.eq_zero_or_pos n with h0 | h0
  · exact List.eq_nil_of_length_eq_zero (by omega)
  · obtain ⟨b, off, rfl, _⟩ := h4 h0
    cases hn
theorem of_nil_eql (hx : evalR R x = u) (h : Rep (eSl E) A w u xs) (hy : evalR R y = .slice none 0 0) (hu : P.underlying T = some (.slice e)) : OpF P ⟨d, .binOp .eql T x y T', t, p, af, g⟩ R w (.raw (.bool (isNilV u))) := by
  obtain ⟨cs, rfl, ad, n, c, rfl, hl, hnc, hcm, h4⟩ := h
  have hx' : evalR R x = .slice ad n c := hx
  cases ad with
  | none => exact opr_val (v := .bool true) (w' := w) (by simp [execOp, hx', hy, eqGuard]; simp [binOp, Op.equal, Op.maxDepth, Lib.run_equalIn_slice_nil w 9999 T e none n c 0 0 hu]) ⟨rfl, Fr.refl _⟩
  | some a => exact opr_val (v := .bool false) (w' := w) (by simp [execOp, hx', hy, eqGuard]; simp [binOp, Op.equal, Op.maxDepth, Lib.run_equalIn_slice_nil w 9999 T e (some a) n c 0 0 hu]) ⟨rfl, Fr.refl _⟩
end
/-! ### parts of a row of our own -/
section
variable {E : Enc α} {xs : List α} {u : Value} {e : TypeId} {B : Nat} {w0 : World} {A0 : Av} {k : IntKind} {lo i : Int} {n s : Nat}
end
/-! ### a row handed to a call that writes it -/
abbrev subA (A : Av) (u : Value) : Av := fun b o => A b o ∧ ¬ ownsB u b
theorem AvOK.sub {A : Av} (h : AvOK A w) (u : Value) : AvOK (subA A u) w := fun b o hb => h b o hb.1
theorem Vec.flat {E : Enc α} {B : Nat} {e : TypeId} {u : Value} {xs : List α} {A A' : Av} (h : (Res.vec B e E xs).ok A u w) (hfl : ∀ A A' w x cs, E.rep A w x cs → E.rep A' w x cs) : (Res.vec B e E xs).ok A' u w :=
  let ⟨cs, h1, h2, h3⟩ := h; ⟨cs, h1, h2, fun i x hx => let ⟨ds, h4, h5⟩ := h3 i x hx; ⟨ds, hfl _ _ _ _ _ h4, h5⟩⟩
theorem FnK1.flat {ρ : Type} {E : Enc α} {φ : ρ → Fact} {K : Nat → Prop} {v : Value} {F : α → Option ρ} {A A' : Av} (h : FnK1 P E φ A K w v F) (hA : AvOK A w) (hfl : ∀ A A' w x cs, E.rep A w x cs → E.rep A' w x cs) : FnK1 P E φ A' K w v F :=
  fun x r hr w' a hch _ ha => h x r hr w' a hch (hA.fr hch.size) (let ⟨cs, h1, h2⟩ := ha; ⟨cs, h1, hfl _ _ _ _ _ h2⟩)
theorem FnK1.mono {ρ : Type} {E : Enc α} {φ : ρ → Fact} {K K' : Nat → Prop} {v : Value} {F : α → Option ρ} (h : FnK1 P E φ A K w v F) (hK : ∀ k, K' k → K k) : FnK1 P E φ A K' w v F :=
  fun x r hr w' a hch hA ha => h x r hr w' a ⟨hch.os, hch.tape, hch.output, hch.size, fun k hk hn => hch.block k hk fun h' => hn (hK k h'), hch.drawn⟩ hA ha
theorem IniOK.one {E : Enc α} {B : Nat} {e : TypeId} {u : Value} {xs : List α} {A : Av} (h : (Res.vec B e E xs).ok A u w) (hfl : ∀ A A' w x cs, E.rep A w x cs → E.rep A' w x cs) : IniOK [ob u (.vec B e E xs)] (addA A u) w := by
  refine ⟨fun i p hp => ?_, fun i p hp => ?_, fun i j p q hp hq hne k hk hk' => ?_⟩
  · cases i with
    | zero => simp at hp; subst hp; exact ⟨Vec.flat h hfl, fun k hk o => .inr hk⟩
    | succ i => simp at hp
  · cases i with
    | zero => simp at hp; subst hp; rfl
    | succ i => simp at hp
  · cases i with
    | zero =>
      cases j with
      | zero => exact hne rfl
      | succ j => simp at hq
    | succ i => simp at hp
theorem AvOK.one {E : Enc α} {B : Nat} {e : TypeId} {u : Value} {xs : List α} {A : Av} (hA : AvOK A w) (h : (Res.vec B e E xs).ok A u w) : AvOK (addA A u) w :=
  fun b o hb => hb.elim (hA b o) fun hb => Res.lt h rfl hb
theorem CRep.less {E : Enc α} {B : Nat} {a : α} {A A' : Av} {v : Value} (h : CRep E A w B v a) (hAA : ∀ b o, A' b o → A b o) : CRep E A' w B v a :=
  let ⟨b, o, h1, h2, h3, cs, h4, h5⟩ := h; ⟨b, o, h1, h2, h3, cs, E.stp (stp_down hAA) h4, h5⟩
/-- a call that changes a row and hands back a plain value -/
theorem took_call {E : Enc α} {e : TypeId} {ys : List α} {B : Nat} {u : Value} {f : Fact} {fn : FuncId} {al : List Operand} {aT : Array TypeId} (hc : ∀ args w, (callFunc fn args).run P w = .ok (.enter fn args) w) (hav : ∀ k, ownsB u k → ∀ o, A k o) (hfl : ∀ A A' w x cs, E.rep A w x cs → E.rep A' w x cs)
    (h : Calls P fn (al.map (evalR R)).toArray w fun ed w' => ∃ v, ed = .returned v ∧ (f.ok v w' ∧ (Res.vec B e E ys).ok (subA A u) u w' ∧ Ch (ownsB u) w w')) :
    OpR P ⟨d, .call ⟨.value (.func fn), al.toArray, aT⟩, t, p, af, g⟩ R w (Took A false u (.vec B e E ys) (fun _ => f) w) := by
  unfold OpR
  have : (execOp (evalR R) ⟨d, .call ⟨.value (.func fn), al.toArray, aT⟩, t, p, af, g⟩).run P w = .ok (.enter fn (al.map (evalR R)).toArray) w := by
    simp [execOp, resolve, evalR, Deferred.ofValue, invoke, hc]
  rw [this]
  refine Calls.mono h ?_
  rintro ed w' ⟨v, he, hf, hok, hch⟩
  refine ⟨v, he, u, rfl, hch, fun k _ h => h, stp_swap_self hav hch, ?_, hf⟩
  exact Vec.flat hok hfl
/-! ### rows that become plain lists -/
theorem Vec.thaw {E : Enc α} {B : Nat} {e : TypeId} {u : Value} {xs : List α} {A A' : Av} (h : Vec E A B e w u xs) (hAA : ∀ b o, A' b o → A b o) (hn : ∀ b o, A' b o → ¬ ownsB u b) : Rep (eSl E) A' w u xs := by
  obtain ⟨cs, hown, hf⟩ := h
  have hst : Stp A A' w w := stp_down hAA
  rcases hown.2 with ⟨rfl, h0⟩ | ⟨g, cap, cur, rfl, hbg, hg, hnc, hcm, hcs, htake⟩
  · have : xs = [] := List.eq_nil_of_length_eq_zero h0
    subst this
    exact rep_nil
  · refine ⟨_, rfl, some ⟨g, 0, none⟩, xs.length, cap, rfl, rfl, hnc, hcm, fun _ => ⟨g, 0, rfl, hg.lt, fun i x hx => ?_⟩⟩
    obtain ⟨ds, h1, h2⟩ := hf.2 i x hx
    refine ⟨⟨ds, E.stp hst h1, fun j u hj => ?_⟩, fun j _ hA0 => hn _ _ hA0 rfl⟩
    have := hown.cells (g := g) rfl (i * E.size + j) u (h2 j u hj)
    rwa [addr_add, ← Nat.add_assoc] at this
theorem OpR.thaw {o : Oper} {E : Enc α} {B : Nat} {e : TypeId} {u : Value} {xs : List α} {lk : Bool} (h : OpR P o R w (Took A true u (.vec B e E xs) (fun _ => .any) w)) (hA : AvOK A w) (hav : ∀ k, ownsB u k → ∀ o, A k o) : OpR P o R w (TookS A lk u (ownsB u) .nul (fun A => .rep (eSl E) A xs) w) :=
  h.mono fun v w' h => by
    obtain ⟨u'', hu, hch, hs, hst, hok, _⟩ := h
    subst hu
    have hAA : ∀ b o, swapS A (ownsB u) (fun _ => False) b o → swapA A u u'' b o := fun b o h => h.elim .inl fun h => h.elim
    refine ⟨bif lk then u'' else u, fun _ => False, by cases lk <;> rfl, hch, fun k _ h => h.elim, ⟨hst.size, fun b o v hv hn => hst.cell b o v hv hn, fun b o hb h => h.elim (·.1) fun h => h.elim⟩, trivial, rfl, ?_⟩
    refine Vec.thaw hok hAA fun b o h hb => ?_
    rcases h with ⟨h1, h2⟩ | h
    · exact h2 (hs b (hA b o h1) hb)
    · exact h
end
end Go.Proofs.Ytmgiijdejigdhaa
