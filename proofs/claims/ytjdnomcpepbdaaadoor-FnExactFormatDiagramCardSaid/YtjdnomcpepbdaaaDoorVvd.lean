/- Plain: valid diagrams, program and reference alike. No statement of the seat is proved here. -/
import Derived.Test.YtjdnomcpepbdaaaDoorVz
import Derived.Test.YtjdnomcpepbdaaaDoorPd
namespace Go.Proofs.YtjdnomcpepbdaaaDoor
open Go.RowKit
set_option linter.unusedVariables false

def inI (p lo hi : Int) : Bool := decide (lo ≤ p) && decide (p ≤ hi)
theorem within_eq (fu : Nat) (a b c : Int) : M_impl_within fu a b c = some (inI a b c) := rfl
theorem l1In_eq (fu : Nat) (a b c : Int) : M_spec_l1In fu a b c = some (inI a b c) := rfl
theorem isFeature_eq (fu : Nat) (a : Int) : M_impl_isFeature fu a = some (inI a 0 5) := rfl
theorem isThreshold_eq (fu : Nat) (a : Int) : M_impl_isThreshold fu a = some (inI a 1 1000) := rfl
def bef (x y : T_impl_DiagramNode) : Bool := decide (x.1 < y.1) || ((x.1 == y.1) && decide (x.2.1 < y.2.1))
theorem l15Before_eq (fu : Nat) (x y : T_impl_DiagramNode) : M_spec_l15Before fu x y = some (bef x y) := rfl
def dupB (ns : List T_impl_DiagramNode) (i : Nat) : Bool := (findB (fun k => gtD ns k == gtD ns i) 0 i).isSome
def chB (ns : List T_impl_DiagramNode) (i : Nat) (c : Int) : Bool := inI c 0 ((i : Int) + 1) && (decide (c < 2) || bef (gtD ns i) (gtD ns (c - 2)))
def badB (ns : List T_impl_DiagramNode) (i : Nat) : Bool :=
  !inI (gtD ns i).1 0 5 || !inI (gtD ns i).2.1 1 1000 || ((gtD ns i).2.2.1 == (gtD ns i).2.2.2) || dupB ns i || !chB ns i (gtD ns i).2.2.1 || !chB ns i (gtD ns i).2.2.2
theorem inI_iff {p lo hi : Int} : inI p lo hi = true ↔ lo ≤ p ∧ p ≤ hi := by simp [inI]

theorem spec_dup {ns : List T_impl_DiagramNode} {b : Int} {fu i : Nat} (hi : i ≤ ns.length) (hn : ns.length ≤ 1048576) (hf : 1048577 ≤ fu) :
    M_spec_IsValidDiagram_L1 fu (b, ns) (i : Int) fu 0 = some (exF (fun _ => false) (findB (fun k => gtD ns k == gtD ns i) 0 i)) := by
  refine loop_find (L := M_spec_IsValidDiagram_L1 fu (b, ns) (i : Int)) (n := i) (ret := fun _ => false) (fun k j hj => ?_) (fun k => ?_) i 0 fu (by omega) (by omega)
  · rw [M_spec_IsValidDiagram_L1]
    have h1 : decide ((j : Int) < (i : Int)) = true := by simpa using hj
    rw [h1, cond_true, ck_t (inR_t (show j < ns.length by omega)), ck_t (i64B_t (by omega) (by omega))]
    rfl
  · rw [M_spec_IsValidDiagram_L1]
    simp
theorem impl_dup {ns : List T_impl_DiagramNode} {fu i : Nat} (hi : i < ns.length) (hn : ns.length ≤ 1048576) (hf : 1048577 ≤ fu) :
    M_slices_Contains_impl_DiagramNode_impl_DiagramNode fu (subL ns 0 (i : Int)) (gtD ns i) = some (dupB ns i) := by
  have hl : (subL ns 0 (i : Int)).length = i := by
    rw [subL_length (subR_iff.2 ⟨by omega, by omega, by omega⟩)]
    omega
  have hg : ∀ j, j < i → gtD (subL ns 0 (i : Int)) (j : Int) = gtD ns (j : Int) := fun j hj => by
    have : (subL ns 0 (i : Int))[j]? = ns[j]? := by
      unfold subL
      simp [hj]
    unfold gtD
    rw [Int.toNat_natCast, List.getD_eq_getElem?_getD, List.getD_eq_getElem?_getD, this]
  have h := loop_find (L := M_slices_Index_impl_DiagramNode_impl_DiagramNode_L0 fu (subL ns 0 (i : Int)) (gtD ns i)) (n := i) (P := fun k => gtD ns k == gtD ns i) (ret := fun j => (j : Int)) (fun k j hj => by
    rw [M_slices_Index_impl_DiagramNode_impl_DiagramNode_L0, hl]
    have h1 : decide ((j : Int) < (i : Int)) = true := by simpa using hj
    rw [h1, cond_true, ck_t (inR_t (show j < i by omega)), ck_t (i64B_t (by omega) (by omega)), hg j hj, BEq.comm]
    rfl) (fun k => by
    rw [M_slices_Index_impl_DiagramNode_impl_DiagramNode_L0, hl]
    simp) i 0 fu (by omega) (by omega)
  unfold M_slices_Contains_impl_DiagramNode_impl_DiagramNode M_slices_Index_impl_DiagramNode_impl_DiagramNode dupB
  rw [show ((0 : Nat) : Int) = 0 from rfl] at h
  rw [h, cl_true]
  cases hfb : findB (fun k => gtD ns k == gtD ns i) 0 i with
  | none => rfl
  | some j =>
    show some (decide ((0 : Int) ≤ (j : Int))) = _
    rw [decide_eq_true (by omega)]
    rfl
theorem spec_step {ns : List T_impl_DiagramNode} {b : Int} {fu i k : Nat} (hi : i < ns.length) (hn : ns.length ≤ 1048576) (hf : 1048577 ≤ fu) :
    M_spec_IsValidDiagram_L0 fu (b, ns) (k + 1) (i : Int) = bif badB ns i then some (.ret false) else M_spec_IsValidDiagram_L0 fu (b, ns) k ((i + 1 : Nat) : Int) := by
  rw [M_spec_IsValidDiagram_L0]
  have h1 : decide ((i : Int) < ((b, ns).2.length : Int)) = true := by simpa using hi
  rw [h1, cond_true, ck_t (inR_t (show i < (b, ns).2.length from hi)), ck_t (b := i64B ((i : Int) + 1)) (i64B_t (by omega) (by omega)), spec_dup (Nat.le_of_lt hi) hn hf]
  simp only [l1In_eq, l15Before_eq, cl_if, bd_eq, i64B_t (x := (i : Int) + 1) (by omega) (by omega), Bool.or_true]
  unfold badB dupB chB
  rw [show ((i : Int) + 1) = ((i + 1 : Nat) : Int) from rfl]
  generalize findB (fun k => gtD ns k == gtD ns i) 0 i = fd
  generalize hx : gtD ns (i : Int) = x
  obtain ⟨f, t, lo, hi'⟩ := x
  dsimp only
  generalize hA : inI f 0 5 = A
  generalize hB : inI t 1 1000 = B
  generalize hC : inI lo 0 ((i + 1 : Nat) : Int) = C
  generalize hD : inI hi' 0 ((i + 1 : Nat) : Int) = D
  generalize hE : (lo == hi') = E
  cases A
  · simp [ck_tt]
  cases B
  · simp [ck_tt]
  cases C
  · simp [ck_tt]
  cases D
  · simp [ck_tt]
  cases E
  · have hlo := inI_iff.1 hC
    have hhi := inI_iff.1 hD
    generalize hP : bef (f, t, lo, hi') (gtD ns (lo - 2)) = P
    generalize hQ : bef (f, t, lo, hi') (gtD ns (hi' - 2)) = Q
    have c1 : ∀ c : Int, 0 ≤ c → c ≤ ((i + 1 : Nat) : Int) → (!(decide (1 < c)) || i64B (c - 2)) = true := fun c h0 h1 => by rw [i64B_t (by omega) (by omega), Bool.or_true]
    have c2 : ∀ c : Int, 0 ≤ c → c ≤ ((i + 1 : Nat) : Int) → (!(decide (1 < c)) || inR (c - 2) ns.length) = true := fun c h0 h1 => by
      by_cases h : 1 < c
      · rw [inR_i (by omega) (by omega), Bool.or_true]
      · rw [decide_eq_false h]
        rfl
    have d1 : decide (lo < 2) = !decide (1 < lo) := dec_not (by omega)
    have d2 : decide (hi' < 2) = !decide (1 < hi') := dec_not (by omega)
    rw [d1, d2]
    have e1 := c1 lo hlo.1 hlo.2
    have e2 := c2 lo hlo.1 hlo.2
    have e3 := c1 hi' hhi.1 hhi.2
    have e4 := c2 hi' hhi.1 hhi.2
    generalize i64B (lo - 2) = z1 at *
    generalize i64B (hi' - 2) = z3 at *
    generalize inR (lo - 2) ns.length = z2 at *
    generalize inR (hi' - 2) ns.length = z4 at *
    generalize decide (1 < lo) = y1 at *
    generalize decide (1 < hi') = y2 at *
    clear c1 c2 d1 d2 hP hQ
    cases y1 <;> cases y2 <;> cases P <;> cases Q <;> cases fd <;> simp_all [ck_tt, exF, exM]
  · simp [ck_tt]
theorem isChild_eq {ns : List T_impl_DiagramNode} {b c : Int} {fu i : Nat} (hi : i < ns.length) (hn : ns.length ≤ 1048576) : M_impl_Diagram_isChild fu (b, ns) (i : Int) c = some (chB ns i c) := by
  unfold M_impl_Diagram_isChild chB
  rw [ck_t (i64B_t (by omega) (by omega)), within_eq, cl_true]
  cases h : inI c 0 ((i : Int) + 1)
  · rfl
  · have hc := inI_iff.1 h
    by_cases h2 : c < 2
    · rw [decide_eq_true h2]
      rfl
    · rw [decide_eq_false h2, ck_t (i64B_t (x := c - 2) (by omega) (by omega)), ck_t (inR_t (show i < (b, ns).2.length from hi)), ck_t (inR_i (i := c - 2) (n := (b, ns).2.length) (by omega) (by have : i < (b, ns).2.length := hi; omega))]
      unfold bef
      rw [BEq.comm (a := (gtD ns (i : Int)).1)]
      rfl
theorem impl_step {ns : List T_impl_DiagramNode} {b : Int} {fu i k : Nat} (hi : i < ns.length) (hn : ns.length ≤ 1048576) (hf : 1048577 ≤ fu) :
    M_impl_IsValidDiagram_L0 fu (b, ns) (k + 1) (i : Int) = bif badB ns i then some (.ret false) else M_impl_IsValidDiagram_L0 fu (b, ns) k ((i + 1 : Nat) : Int) := by
  rw [M_impl_IsValidDiagram_L0]
  have h1 : decide ((i : Int) < ((b, ns).2.length : Int)) = true := by simpa using hi
  have hs : subR 0 (i : Int) ns.length = true := subR_iff.2 ⟨by omega, by omega, by omega⟩
  rw [h1, cond_true, ck_t (inR_t (show i < (b, ns).2.length from hi)), ck_t (b := i64B ((i : Int) + 1)) (i64B_t (by omega) (by omega))]
  simp only [isFeature_eq, isThreshold_eq, impl_dup hi hn hf, isChild_eq hi hn, cl_if, bd_eq, hs, Bool.or_true, ck_tt]
  unfold badB
  rw [show ((i : Int) + 1) = ((i + 1 : Nat) : Int) from rfl]
  generalize inI (gtD ns (i : Int)).1 0 5 = A
  generalize inI (gtD ns (i : Int)).2.1 1 1000 = B
  generalize ((gtD ns (i : Int)).2.2.1 == (gtD ns (i : Int)).2.2.2) = C
  generalize dupB ns i = D
  generalize chB ns i (gtD ns (i : Int)).2.2.1 = E
  generalize chB ns i (gtD ns (i : Int)).2.2.2 = F
  cases A <;> cases B <;> cases C <;> cases D <;> cases E <;> cases F <;> rfl
def vdB (b : Int) (ns : List T_impl_DiagramNode) : Bool := (findB (badB ns) 0 ns.length).isNone && inI b 0 ((ns.length : Int) + 1) && decide ((ns.length : Int) ≤ 200)
theorem spec_vd {ns : List T_impl_DiagramNode} {b : Int} {fu : Nat} (hn : ns.length ≤ 1048576) (hf : 1048577 ≤ fu) : M_spec_IsValidDiagram fu (b, ns) = some (vdB b ns) := by
  have h := loop_find (L := M_spec_IsValidDiagram_L0 fu (b, ns)) (n := ns.length) (P := badB ns) (ret := fun _ => false) (fun k i hi => spec_step hi hn hf) (fun k => by
    rw [M_spec_IsValidDiagram_L0]
    simp) ns.length 0 fu (by omega) (by omega)
  unfold M_spec_IsValidDiagram vdB
  rw [show ((0 : Nat) : Int) = 0 from rfl] at h
  rw [h, cl_true]
  cases findB (badB ns) 0 ns.length with
  | some j => rfl
  | none =>
    dsimp only [exF]
    rw [exM_go']
    rw [ck_t (i64B_t (by show _ ≤ (ns.length : Int) + 1; omega) (by show (ns.length : Int) + 1 ≤ _; omega))]
    rfl
theorem impl_vd {ns : List T_impl_DiagramNode} {b : Int} {fu : Nat} (hn : ns.length ≤ 1048576) (hf : 1048577 ≤ fu) : M_impl_IsValidDiagram fu (b, ns) = some (vdB b ns) := by
  have h := loop_find (L := M_impl_IsValidDiagram_L0 fu (b, ns)) (n := ns.length) (P := badB ns) (ret := fun _ => false) (fun k i hi => impl_step hi hn hf) (fun k => by
    rw [M_impl_IsValidDiagram_L0]
    simp) ns.length 0 fu (by omega) (by omega)
  unfold M_impl_IsValidDiagram vdB
  rw [show ((0 : Nat) : Int) = 0 from rfl] at h
  rw [h, cl_true, within_eq, cl_if, bd_eq, ck_t (by rw [i64B_t (by show _ ≤ (ns.length : Int) + 1; omega) (by show (ns.length : Int) + 1 ≤ _; omega), Bool.or_true])]
  rw [show decide ((ns.length : Int) ≤ 200) = !decide ((200 : Int) < (ns.length : Int)) from dec_not (by omega)]
  generalize decide ((200 : Int) < ((b, ns).2.length : Int)) = z
  generalize inI b 0 ((ns.length : Int) + 1) = y
  cases findB (badB ns) 0 ns.length <;> cases z <;> cases y <;> rfl
theorem findB_none' {P : Nat → Bool} : ∀ {m i : Nat}, findB P i m = none → ∀ j, i ≤ j → j < i + m → P j = false
  | 0, i, h, j, h1, h2 => by omega
  | m + 1, i, h, j, h1, h2 => by
    unfold findB at h
    cases hp : P i
    · rw [hp] at h
      rcases Nat.lt_or_ge i j with hlt | hge
      · exact findB_none' (m := m) h j (by omega) (by omega)
      · obtain rfl : j = i := by omega
        exact hp
    · rw [hp] at h
      cases h
end Go.Proofs.YtjdnomcpepbdaaaDoor

