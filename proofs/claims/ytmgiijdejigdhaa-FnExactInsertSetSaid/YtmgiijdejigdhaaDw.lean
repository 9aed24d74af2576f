/- The words that a printed proof uses where memory of the call's own is made or written. No statement of the seat is proved here. -/
import Derived.Test.YtmgiijdejigdhaaDs
namespace Go.Proofs.Ytmgiijdejigdhaa
open Go.RowKit
set_option linter.unusedVariables false

section
variable {P : Program} {ini : List Ob} {l : List EntR} {A : Av} {R : Reg} {w : World} {i : Nat} {x : EntR}
theorem OblsR.nil : OblsR P ini l A R w i [] := trivial
theorem OblsR.cons {r : List EntR} (h : OblR P ini l A R w i x) (t : OblsR P ini l A R w (i + 1) r) : OblsR P ini l A R w i (x :: r) := ⟨h, t⟩
/-- what an operation may rest on -/
structure Onto (ini : List Ob) (l : List EntR) (A : Av) (R : Reg) (w : World) (i : Nat) (A' : Av) (R' : Reg) (w' : World) : Prop where
  ch : Ch (isIni ini) w w'
  stp : Stp A A' w w'
  av : AvOK A' w'
  old : ∀ t, okReadR l i t = true → R' t = R t
  rd : ∀ (id : Nat) p, ini[id]? = some p → readOK l i id = true → p.r.ok A' p.u w'
  rdo : ∀ (id : Nat) p, ini[id]? = some p → readOK l i id = true → p.r.own A' p.u p.S w'
  low : ∀ b o, A b o → ¬ isIni ini b → A' b o
theorem Onto.low' {A' : Av} {R' : Reg} {w' : World} (h : Onto ini l A R w i A' R' w') {A0 : Av} {B : Nat} (h0 : ∀ b o, A0 b o → A b o) (hB : ∀ b o, A0 b o → b < B) (hge : ∀ k, isIni ini k → B ≤ k) : ∀ b o, A0 b o → A' b o :=
  fun b o hb => h.low b o (h0 b o hb) fun hi => by have := hge b hi; have := hB b o hb; omega
theorem Onto.lowK {A' : Av} {R' : Reg} {w' : World} (h : Onto ini l A R w i A' R' w') {A0 : Av} {B : Nat} {K : Nat → Prop} (h0 : ∀ b o, A0 b o → A b o) (hB : ∀ b o, A0 b o → b < B) (hN : ∀ b o, A0 b o → ¬ K b) (hge : ∀ k, isIni ini k → B ≤ k ∨ K k) : ∀ b o, A0 b o → A' b o :=
  fun b o hb => h.low b o (h0 b o hb) fun hi => (hge b hi).elim (fun h => by have := hB b o hb; omega) (hN b o hb)
theorem OblR.plain (hg : x.o.guard = none) (hx : x.g = true) (hc : x.con = []) (hr : x.res = none)
    (h : ∀ A' R' w', Onto ini l A R w i A' R' w' → DepsR l A' R' w' x.o.after.toList → OpR P x.o R' w' fun v w'' => (x.f A').ok v w'' ∧ Fr w' w'') : OblR P ini l A R w i x :=
  ⟨by unfold GuardR; rw [hg]; exact hx, fun _ A' R' w' h1 h2 h3 h4 h5 h6 h7 => by rw [hc, hr]; exact h A' R' w' ⟨h1, h2, h3, h4, fun id p hp hr => (h6 id p hp hr).1, fun id p hp hr => (h6 id p hp hr).2, h7⟩ h5⟩
theorem OblR.grd (j : Nat) (want : Bool) (y : EntR) (c : Bool) (d : Nat) (hg : x.o.guard = some (j, want)) (hc : x.con = []) (hr : x.res = none) (hy : l[j]? = some y) (hyd : y.o.dst = some d) (hyf : ∀ A, y.f A = .raw (.bool c)) (hx : x.g = (y.g && (c == want)))
    (ha : x.o.after.toList.any (fun e => bnd e && Nat.beq e.on j) = true)
    (h : x.g = true → ∀ A' R' w', Onto ini l A R w i A' R' w' → DepsR l A' R' w' x.o.after.toList → OpR P x.o R' w' fun v w'' => (x.f A').ok v w'' ∧ Fr w' w'') : OblR P ini l A R w i x :=
  ⟨by unfold GuardR; rw [hg]; exact ⟨hc, hr, y, c, d, hy, hyd, hyf, hx, ha⟩, fun hgt A' R' w' h1 h2 h3 h4 h5 h6 h7 => by rw [hc, hr]; exact h hgt A' R' w' ⟨h1, h2, h3, h4, fun id p hp hr => (h6 id p hp hr).1, fun id p hp hr => (h6 id p hp hr).2, h7⟩ h5⟩
theorem OpR.made {o : Oper} {f : Av → Fact} {r : Res} (h : OpR P o R w (Made A r f w)) (hB : r.isB = true) : OpR P o R w (MadeS A r f w) := h.mono fun v w' h => h.toS hB
theorem OpR.took {o : Oper} {f : Av → Fact} {r : Res} {u : Value} {lk : Bool} (h : OpR P o R w (Took A lk u r f w)) (hB : r.isB = true) : OpR P o R w (TookS A lk u (ownsB u) r f w) := h.mono fun v w' h => h.toS hB
theorem OblR.madeS (r : Res) (hg : x.o.guard = none) (hx : x.g = true) (hc : x.con = []) (hr : x.res = some r)
    (h : ∀ A' R' w', Onto ini l A R w i A' R' w' → DepsR l A' R' w' x.o.after.toList → OpR P x.o R' w' (MadeS A' r x.f w')) : OblR P ini l A R w i x :=
  ⟨by unfold GuardR; rw [hg]; exact hx, fun _ A' R' w' h1 h2 h3 h4 h5 h6 h7 => by rw [hc, hr]; exact h A' R' w' ⟨h1, h2, h3, h4, fun id p hp hr => (h6 id p hp hr).1, fun id p hp hr => (h6 id p hp hr).2, h7⟩ h5⟩
theorem OblR.made (r : Res) (hg : x.o.guard = none) (hx : x.g = true) (hc : x.con = []) (hr : x.res = some r)
    (h : ∀ A' R' w', Onto ini l A R w i A' R' w' → DepsR l A' R' w' x.o.after.toList → OpR P x.o R' w' (Made A' r x.f w')) (hB : r.isB = true := by rfl) : OblR P ini l A R w i x :=
  OblR.madeS r hg hx hc hr fun A' R' w' h1 h2 => (h A' R' w' h1 h2).made hB
/-- several objects taken at once -/
theorem OblR.tookMN (c : Nat) (cs : List Nat) (r : Res) (hg : x.o.guard = none) (hx : x.g = true) (hc : x.con = c :: cs) (hr : x.res = some r)
    (h : ∀ A' R' w', Onto ini l A R w i A' R' w' → DepsR l A' R' w' x.o.after.toList → ∀ (ρ : Nat → Value) (σ : Nat → Nat → Prop), (∀ d, d ∈ c :: cs → ∀ rc, resAt ini l d = some rc → rc.ok A' (ρ d) w' ∧ rc.own A' (ρ d) (σ d) w') → (∀ d, d ∈ c :: cs → ∀ k, σ d k → ∀ o, A' k o) → (∀ d, d ∈ c :: cs → ∀ p, ini[d]? = some p → ρ d = p.u ∧ σ d = p.S) →
        (∀ d, d ∈ c :: cs → ∀ y t, ini[d]? = none → l[d - ini.length]? = some y → y.lk = true → y.o.dst = some t → ρ d = R' t) → (∀ d, d ∈ c :: cs → ∀ (id : Nat) p, ini[id]? = some p → id ≠ d → readOK l i id = true → ∀ k, σ d k → ¬ p.S k) → (∀ d d', d ∈ c :: cs → d' ∈ c :: cs → d ≠ d' → ∀ k, σ d k → ¬ σ d' k) → (∀ d, d ∈ c :: cs → ∀ (n r : Nat) p, rootOf ini l n d = some r → ini[r]? = some p → ρ d = p.u) →
        OpR P x.o R' w' (TookS A' x.lk (ρ c) (fun k => ∃ d, d ∈ c :: cs ∧ σ d k) r x.f w')) : OblR P ini l A R w i x :=
  ⟨by unfold GuardR; rw [hg]; exact hx, fun _ A' R' w' h1 h2 h3 h4 h5 h6 h7 => by
    rw [hc, hr]
    exact h A' R' w' ⟨h1, h2, h3, h4, fun id p hp hr => (h6 id p hp hr).1, fun id p hp hr => (h6 id p hp hr).2, h7⟩ h5⟩
theorem OblR.tookM (c : Nat) (cs : List Nat) (r : Res) (hg : x.o.guard = none) (hx : x.g = true) (hc : x.con = c :: cs) (hr : x.res = some r)
    (h : ∀ A' R' w', Onto ini l A R w i A' R' w' → DepsR l A' R' w' x.o.after.toList → ∀ (ρ : Nat → Value) (σ : Nat → Nat → Prop), (∀ d, d ∈ c :: cs → ∀ rc, resAt ini l d = some rc → rc.ok A' (ρ d) w' ∧ rc.own A' (ρ d) (σ d) w') → (∀ d, d ∈ c :: cs → ∀ k, σ d k → ∀ o, A' k o) → (∀ d, d ∈ c :: cs → ∀ p, ini[d]? = some p → ρ d = p.u ∧ σ d = p.S) →
        (∀ d, d ∈ c :: cs → ∀ y t, ini[d]? = none → l[d - ini.length]? = some y → y.lk = true → y.o.dst = some t → ρ d = R' t) → (∀ d, d ∈ c :: cs → ∀ (id : Nat) p, ini[id]? = some p → id ≠ d → readOK l i id = true → ∀ k, σ d k → ¬ p.S k) → (∀ d d', d ∈ c :: cs → d' ∈ c :: cs → d ≠ d' → ∀ k, σ d k → ¬ σ d' k) →
        OpR P x.o R' w' (TookS A' x.lk (ρ c) (fun k => ∃ d, d ∈ c :: cs ∧ σ d k) r x.f w')) : OblR P ini l A R w i x :=
  OblR.tookMN c cs r hg hx hc hr fun A' R' w' h1 h2 ρ σ a1 a2 a3 a4 a5 a6 _ => h A' R' w' h1 h2 ρ σ a1 a2 a3 a4 a5 a6
theorem OblR.tookS (c : Nat) (r rc : Res) (hg : x.o.guard = none) (hx : x.g = true) (hc : x.con = [c]) (hr : x.res = some r) (hrc : resAt ini l c = some rc)
    (h : ∀ A' R' w', Onto ini l A R w i A' R' w' → DepsR l A' R' w' x.o.after.toList → ∀ u S, rc.ok A' u w' → rc.own A' u S w' → (∀ k, S k → ∀ o, A' k o) → (∀ p, ini[c]? = some p → u = p.u ∧ S = p.S) → (∀ y d, ini[c]? = none → l[c - ini.length]? = some y → y.lk = true → y.o.dst = some d → u = R' d) → (∀ (id : Nat) p, ini[id]? = some p → id ≠ c → readOK l i id = true → ∀ k, S k → ¬ p.S k) →
      OpR P x.o R' w' (TookS A' x.lk u S r x.f w')) : OblR P ini l A R w i x :=
  OblR.tookM c [] r hg hx hc hr fun A' R' w' h1 h2 ρ σ hok hav hi ho hds _ => by
    have hm : c ∈ [c] := List.mem_singleton.2 rfl
    have hset : (fun k => ∃ d, d ∈ [c] ∧ σ d k) = σ c := by
      funext k
      rw [eq_iff_iff]
      exact ⟨fun ⟨d, hd, h⟩ => (List.mem_singleton.1 hd) ▸ h, fun h => ⟨c, hm, h⟩⟩
    rw [hset]
    exact h A' R' w' h1 h2 (ρ c) (σ c) (hok c hm rc hrc).1 (hok c hm rc hrc).2 (hav c hm) (hi c hm) (fun y d => ho c hm y d) (hds c hm)
theorem OblR.took (c : Nat) (r rc : Res) (hg : x.o.guard = none) (hx : x.g = true) (hc : x.con = [c]) (hr : x.res = some r) (hrc : resAt ini l c = some rc)
    (h : ∀ A' R' w', Onto ini l A R w i A' R' w' → DepsR l A' R' w' x.o.after.toList → ∀ u, rc.ok A' u w' → (∀ k, ownsB u k → ∀ o, A' k o) → (∀ p, ini[c]? = some p → u = p.u) → (∀ y d, ini[c]? = none → l[c - ini.length]? = some y → y.lk = true → y.o.dst = some d → u = R' d) → (∀ (id : Nat) p, ini[id]? = some p → id ≠ c → readOK l i id = true → ∀ k, ownsB u k → ¬ p.S k) →
      OpR P x.o R' w' (Took A' x.lk u r x.f w')) (hB : rc.isB = true := by rfl) (hB' : r.isB = true := by rfl) : OblR P ini l A R w i x :=
  OblR.tookS c r rc hg hx hc hr hrc fun A' R' w' h1 h2 u S hok hown hav hi ho hds => by
    obtain rfl := (Res.own_iff hB).1 hown
    exact (h A' R' w' h1 h2 u hok hav (fun p hp => (hi p hp).1) ho hds).took hB'

/-- a row that becomes a plain list -/
theorem OblR.frz (c : Nat) (rc : Res) (hg : x.o.guard = none) (hx : x.g = true) (hc : x.con = [c]) (hr : x.res = some .nul) (hrc : resAt ini l c = some rc)
    (h : ∀ A' R' w', Onto ini l A R w i A' R' w' → DepsR l A' R' w' x.o.after.toList → ∀ u, rc.ok A' u w' → (∀ k, ownsB u k → ∀ o, A' k o) → (∀ p, ini[c]? = some p → u = p.u) → (∀ y d, ini[c]? = none → l[c - ini.length]? = some y → y.lk = true → y.o.dst = some d → u = R' d) → (∀ (id : Nat) p, ini[id]? = some p → id ≠ c → readOK l i id = true → ∀ k, ownsB u k → ¬ p.S k) →
      OpR P x.o R' w' (TookS A' x.lk u (ownsB u) .nul x.f w')) (hB : rc.isB = true := by rfl) : OblR P ini l A R w i x :=
  OblR.tookS c .nul rc hg hx hc hr hrc fun A' R' w' h1 h2 u S hok hown hav hi ho hds => by
    obtain rfl := (Res.own_iff hB).1 hown
    exact h A' R' w' h1 h2 u hok hav (fun p hp => (hi p hp).1) ho hds

/-! which lists of operations are in order -/
theorem ust_any : UStab fun _ => .any := fun _ _ _ _ _ _ _ => trivial
theorem ust_raw {u : Value} : UStab fun _ => .raw u := fun _ _ _ _ _ _ h => h
theorem ust_rep {α : Type} {E : Enc α} {y : α} : UStab fun A => .rep E A y := fun _ _ _ _ _ hs h => Rep.stp h hs
theorem ust_qtr {α : Type} {E : Enc α} {y : α} : UStab fun A => .qtr E A y := fun _ _ _ _ _ hs h => QRep.stp h hs
theorem ust_tup2 {f g : Av → Fact} (hf : UStab f) (hg : UStab g) : UStab fun A => .tup2 (f A) (g A) := fun _ _ _ _ _ hs ⟨a, b, h1, h2, h3⟩ => ⟨a, b, h1, hf _ _ _ _ _ hs h2, hg _ _ _ _ _ hs h3⟩
def UAll : List EntR → Prop
  | [] => True
  | x :: r => UStab x.f ∧ UAll r
theorem UAll.nil : UAll [] := trivial
theorem UAll.cons {r : List EntR} (h : UStab x.f) (t : UAll r) : UAll (x :: r) := ⟨h, t⟩
theorem UAll.at : ∀ (l : List EntR), UAll l → ∀ (i : Nat) x, l[i]? = some x → UStab x.f
  | [], _, i, x, h => by simp at h
  | y :: l, h, 0, x, hx => by simp at hx; subst hx; exact h.1
  | y :: l, h, i + 1, x, hx => UAll.at l h.2 i x (by simpa using hx)
def conB1 (m : Nat) (l : List EntR) (y : EntR) (c : Nat) : Bool := Nat.blt c m || (match l[c - m]? with
      | some z => z.res.isSome && y.o.after.toList.any (fun e => bnd e && Nat.beq e.on (c - m))
      | none => false)
def conB (m : Nat) (l : List EntR) (y : EntR) : Bool := match y.con with
  | [] => !y.res.isSome || y.lk
  | c :: cs => y.o.guard.isNone && y.res.isSome && (c :: cs).all (conB1 m l y)
def onceB : List EntR → Bool
  | [] => true
  | y :: r => y.con.all (fun c => r.all (fun z => z.con.all fun c' => !Nat.beq c' c)) && onceB r
theorem onceB_spec : ∀ (l : List EntR), onceB l = true → ∀ (j j' : Nat) y y' c, l[j]? = some y → l[j']? = some y' → c ∈ y.con → c ∈ y'.con → j = j'
  | [], _, j, _, y, _, _, h, _, _, _ => by simp at h
  | z :: l, h, j, j', y, y', c, hy, hy', hc, hc' => by
    simp only [onceB, Bool.and_eq_true] at h
    have key : ∀ (k : Nat) (v : EntR), l[k]? = some v → c ∈ v.con → c ∈ z.con → False := fun k v hv hvc hz => by
      have h1 := List.all_eq_true.1 (List.all_eq_true.1 (List.all_eq_true.1 h.1 c hz) v (List.mem_of_getElem? hv)) c hvc
      simp at h1
    cases j with
    | zero =>
      cases j' with
      | zero => rfl
      | succ j' =>
        simp at hy hy'
        subst hy
        exact (key j' y' hy' hc' hc).elim
    | succ j =>
      cases j' with
      | zero =>
        simp at hy hy'
        subst hy'
        exact (key j y hy hc hc').elim
      | succ j' =>
        simp at hy hy'
        rw [onceB_spec l h.2 j j' y y' c hy hy' hc hc']
theorem Wf.mk' (hd : distinctR l = true) (hu : UAll l) (hc : l.all (conB ini.length l) = true) (ho : onceB l = true) : Wf ini l := by
  have hc' : ∀ (j : Nat) y, l[j]? = some y → conB ini.length l y = true := fun j y hy => List.all_eq_true.1 hc y (List.mem_of_getElem? hy)
  refine ⟨hd, UAll.at l hu, fun j y c hj hy => ?_, onceB_spec l ho, fun j y hj hn hr => ?_⟩
  · have h := hc' j y hj
    unfold conB at h
    split at h
    · rename_i hy'
      rw [hy'] at hy
      cases hy
    · rename_i c0 cs hy'
      rw [hy'] at hy
      rw [Bool.and_eq_true, Bool.and_eq_true] at h
      obtain ⟨⟨h1, h2⟩, h3⟩ := h
      have h3 := List.all_eq_true.1 h3 c hy
      unfold conB1 at h3
      rw [Bool.or_eq_true] at h3
      refine ⟨by simpa using h1, ?_, ?_⟩
      · rcases h3 with h3 | h3
        · have hlt : c < ini.length := by simpa using h3
          obtain ⟨p, _, hp⟩ := resAt_ini (l := l) hlt
          exact ⟨_, hp⟩
        · by_cases hlt : c < ini.length
          · obtain ⟨p, _, hp⟩ := resAt_ini (l := l) hlt
            exact ⟨_, hp⟩
          · split at h3
            · rename_i z hz
              rw [Bool.and_eq_true] at h3
              obtain ⟨r, hr⟩ := Option.isSome_iff_exists.1 h3.1
              refine ⟨r, ?_⟩
              unfold resAt
              rw [List.getElem?_eq_none (by omega)]
              simp only [hz]
              exact hr
            · cases h3
      · rcases h3 with h3 | h3
        · left; simpa using h3
        · right
          split at h3
          · rw [Bool.and_eq_true] at h3
            simp only [List.any_eq_true, Bool.and_eq_true] at h3
            obtain ⟨_, e, he, hb, hon⟩ := h3
            exact ⟨e, Array.mem_toList_iff.1 he, hb, Nat.eq_of_beq_eq_true hon⟩
          · cases h3
  · have h := hc' j y hj
    unfold conB at h
    rw [hn] at h
    obtain ⟨r, hr'⟩ := Option.ne_none_iff_exists'.1 hr
    rw [hr'] at h
    simpa using h

/-! what a region leaves -/
def notCon (l : List EntR) (id : Nat) : Bool := l.all fun y => y.con.all fun c => !Nat.beq c id
variable {done : Nat → Bool} {ρ : Nat → Value} {σ : Nat → Nat → Prop} {A' : Av} {R' : Reg} {w' : World}
theorem InvR.reg (hI : InvR ini l A R w done ρ σ A' R' w') {t : Nat} (h : notDstR l t = true) : R' t = R t := hI.old t fun i x hx hy => by
  simp only [notDstR, List.all_eq_true] at h
  have := h x (List.mem_of_getElem? hx)
  rw [hy] at this
  cases this
theorem InvR.fact (hI : InvR ini l A R w done ρ σ A' R' w') (hd : ∀ i, i < l.length → done i = true) {i : Nat} {x : EntR} {d : Nat} (hx : l[i]? = some x) (hxd : x.o.dst = some d) (hg : x.g = true) : (x.f A').ok (R' d) w' :=
  hI.yes i x d hx (hd i (List.getElem?_eq_some_iff.1 hx).1) hxd hg
theorem InvR.live (hd : ∀ i, i < l.length → done i = true) {id : Nat} {r : Res} (h : resAt ini l id = some r) (hn : notCon l id = true) : Live ini l done id := by
  refine ⟨?_, fun j y hj hy => ?_⟩
  · by_cases hlt : id < ini.length
    · exact .inl hlt
    · right
      unfold resAt at h
      rw [List.getElem?_eq_none (by omega)] at h
      simp only [] at h
      cases hl : l[id - ini.length]? with
      | none => rw [hl] at h; cases h
      | some x => exact hd _ (List.getElem?_eq_some_iff.1 hl).1
  · simp only [notCon, List.all_eq_true] at hn
    have := hn y (List.mem_of_getElem? hj) id hy
    simp at this
theorem InvR.low' (hI : InvR ini l A R w done ρ σ A' R' w') {A0 : Av} {B : Nat} (h0 : ∀ b o, A0 b o → A b o) (hB : ∀ b o, A0 b o → b < B) (hge : ∀ k, isIni ini k → B ≤ k) : ∀ b o, A0 b o → A' b o :=
  fun b o h => hI.low b o (h0 b o h) fun hi => by have := hge b hi; have := hB b o h; omega
theorem InvR.lowK (hI : InvR ini l A R w done ρ σ A' R' w') {A0 : Av} {B : Nat} {K : Nat → Prop} (h0 : ∀ b o, A0 b o → A b o) (hB : ∀ b o, A0 b o → b < B) (hN : ∀ b o, A0 b o → ¬ K b) (hge : ∀ k, isIni ini k → B ≤ k ∨ K k) : ∀ b o, A0 b o → A' b o :=
  fun b o hb => hI.low b o (h0 b o hb) fun hi => (hge b hi).elim (fun h => by have := hB b o hb; omega) (hN b o hb)
theorem InvR.opvR (hI : InvR ini l A R w done ρ σ A' R' w') (hd : ∀ i, i < l.length → done i = true) {x : EntR} {d : Nat} (id i : Nat) (hx : l[i]? = some x) (hid : id = ini.length + i) (hr : x.res.isSome = true) (hk : x.lk = true) (hxd : x.o.dst = some d) : ρ id = R' d := by
  subst hid
  exact hI.opv i x d hx (hd i (List.getElem?_eq_some_iff.1 hx).1) (by intro e; rw [e] at hr; cases hr) hk hxd
theorem InvR.opnR (hI : InvR ini l A R w done ρ σ A' R' w') (hd : ∀ i, i < l.length → done i = true) {x : EntR} {c : Nat} (id i : Nat) (hx : l[i]? = some x) (hid : id = ini.length + i) (hr : x.res.isSome = true) (hk : x.lk = false) (hc : x.con.head? = some c) : ρ id = ρ c := by
  subst hid
  exact hI.opn i x c hx (hd i (List.getElem?_eq_some_iff.1 hx).1) (by intro e; rw [e] at hr; cases hr) hk hc
theorem InvR.inivR (hI : InvR ini l A R w done ρ σ A' R' w') {u : Value} {r : Res} (id : Nat) {S : Nat → Prop} (h : ini[id]? = some ⟨u, S, r⟩) : ρ id = u := (hI.iniv id _ h).1
theorem InvR.inisR (hI : InvR ini l A R w done ρ σ A' R' w') {u : Value} {r : Res} (id : Nat) {S : Nat → Prop} (h : ini[id]? = some ⟨u, S, r⟩) : σ id = S := (hI.iniv id _ h).2
theorem allne {β : Type 1} {rest : List (Nat × β)} {i : Nat} (h : rest.all (fun q => !Nat.beq q.1 i) = true) {q : Nat × β} (hq : q ∈ rest) : q.1 ≠ i := by
  simp only [List.all_eq_true] at h
  have := h q hq
  intro e
  rw [e] at this
  simp at this
theorem InvR.boxv (hI : InvR ini l A R w done ρ σ A' R' w') (hd : ∀ i, i < l.length → done i = true) {α : Type} {B : Nat} {T : TypeId} {E : Enc α} {y : α} (id : Nat) (h : resAt ini l id = some (.box B T E y)) (hn : notCon l id = true) : ∃ b, ρ id = .pointer (some ⟨b, 0, none⟩) := by
  obtain ⟨⟨b, hb, _⟩, _⟩ := hI.own id _ h (InvR.live hd h hn)
  exact ⟨b, hb⟩
/-- where an object's blocks lie -/
theorem InvR.geK (hI : InvR ini l A R w done ρ σ A' R' w') (hd : ∀ i, i < l.length → done i = true) {u : Value} {r : Res} (id : Nat) (h : resAt ini l id = some r) (hn : notCon l id = true) (hB : r.isB = true) (e : ρ id = u) {B : Nat} {K : Nat → Prop} (hge : ∀ k, isIni ini k → B ≤ k ∨ K k) (hw : B ≤ w.heap.size) : ∀ k, ownsB u k → B ≤ k ∨ K k := fun k hk => by
  have hl := InvR.live hd h hn
  have h1 := (Res.own_iff hB).1 (hI.own _ _ h hl).2
  rcases Nat.lt_or_ge k w.heap.size with h2 | h2
  · refine hge k (hI.was _ _ h hl k h2 ?_)
    rw [h1, e]
    exact hk
  · exact .inl (Nat.le_trans hw h2)
/-- the objects that are left, chosen by their ids -/
def Left (ini : List Ob) (l : List EntR) (ρ : Nat → Value) (σ : Nat → Nat → Prop) : List (Nat × Ob) → Prop
  | [] => True
  | (id, p) :: rest => resAt ini l id = some p.r ∧ notCon l id = true ∧ ρ id = p.u ∧ (match p.r.isB with | true => p.S = ownsB p.u | false => σ id = p.S) ∧ rest.all (fun q => !Nat.beq q.1 id) = true ∧ Left ini l ρ σ rest
theorem Left.at : ∀ (L : List (Nat × Ob)), Left ini l ρ σ L → ∀ (i : Nat) q, L[i]? = some q → resAt ini l q.1 = some q.2.r ∧ notCon l q.1 = true ∧ ρ q.1 = q.2.u ∧ (match q.2.r.isB with | true => q.2.S = ownsB q.2.u | false => σ q.1 = q.2.S)
  | [], _, i, q, h => by simp at h
  | (id, p) :: L, h, 0, q, hq => by simp at hq; subst hq; exact ⟨h.1, h.2.1, h.2.2.1, h.2.2.2.1⟩
  | (id, p) :: L, h, i + 1, q, hq => Left.at L h.2.2.2.2.2 i q (by simpa using hq)
theorem Left.ne : ∀ (L : List (Nat × Ob)), Left ini l ρ σ L → ∀ (i j : Nat) p q, L[i]? = some p → L[j]? = some q → i ≠ j → p.1 ≠ q.1
  | [], _, i, _, p, _, h, _, _ => by simp at h
  | (id, r) :: L, h, i, j, p, q, hp, hq, hne => by
    cases i with
    | zero =>
      cases j with
      | zero => exact absurd rfl hne
      | succ j =>
        simp at hp hq
        subst hp
        exact (allne h.2.2.2.2.1 (List.mem_of_getElem? hq)).symm
    | succ i =>
      cases j with
      | zero =>
        simp at hp hq
        subst hq
        exact allne h.2.2.2.2.1 (List.mem_of_getElem? hp)
      | succ j =>
        simp at hp hq
        exact Left.ne L h.2.2.2.2.2 i j p q hp hq (by omega)
theorem InvR.left (hI : InvR ini l A R w done ρ σ A' R' w') (hd : ∀ i, i < l.length → done i = true) (L : List (Nat × Ob)) (h : Left ini l ρ σ L) : IniOK (L.map (·.2)) A' w' := by
  have hat : ∀ (i : Nat) p, (L.map (·.2))[i]? = some p → ∃ q, L[i]? = some q ∧ q.2 = p := fun i p hp => by
    rw [List.getElem?_map] at hp
    cases hl : L[i]? with
    | none => rw [hl] at hp; cases hp
    | some q => rw [hl] at hp; injection hp with hp; exact ⟨q, rfl, hp⟩
  have hset : ∀ (i : Nat) q, L[i]? = some q → σ q.1 = q.2.S := fun i q hq => by
    obtain ⟨h1, h2, h3, h4⟩ := Left.at L h i q hq
    have h5 := (hI.own _ _ h1 (InvR.live hd h1 h2)).2
    cases hb : q.2.r.isB with
    | true =>
      rw [hb] at h4
      rw [(Res.own_iff hb).1 h5, h3]
      exact h4.symm
    | false =>
      rw [hb] at h4
      exact h4
  refine ⟨fun i p hp => ?_, fun i p hp => ?_, fun i j p q hp hq hne k hk hk' => ?_⟩
  · obtain ⟨q, hq, rfl⟩ := hat i p hp
    obtain ⟨h1, h2, h3, _⟩ := Left.at L h i q hq
    have hl := InvR.live hd h1 h2
    have h4 := (hI.own _ _ h1 hl).1
    have h5 := hI.av _ _ h1 hl
    rw [h3] at h4
    rw [hset i q hq] at h5
    exact ⟨h4, h5⟩
  · obtain ⟨q, hq, rfl⟩ := hat i p hp
    obtain ⟨h1, h2, h3, _⟩ := Left.at L h i q hq
    have h4 := (hI.own _ _ h1 (InvR.live hd h1 h2)).2
    rw [h3, hset i q hq] at h4
    exact h4
  · obtain ⟨p', hp', rfl⟩ := hat i p hp
    obtain ⟨q', hq', rfl⟩ := hat j q hq
    obtain ⟨h1, h2, _⟩ := Left.at L h i p' hp'
    obtain ⟨h4, h5, _⟩ := Left.at L h j q' hq'
    rw [← hset i p' hp'] at hk
    rw [← hset j q' hq'] at hk'
    exact hI.dis _ _ _ _ h1 h4 (InvR.live hd h1 h2) (InvR.live hd h4 h5) (Left.ne L h i j p' q' hp' hq' hne) k hk hk'
end

/-! the objects of the call's own -/
section
variable {ini : List Ob} {A : Av} {w w' : World}
theorem IniOK.nil : IniOK [] A w := ⟨fun i p h => by simp at h, fun i p h => by simp at h, fun i j p q h => by simp at h⟩
theorem IniOK.fr (h : IniOK ini A w) (hf : Fr w w') : IniOK ini A w' :=
  have key := fun (i : Nat) p (hp : ini[i]? = some p) => Res.stabS (h.ok i p hp).1 (h.own i p hp) (fun k hk => hf.block k (Res.ltS (h.ok i p hp).1 (h.own i p hp) hk)) (hf.stp A)
  ⟨fun i p hp => ⟨(key i p hp).1, (h.ok i p hp).2⟩, fun i p hp => (key i p hp).2, h.dis⟩
/-- fewer objects, or in another order -/
def Among (ini : List Ob) : List (Nat × Ob) → Prop
  | [] => True
  | (i, p) :: rest => ini[i]? = some p ∧ rest.all (fun q => !Nat.beq q.1 i) = true ∧ Among ini rest
theorem Among.at : ∀ (L : List (Nat × Ob)), Among ini L → ∀ (i : Nat) q, L[i]? = some q → ini[q.1]? = some q.2
  | [], _, i, q, h => by simp at h
  | (id, p) :: L, h, 0, q, hq => by simp at hq; subst hq; exact h.1
  | (id, p) :: L, h, i + 1, q, hq => Among.at L h.2.2 i q (by simpa using hq)
theorem Among.ne : ∀ (L : List (Nat × Ob)), Among ini L → ∀ (i j : Nat) p q, L[i]? = some p → L[j]? = some q → i ≠ j → p.1 ≠ q.1
  | [], _, i, _, p, _, h, _, _ => by simp at h
  | (id, u) :: L, h, i, j, p, q, hp, hq, hne => by
    cases i with
    | zero =>
      cases j with
      | zero => exact absurd rfl hne
      | succ j =>
        simp at hp hq
        subst hp
        exact (allne h.2.1 (List.mem_of_getElem? hq)).symm
    | succ i =>
      cases j with
      | zero =>
        simp at hp hq
        subst hq
        exact allne h.2.1 (List.mem_of_getElem? hp)
      | succ j =>
        simp at hp hq
        exact Among.ne L h.2.2 i j p q hp hq (by omega)
theorem IniOK.sub (h : IniOK ini A w) (L : List (Nat × Ob)) (hL : Among ini L) : IniOK (L.map (·.2)) A w := by
  have hat : ∀ (i : Nat) p, (L.map (·.2))[i]? = some p → ∃ q, L[i]? = some q ∧ q.2 = p := fun i p hp => by
    rw [List.getElem?_map] at hp
    cases hl : L[i]? with
    | none => rw [hl] at hp; cases hp
    | some q => rw [hl] at hp; injection hp with hp; exact ⟨q, rfl, hp⟩
  refine ⟨fun i p hp => ?_, fun i p hp => ?_, fun i j p q hp hq hne k hk hk' => ?_⟩
  · obtain ⟨q, hq, rfl⟩ := hat i p hp
    exact h.ok _ _ (Among.at L hL i q hq)
  · obtain ⟨q, hq, rfl⟩ := hat i p hp
    exact h.own _ _ (Among.at L hL i q hq)
  · obtain ⟨p', hp', rfl⟩ := hat i p hp
    obtain ⟨q', hq', rfl⟩ := hat j q hq
    exact h.dis _ _ _ _ (Among.at L hL i p' hp') (Among.at L hL j q' hq') (Among.ne L hL i j p' q' hp' hq' hne) k hk hk'
def Res.base : Res → Nat
  | .box B .. => B
  | .vec B .. => B
  | .gen _ _ => 0
  | .nul => 0
theorem Res.geB {r : Res} {u : Value} (h : r.ok A u w) (hB : r.isB = true) {k : Nat} (hk : ownsB u k) : r.base ≤ k := by
  cases r with
  | gen B p => cases hB
  | nul => cases hB
  | box B T E x =>
    obtain ⟨b, rfl, hB, _⟩ := h
    have : b = k := hk
    subst this
    exact hB
  | vec B T E xs =>
    obtain ⟨cs, ⟨_, h⟩, _⟩ := h
    rcases h with ⟨rfl, _⟩ | ⟨b, c, cur, rfl, hB, _⟩
    · exact hk.elim
    · have : b = k := hk
      subst this
      exact hB
theorem Res.geS {r : Res} {u : Value} {S : Nat → Prop} (h : r.ok A u w) (ho : r.own A u S w) {k : Nat} (hk : S k) : r.base ≤ k := by
  cases r with
  | gen B p => exact Nat.zero_le _
  | nul => exact Nat.zero_le _
  | box B T E x => obtain rfl := ho; exact Res.geB h rfl hk
  | vec B T E xs => obtain rfl := ho; exact Res.geB h rfl hk
/-- all objects lie from block B on -/
def Res.frB (r : Res) (B : Nat) : Prop := match r with
  | .gen K _ => ∀ k, K k → B ≤ k
  | r => r.base = B
theorem Res.frB_ge {r : Res} {B : Nat} {u : Value} {S : Nat → Prop} (h : r.ok A u w) (ho : r.own A u S w) (hB : r.frB B) {k : Nat} (hk : S k) : B ≤ k := by
  cases r with
  | gen K p => exact hB k (ho.1 k hk)
  | nul => obtain rfl := ho; exact hk.elim
  | box B' T E x => exact (show B' = B from hB) ▸ Res.geS h ho hk
  | vec B' T E x => exact (show B' = B from hB) ▸ Res.geS h ho hk
def allFrom (B : Nat) : List Ob → Prop
  | [] => True
  | p :: r => p.r.frB B ∧ allFrom B r
theorem allFrom.at {B : Nat} : ∀ (ini : List Ob), allFrom B ini → ∀ (i : Nat) p, ini[i]? = some p → p.r.frB B
  | [], _, i, p, h => by simp at h
  | q :: L, h, 0, p, hp => by simp at hp; subst hp; exact h.1
  | q :: L, h, i + 1, p, hp => allFrom.at L h.2 i p (by simpa using hp)
theorem IniOK.ge {B : Nat} (h : IniOK ini A w) (hB : allFrom B ini) : ∀ k, isIni ini k → B ≤ k := fun k ⟨i, p, hp, hk⟩ =>
  Res.frB_ge (h.ok i p hp).1 (h.own i p hp) (allFrom.at ini hB i p hp) hk
/-- each object lies from block B on, or within K -/
def Ob.inBK (p : Ob) (B : Nat) (K : Nat → Prop) : Prop := match p.r with
  | .gen K' _ => ∀ k, K' k → B ≤ k ∨ K k
  | r => r.base = B ∨ ∀ k, p.S k → B ≤ k ∨ K k
theorem Ob.inBK_ge {p : Ob} {B : Nat} {K : Nat → Prop} (h : p.r.ok A p.u w) (ho : p.r.own A p.u p.S w) (hB : p.inBK B K) {k : Nat} (hk : p.S k) : B ≤ k ∨ K k := by
  obtain ⟨u, S, r⟩ := p
  cases r with
  | gen K' p => exact hB k (ho.1 k hk)
  | nul => obtain rfl := ho; exact hk.elim
  | box B' T E x => exact Or.elim hB (fun e => .inl ((show B' = B from e) ▸ Res.geS h ho hk)) fun h => h k hk
  | vec B' T E x => exact Or.elim hB (fun e => .inl ((show B' = B from e) ▸ Res.geS h ho hk)) fun h => h k hk
def allFor (B : Nat) (K : Nat → Prop) : List Ob → Prop
  | [] => True
  | p :: r => p.inBK B K ∧ allFor B K r
theorem allFor.at {B : Nat} {K : Nat → Prop} : ∀ (ini : List Ob), allFor B K ini → ∀ (i : Nat) p, ini[i]? = some p → p.inBK B K
  | [], _, i, p, h => by simp at h
  | q :: L, h, 0, p, hp => by simp at hp; subst hp; exact h.1
  | q :: L, h, i + 1, p, hp => allFor.at L h.2 i p (by simpa using hp)
theorem IniOK.geK {B : Nat} {K : Nat → Prop} (h : IniOK ini A w) (hB : allFor B K ini) : ∀ k, isIni ini k → B ≤ k ∨ K k := fun k ⟨i, p, hp, hk⟩ =>
  Ob.inBK_ge (h.ok i p hp).1 (h.own i p hp) (allFor.at ini hB i p hp) hk

theorem of_load_box {P : Program} {R : Reg} {d : Option Nat} {t : TypeId} {p : String} {af : Array Edge} {g : Option (Nat × Bool)} {α β : Type} {E : Enc α} {F : Enc β} {x : Operand} {B b off : Nat} {T T' : TypeId} {a : α} {y : β} {q : α → β}
    (hok : (Res.box B T E a).ok A (.pointer (some ⟨b, 0, none⟩)) w) (hx : evalR R x = .pointer (some ⟨b, off, none⟩)) (fl : Fld E off F q) (hy : q a = y) (hag : ∀ w, (isAgg T').run P w = .ok F.agg w) (hsz : ∀ w, (sizeOf T').run P w = .ok F.size w) :
    OpF P ⟨d, .load T' x, t, p, af, g⟩ R w (.rep F A y) := by
  subst hy
  obtain ⟨b', e, hB, hb⟩ := hok
  obtain rfl : b' = b := by injection e with h; injection h with h; injection h with h; exact h.symm
  refine of_load ⟨b', off, hx, hb.lt, ?_⟩ hag hsz
  have := hb.at.fld fl
  rwa [Nat.zero_add] at this
/-! results -/
def ResVal (P : Program) (R : Reg) (w : World) : ResultVar → Value → Prop
  | .tmp t, v => v = R t
  | .cell a T, v => ∃ ad, R a = .pointer (some ad) ∧ (loadVar T ad).run P w = .ok v w
def ResVals (P : Program) (R : Reg) (w : World) : List ResultVar → List Value → Prop
  | [], [] => True
  | r :: rs, v :: vs => ResVal P R w r v ∧ ResVals P R w rs vs
  | _, _ => False
def packV : List Value → Value
  | [v] => v
  | vs => .tuple vs.toArray
theorem run_results {P : Program} (fn : Func) (a : Act) (w : World) : ∀ (rs : List ResultVar) (vs : List Value), rs.length ≤ 4 → fn.results = rs.toArray → ResVals P (regs a) w rs vs → (results fn a.tmps).run P w = .ok (packV vs) w := by
  have key : ∀ (r : ResultVar) (v : Value), ResVal P (regs a) w r v → (∃ t, r = .tmp t ∧ a.tmps[t]?.getD undef = v) ∨ ∃ t T ad, r = .cell t T ∧ a.tmps[t]?.getD undef = .pointer (some ad) ∧ (loadVar T ad).run P w = .ok v w := fun r v h => by
    cases r with
    | tmp t => exact .inl ⟨t, rfl, by rw [show v = regs a t from h]; simp [regs]⟩
    | cell b t =>
      obtain ⟨ad, he, hl⟩ := h
      exact .inr ⟨b, t, ad, rfl, by rw [← he]; simp [regs], hl⟩
  intro rs vs hl hres hv
  match rs, vs, hv with
  | [], [], _ => simp [results, hres, packV]
  | [r0], [v0], hv =>
    unfold results
    rw [hres]
    obtain ⟨k0, _⟩ := hv
    rcases key r0 v0 k0 with ⟨t0, rfl, e0⟩ | ⟨t0, T0, ad0, rfl, e0, l0⟩
    all_goals simp [*, asAddr, packV]
  | [r0, r1], [v0, v1], hv =>
    unfold results
    rw [hres]
    obtain ⟨k0, k1, _⟩ := hv
    rcases key r0 v0 k0 with ⟨t0, rfl, e0⟩ | ⟨t0, T0, ad0, rfl, e0, l0⟩
    all_goals rcases key r1 v1 k1 with ⟨t1, rfl, e1⟩ | ⟨t1, T1, ad1, rfl, e1, l1⟩
    all_goals simp [*, asAddr, packV]
  | [r0, r1, r2], [v0, v1, v2], hv =>
    unfold results
    rw [hres]
    obtain ⟨k0, k1, k2, _⟩ := hv
    rcases key r0 v0 k0 with ⟨t0, rfl, e0⟩ | ⟨t0, T0, ad0, rfl, e0, l0⟩
    all_goals rcases key r1 v1 k1 with ⟨t1, rfl, e1⟩ | ⟨t1, T1, ad1, rfl, e1, l1⟩
    all_goals rcases key r2 v2 k2 with ⟨t2, rfl, e2⟩ | ⟨t2, T2, ad2, rfl, e2, l2⟩
    all_goals simp [*, asAddr, packV]
  | [r0, r1, r2, r3], [v0, v1, v2, v3], hv =>
    unfold results
    rw [hres]
    obtain ⟨k0, k1, k2, k3, _⟩ := hv
    rcases key r0 v0 k0 with ⟨t0, rfl, e0⟩ | ⟨t0, T0, ad0, rfl, e0, l0⟩
    all_goals rcases key r1 v1 k1 with ⟨t1, rfl, e1⟩ | ⟨t1, T1, ad1, rfl, e1, l1⟩
    all_goals rcases key r2 v2 k2 with ⟨t2, rfl, e2⟩ | ⟨t2, T2, ad2, rfl, e2, l2⟩
    all_goals rcases key r3 v3 k3 with ⟨t3, rfl, e3⟩ | ⟨t3, T3, ad3, rfl, e3, l3⟩
    all_goals simp [*, asAddr, packV]
  | _ :: _ :: _ :: _ :: _ :: _, _, _ => simp at hl
theorem calls_of_HT2 {P : Program} {f : FuncId} {fn : Func} {c : Code} {args : Array Value} {w : World} {K : Value → World → Prop} {N : Nat} (rs : List ResultVar)
    (hf : P.funcs[f]? = some fn) (hN : fn.ntmps = N) (hrs : rs.length ≤ 4) (hres : fn.results = rs.toArray) (hb : fn.body = some c) (hn : args.size ≤ N)
    (h : ∀ R, (∀ (i : Nat) v, args[i]? = some v → R i = v) → HT P N c R w (fun e R w' => (e = .normal ∨ e = .ret) ∧ ∃ vs, ResVals P R w' rs vs ∧ K (packV vs) w')) :
    Calls P f args w fun e w' => ∃ v, e = .returned v ∧ K v w' := by
  subst hN
  refine calls_of_wp hf hb (wp_mono (h _ (fun i v hv => ?_) _ ⟨rfl, by simp; omega⟩ rfl) fun e a' w' ⟨⟨h1, h2⟩, h3, vs, h4, h5⟩ => ?_)
  · have hlt : i < args.size := (Array.getElem?_eq_some_iff.1 hv).1
    simp only [regs, Array.getD_eq_getD_getElem?]
    rw [Array.getElem?_append_left hlt, hv]
    rfl
  · rcases h3 with rfl | rfl
    · exact ⟨h1, _, run_results fn a' w' rs vs hrs hres h4, _, rfl, h5⟩
    · exact ⟨h1, _, run_results fn a' w' rs vs hrs hres h4, _, rfl, h5⟩
theorem stp_down {A0 : Av} (h : ∀ b o, A0 b o → A b o) : Stp A A0 w w := ⟨Nat.le_refl _, fun _ _ _ h _ => h, fun b o _ h' => h b o h'⟩
theorem res_cell {P : Program} {R : Reg} {α : Type} {E : Enc α} {B b : Nat} {T : TypeId} {x : α} {A0 : Av} {r : Nat} (hok : (Res.box B T E x).ok A (.pointer (some ⟨b, 0, none⟩)) w) (hR : R r = .pointer (some ⟨b, 0, none⟩)) (hag : ∀ w, (isAgg T).run P w = .ok E.agg w) (hsz : ∀ w, (sizeOf T).run P w = .ok E.size w) (h0 : ∀ b o, A0 b o → A b o) :
    ∃ v, ResVal P R w (.cell r T) v ∧ Rep E A0 w v x := by
  obtain ⟨b', e, hB, cs, hb, hr⟩ := hok
  obtain rfl : b' = b := by injection e with h; injection h with h; injection h with h; exact h.symm
  refine ⟨E.val cs, ⟨_, hR, ?_⟩, cs, rfl, E.stp (stp_down h0) hr⟩
  have := run_loadVar (P := P) (w := w) (b := b') (o := 0) hag hsz (E.len hr) E.one (fun j u hu => by rw [hb.cell, Nat.zero_add]; simpa using hu)
  simpa [Enc.val] using this
theorem Rep.down {α : Type} {E : Enc α} {A0 : Av} {v : Value} {x : α} (h : Rep E A w v x) (h0 : ∀ b o, A0 b o → A b o) : Rep E A0 w v x := h.stp (stp_down h0)
section
variable {P : Program} {R : Reg} {d : Option Nat} {t : TypeId} {p : String} {af : Array Edge} {g : Option (Nat × Bool)} {x : Operand} {f f' f'' : Fact}
theorem of_extract2_0 (h : (Fact.tup2 f f').ok (evalR R x) w) : OpF P ⟨d, .extract x 0, t, p, af, g⟩ R w f := by
  obtain ⟨a, b, h1, h2, h3⟩ := h
  exact opr_val (v := a) (w' := w) (by simp [execOp, h1, Instr.extract]) ⟨h2, Fr.refl _⟩
theorem of_extract2_1 (h : (Fact.tup2 f f').ok (evalR R x) w) : OpF P ⟨d, .extract x 1, t, p, af, g⟩ R w f' := by
  obtain ⟨a, b, h1, h2, h3⟩ := h
  exact opr_val (v := b) (w' := w) (by simp [execOp, h1, Instr.extract]) ⟨h3, Fr.refl _⟩
theorem run_equal_bool {T : TypeId} {a b : Bool} (hu : P.underlying T = some .bool) : (Op.equal T (.bool a) (.bool b)).run P w = .ok (a == b) w := by
  unfold Op.equal
  rw [show Op.maxDepth = 9999 + 1 from rfl, Op.equalIn]
  simp only [Sem.run_bind, run_underlying hu, Result.andThen_ok, Sem.run_pure]
theorem of_bneq {T T' : TypeId} {y : Operand} {a b : Bool} (hu : P.underlying T = some .bool) (hx : evalR R x = .bool a) (hy : evalR R y = .bool b) : OpF P ⟨d, .binOp .neq T x y T', t, p, af, g⟩ R w (.raw (.bool (a != b))) := by
  refine opr_val (v := .bool (a != b)) (w' := w) ?_ ⟨rfl, Fr.refl _⟩
  simp only [execOp, hx, hy, eqGuard, binOp, Sem.run_bind, run_equal_bool hu, Result.andThen_ok, Sem.run_pure]
  simp [bne]
theorem Res.mono {r : Res} {u : Value} {α : Type} {B B' : Nat} {T : TypeId} {E : Enc α} {xs : List α} (h : (Res.vec B T E xs).ok A u w) (hB : B' ≤ B) : (Res.vec B' T E xs).ok A u w := by
  obtain ⟨cs, ⟨h0, h⟩, hf⟩ := h
  refine ⟨cs, ⟨h0, ?_⟩, hf⟩
  rcases h with h | ⟨b, c, cur, h1, h2, h3⟩
  · exact .inl h
  · exact .inr ⟨b, c, cur, h1, by omega, h3⟩
theorem inR_ne {α : Type} {i : Int} {xs : List α} (h : inR i xs.length = true) : xs.length ≠ 0 := by
  obtain ⟨h1, h2⟩ := inR_iff.1 h
  omega
theorem IniOK.nilcons {ini : List Ob} (h : IniOK ini A w) {u : Value} (hu : u = .slice none 0 0) {α : Type} (B : Nat) (T : TypeId) (E : Enc α) : IniOK (ob u (.vec B T E []) :: ini) A w := by
  subst hu
  refine ⟨fun i p hp => ?_, fun i p hp => (by cases i with | zero => (simp at hp; subst hp; rfl) | succ i => exact h.own i p (by simpa using hp)), fun i j p q hp hq hne k hk hk' => ?_⟩
  · cases i with
    | zero => simp at hp; subst hp; exact ⟨vec_nil, fun k hk => hk.elim⟩
    | succ i => exact h.ok i p (by simpa using hp)
  · cases i with
    | zero => simp at hp; subst hp; exact hk.elim
    | succ i =>
      cases j with
      | zero => simp at hq; subst hq; exact hk'.elim
      | succ j => exact h.dis i j p q (by simpa using hp) (by simpa using hq) (by omega) k hk hk'
theorem took_same {P : Program} {o : Oper} {R : Reg} {u : Value} {r : Res} (h : (execOp (evalR R) o).run P w = .ok (.value u) w) (hok : r.ok A u w) (hav : ∀ k, ownsB u k → ∀ o, A k o) : OpR P o R w (Took A true u r (fun _ => .any) w) := by
  have hc := Ch.refl (ownsB u) w
  have hst := stp_swap_self hav hc
  exact opr_val h ⟨u, rfl, hc, fun k _ h => h, hst, Res.stab hok (fun _ _ => rfl) hst, trivial⟩
theorem took_assign {u : Value} {r : Res} (hx : evalR R x = u) (hok : r.ok A u w) (hav : ∀ k, ownsB u k → ∀ o, A k o) : OpR P ⟨d, .assign x, t, p, af, g⟩ R w (Took A true u r (fun _ => .any) w) := took_same (by simp [execOp, hx]) hok hav
theorem of_len_vec {α : Type} {E : Enc α} {B : Nat} {e T : TypeId} {u : Value} {xs : List α} {w0 : World} {A0 : Av} (hok : (Res.vec B e E xs).ok A0 u w0) (hx : evalR R x = u) (hu : P.underlying T = some (.slice e)) : OpF P ⟨d, .call ⟨.builtin .len, #[x], #[T]⟩, t, p, af, g⟩ R w (.raw (.int .i64 (xs.length : Int))) := by
  obtain ⟨ad, cap, rfl, _⟩ := vec_val hok
  exact opr_val (w' := w) (by simp [execOp, resolve, invoke, builtin, Builtin.len_, hx, underlying, hu, goInt]) ⟨rfl, Fr.refl _⟩
theorem own_post {α : Type} {E : Enc α} {A0 : Av} {B : Nat} {T : TypeId} {u v : Value} {xs : List α} (h : (Res.vec B T E xs).ok A u w ∧ ∀ k, ownsB u k → ∀ o, A k o) (h0 : ∀ b o, A0 b o → A b o) (hv : v = u) : (Res.vec B T E xs).ok (addA A0 v) v w := by
  subst hv
  exact Res.stab h.1 (fun _ _ => rfl) ⟨Nat.le_refl _, fun _ _ _ h _ => h, fun b o _ h' => h'.elim (h0 b o) fun h' => h.2 b h' o⟩
theorem made_call {α : Type} {E : Enc α} {B : Nat} {e : TypeId} {xs : List α} {fn : FuncId} {al : List Operand} {aT : Array TypeId} (hc : ∀ args w, (callFunc fn args).run P w = .ok (.enter fn args) w)
    (h : Calls P fn (al.map (evalR R)).toArray w fun ed w' => ∃ v, ed = .returned v ∧ ((Res.vec w.heap.size e E xs).ok (addA A v) v w' ∧ Fr w w')) (hB : B ≤ w.heap.size) :
    OpR P ⟨d, .call ⟨.value (.func fn), al.toArray, aT⟩, t, p, af, g⟩ R w (Made A (.vec B e E xs) (fun _ => .any) w) := by
  unfold OpR
  have : (execOp (evalR R) ⟨d, .call ⟨.value (.func fn), al.toArray, aT⟩, t, p, af, g⟩).run P w = .ok (.enter fn (al.map (evalR R)).toArray) w := by
    simp [execOp, resolve, evalR, Deferred.ofValue, invoke, hc]
  rw [this]
  refine Calls.mono h ?_
  rintro ed w' ⟨v, he, hv, hf⟩
  exact ⟨v, he, hf, fun k hk => Res.geB hv rfl hk, Res.mono (r := .vec B e E xs) hv hB, trivial⟩
end
end
theorem el_of {P : Program} {e s b : Nat} {z : Value} (hz : ∀ w, (zeroValue e).run P w = .ok z w) (hs : ∀ w, (sizeOf e).run P w = .ok s w) (hb : (P.info? e).map (·.bytes) = some b) (h1 : z.cells.size = s) (h2 : 0 < s) (h3 : b ≤ 4096) : ElF P e s := by
  cases hi : P.info? e with
  | none => rw [hi] at hb; cases hb
  | some i =>
    rw [hi] at hb
    injection hb with hb
    have h4 := hz default
    have h5 := hs default
    simp only [zeroValue, sizeOf, typeInfo, Sem.run_bind, run_program, Result.andThen_ok, hi, Sem.run_pure] at h4 h5
    cases hz' : i.zero with
    | none => rw [hz'] at h4; simp at h4
    | some z' =>
      rw [hz'] at h4
      simp only [Sem.run_pure] at h4
      injection h4 with h4
      injection h5 with h5
      subst h4
      exact ⟨i, z', b, hi, hz', h5, hb, h1, h2, h3⟩
end Go.Proofs.Ytmgiijdejigdhaa
