/- Regions in the text's order, cut into parts: single operations that may do whatever to the objects, and runs of operations as before. No statement of the seat is proved here. -/
import Derived.Test.YtmgiijdejigdhaaDu
namespace Go.Proofs.Ytmgiijdejigdhaa
open Go.RowKit
set_option linter.unusedVariables false

/-- the operations from k on, one after another -/
def SG (P : Program) (n : Nat) (ops : List Oper) (k : Nat) (R : Reg) (w : World) (Q : Exit → Reg → World → Prop) : Prop :=
  ∀ a : Act, Pl n a → regs a = R → wpOps P ops.toArray (PQ n Q) (List.range' k (ops.length - k)) a w
section
variable {P : Program} {n : Nat} {ops : List Oper} {k : Nat} {R : Reg} {w : World} {Q : Exit → Reg → World → Prop}
theorem SG.of {id : Nat} (h : SG P n ops 0 R w Q) : HT P n (.region id ops.toArray false) R w Q := fun a hpl hR => by
  refine wp_region ?_
  have := h a hpl hR
  rw [Nat.sub_zero] at this
  rw [List.range_eq_range']
  simpa using this
theorem SG.fin (hk : ops.length = k) (h : Q .normal R w) : SG P n ops k R w Q := fun a hpl hR => by
  rw [hk, Nat.sub_self]
  simp only [List.range'_zero, wpOps]
  exact ⟨hpl, hR ▸ h⟩
theorem SG.step {o : Oper} (ho : ops[k]? = some o) (hg : o.guard = none) (hd : ∀ d, o.dst = some d → d < n) (h : OpR P o R w fun v w' => SG P n ops (k + 1) (updO R o.dst v) w' Q) : SG P n ops k R w Q := fun a hpl hR => by
  have hk : k < ops.length := (List.getElem?_eq_some_iff.1 ho).1
  rw [show ops.length - k = (ops.length - (k + 1)) + 1 by omega, List.range'_succ, wpOps_cons]
  rw [← hR] at h
  refine opwp_of_opr hg h (fun v w' hs => ?_) k (by simpa using ho)
  refine hs _ ⟨by rw [put_defers']; exact hpl.1, by rw [put_size]; exact hpl.2⟩ ?_
  exact regs_put _ _ _ fun d hdd => Nat.lt_of_lt_of_le (hd d hdd) hpl.2
/-- one operation with a register -/
theorem SG.op {o : Oper} (d : Nat) (ho : ops[k]? = some o) (hg : o.guard = none) (hd : o.dst = some d) (hn : Nat.blt d n = true) {K : Value → World → Prop} (h : OpR P o R w K)
    (hk : ∀ v w', K v w' → ∀ R', (∀ t, Nat.beq t d = false → R' t = R t) → R' d = v → SG P n ops (k + 1) R' w' Q) : SG P n ops k R w Q := by
  refine SG.step ho hg (fun d' h' => ?_) (h.mono fun v w' hv => ?_)
  · rw [hd] at h'
    injection h' with h'
    subst h'
    simpa using hn
  · rw [hd]
    refine hk v w' hv _ (fun t ht => ?_) (upd_same _ _ _)
    show (bif Nat.beq t d then v else R t) = R t
    rw [ht]
    rfl
/-- what stands of the operations before k -/
def Past (A : Av) (R : Reg) (w : World) : Nat → List EntR → Prop
  | 0, _ => True
  | _ + 1, [] => True
  | k + 1, x :: l => (x.g = true ∧ x.con = [] ∧ x.res = none ∧ (match x.o.dst with | some d => (x.f A).ok (R d) w | none => True)) ∧ Past A R w k l
theorem Past.at {A : Av} : ∀ (l : List EntR) (k : Nat), Past A R w k l → ∀ (i : Nat) x, i < k → l[i]? = some x → x.g = true ∧ x.con = [] ∧ x.res = none ∧ ∀ d, x.o.dst = some d → (x.f A).ok (R d) w
  | [], k, _, i, x, _, hx => by simp at hx
  | y :: l, 0, _, i, x, hi, _ => by omega
  | y :: l, k + 1, h, 0, x, _, hx => by
    simp only [List.getElem?_cons_zero, Option.some.injEq] at hx
    subst hx
    obtain ⟨⟨h1, h2, h3, h4⟩, _⟩ := h
    refine ⟨h1, h2, h3, fun d hd => ?_⟩
    rw [hd] at h4
    exact h4
  | y :: l, k + 1, h, i + 1, x, hi, hx => Past.at l k h.2 i x (by omega) (by simpa using hx)
theorem SG.textR {A : Av} {rest : List Oper} (ini : List Ob) (l : List EntR) (k' : Nat) (hops : ops = l.map (·.o) ++ rest) (hk' : l.length = k') (hkk : Nat.ble k k' = true) (hb : backFrom 0 (l.map (·.o)) = true) (hs : dstOK n (l.map (·.o)) = true) (hw : Wf ini l) (hi : IniOK ini A w) (hA : AvOK A w)
    (hp : Past A R w k l) (ho : OblsR P ini l A R w k (l.drop k)) (ha : AfterR ini l A R w (fun R w => SG P n ops k' R w Q)) : SG P n ops k R w Q := fun a hpl hR => by
  have hkk : k ≤ k' := Nat.le_of_ble_eq_true hkk
  have hlen : ops.length = k' + rest.length := by rw [hops, List.length_append, List.length_map, hk']
  have hopl : ∀ (i : Nat) x, l[i]? = some x → ops.toArray[i]? = some x.o := fun i x hx => by
    have hlt := (List.getElem?_eq_some_iff.1 hx).1
    rw [List.getElem?_toArray, hops, List.getElem?_append_left (by rw [List.length_map]; exact hlt), List.getElem?_map, hx]
    rfl
  have hmap : ∀ (i : Nat) x, l[i]? = some x → (l.map (·.o))[i]? = some x.o := fun i x hx => by
    rw [List.getElem?_map, hx]
    rfl
  have hobl : ∀ (i : Nat) x, k ≤ i → l[i]? = some x → OblR P ini l A R w i x := fun i x hki hx => by
    have := OblsR.at (l.drop k) k ho (i - k) x (by rw [List.getElem?_drop, show k + (i - k) = i by omega]; exact hx)
    rwa [show k + (i - k) = i by omega] at this
  have key : ∀ m j, m + j = l.length → k ≤ j → ∀ (a : Act) (ρ : Nat → Value) (σ : Nat → Nat → Prop) (A' : Av) (w' : World), Pl n a → InvR ini l A R w (fun i => Nat.blt i j) ρ σ A' (regs a) w' →
      wpOps P ops.toArray (PQ n Q) (List.range' j (ops.length - j)) a w' := by
    intro m
    induction m with
    | zero =>
      intro j hj hkj a ρ σ A' w' hpl hI
      have := ha _ ρ σ A' _ _ (fun i hi => by simpa using (by omega : i < j)) hI a hpl rfl
      rwa [show k' = j by omega] at this
    | succ m ih =>
      intro j hj hkj a ρ σ A' w' hpl hI
      rw [show ops.length - j = (ops.length - (j + 1)) + 1 by omega, List.range'_succ, wpOps_cons]
      have hkl : j < l.length := by omega
      have hx : l[j]? = some l[j] := List.getElem?_eq_getElem hkl
      refine step_anyR1 (done := fun i => Nat.blt i j) hw hopl (fun i x d hx hdd => dstOK_spec hs (hmap i x hx) hdd) hx (hobl j _ hkj hx) (nblt_no (Nat.le_refl j)) (fun e he hbe => ?_) (fun i y hy hex => ?_) hpl hI (fun a' ρ' σ' A'' w'' hpl' hI' => ih (j + 1) (by omega) (by omega) a' ρ' σ' A'' w'' hpl' ?_)
      · have := backFrom_spec _ 0 hb j _ (hmap j _ hx) e he hbe
        show Nat.blt e.on j = true
        simpa using this
      · obtain ⟨e, he, hbe, hon⟩ := hex
        have := backFrom_spec _ 0 hb i _ (hmap i _ hy) e he hbe
        exact nblt_no (by omega)
      · have : setB (fun i => Nat.blt i j) j = fun i => Nat.blt i (j + 1) := by
          funext i
          by_cases e : i = j
          · subst e; rw [setB_same]; simp
          · rw [setB_ne _ e, Bool.eq_iff_iff]; simp; omega
        rw [← this]
        exact hI'
  refine key (k' - k) k (by omega) (Nat.le_refl k) a (fun id => ((ini[id]?).map (·.u)).getD undef) (fun id => ((ini[id]?).map (·.S)).getD fun _ => False) A w hpl ?_
  have hdn : ∀ i, Nat.blt i k = true → i < k := fun i h => by simpa using h
  have hlive : ∀ id r, resAt ini l id = some r → Live ini l (fun i => Nat.blt i k) id → id < ini.length := fun id r hr h => by
    rcases h.1 with h1 | h1
    · exact h1
    · rcases Nat.lt_or_ge id ini.length with h2 | h2
      · exact h2
      · exfalso
        unfold resAt at hr
        rw [List.getElem?_eq_none h2] at hr
        cases hx : l[id - ini.length]? with
        | none => rw [hx] at hr; cases hr
        | some x =>
          rw [hx] at hr
          have := (Past.at l k hp _ x (hdn _ h1) hx).2.2.1
          simp only [Option.bind_some, this] at hr
          cases hr
  have kk : ∀ id r, resAt ini l id = some r → Live ini l (fun i => Nat.blt i k) id → ∃ p, ini[id]? = some p ∧ p.r = r ∧ ((ini[id]?).map (·.u)).getD undef = p.u ∧ (((ini[id]?).map (·.S)).getD fun _ => False) = p.S := fun id r hr hl => by
    obtain ⟨p, hp', hr'⟩ := resAt_ini (l := l) (hlive id r hr hl)
    rw [hr'] at hr
    injection hr with hr
    exact ⟨p, hp', hr, by rw [hp']; rfl, by rw [hp']; rfl⟩
  rw [← hR] at hp
  refine ⟨Ch.refl _ _, (Fr.refl w).stp A, hA, hA, fun _ _ h _ => h, fun t _ => by rw [hR], fun i x d hx hd hxd hg => ?_, fun i x d hx hd hxd hg => ?_, fun id r hr hl => ?_, fun id r hr hl q hq o => ?_, fun id id' r r' hr hr' hl hl' hne q hq => ?_, fun id r hr hl q _ hq => ?_, fun id p hp' => (by rw [hp']; exact ⟨rfl, rfl⟩), fun i x d hx hd hres => ?_, fun i x c hx hd hres => ?_, fun n id r p hd hrt hp' => ?_⟩
  · exact (Past.at l k hp i x (hdn i hd) hx).2.2.2 d hxd
  · have := (Past.at l k hp i x (hdn i hd) hx).1
    rw [this] at hg
    cases hg
  · obtain ⟨p, hp', rfl, he, hs'⟩ := kk id r hr hl
    rw [he, hs']
    exact ⟨(hi.ok id p hp').1, hi.own id p hp'⟩
  · obtain ⟨p, hp', rfl, he, hs'⟩ := kk id r hr hl
    rw [hs'] at hq
    exact (hi.ok id p hp').2 q hq o
  · obtain ⟨p, hp', rfl, he, hs'⟩ := kk id r hr hl
    obtain ⟨p2, hp2, rfl, he2, hs2⟩ := kk id' r' hr' hl'
    rw [hs'] at hq
    rw [hs2]
    exact hi.dis id id' p p2 hp' hp2 hne q hq
  · obtain ⟨p, hp', rfl, he, hs'⟩ := kk id r hr hl
    rw [hs'] at hq
    exact ⟨id, p, hp', hq⟩
  · exact absurd (Past.at l k hp i x (hdn i hd) hx).2.2.1 hres
  · exact absurd (Past.at l k hp i x (hdn i hd) hx).2.2.1 hres
  · cases n with
    | zero => cases hrt
    | succ n =>
      unfold rootOf at hrt
      rcases Nat.lt_or_ge id ini.length with hl | hl
      · rw [List.getElem?_eq_getElem hl] at hrt
        obtain rfl : id = r := Option.some.inj hrt
        rw [hp']
        rfl
      · rw [List.getElem?_eq_none hl] at hrt
        have hdn' := hdn _ (hd.resolve_left (by omega))
        cases hx : l[id - ini.length]? with
        | none => rw [hx] at hrt; cases hrt
        | some x =>
          have := (Past.at l k hp _ x hdn' hx).2.2.1
          rw [hx] at hrt
          simp only [this, Option.isSome_none, Bool.not_false, Bool.or_true, cond_true] at hrt
          cases hrt
end
/-! ### what a call hands back -/
/-- the objects that a call gives: K: the blocks that it was handed -/
structure GPost (A0 : Av) (K : Nat → Prop) (w : World) (obs : List Ob) (A1 : Av) (w' : World) : Prop where
  ini : IniOK obs A1 w'
  avok : AvOK A1 w'
  low : ∀ b o, A0 b o → A1 b o
  up : ∀ b o, A1 b o → A0 b o ∨ isIni obs b
  new : ∀ k, isIni obs k → w.heap.size ≤ k ∨ K k
  ch : Ch K w w'
abbrev subS (A : Av) (S : Nat → Prop) : Av := fun b o => A b o ∧ ¬ S b
section
variable {ini obs : List Ob} {A A0 A1 : Av} {w w' : World} {K : Nat → Prop}
theorem IniOK.shrink (h : IniOK ini A w) (h1 : ∀ b o, A1 b o → A b o) (h2 : ∀ k, isIni ini k → ∀ o, A1 k o) : IniOK ini A1 w :=
  ⟨fun i p hp => ⟨(Res.stabS (h.ok i p hp).1 (h.own i p hp) (fun _ _ => rfl) (stp_down h1)).1, fun k hk => h2 k ⟨i, p, hp, hk⟩⟩, fun i p hp => (Res.stabS (h.ok i p hp).1 (h.own i p hp) (fun _ _ => rfl) (stp_down h1)).2, h.dis⟩
/-- the callee's last word -/
theorem GPost.of (hO : IniOK obs A w') (hA : AvOK A w') (hAA : ∀ b o, A0 b o → A b o) (hge : ∀ k, isIni obs k → w.heap.size ≤ k ∨ K k) (hF : Ch K w w') : ∃ A1, (∀ b o, A1 b o → A b o) ∧ GPost A0 K w obs A1 w' := by
  have hsub : ∀ b o, (A0 b o ∨ isIni obs b) → A b o := fun b o h => h.elim (hAA b o) fun ⟨i, p, hp, hk⟩ => (hO.ok i p hp).2 b hk o
  exact ⟨fun b o => A0 b o ∨ isIni obs b, hsub, hO.shrink hsub fun k hk o => .inr hk, fun b o h => hA b o (hsub b o h), fun _ _ h => .inl h, fun _ _ h => h, hge, hF⟩
theorem stp_call (hA : AvOK A w) (h : GPost (subS A K) K w obs A1 w') (hK : ∀ k, K k → ∀ o, A k o) : Stp A A1 w w' :=
  ⟨h.ch.size, fun b o v hv hn => (World.cell?_of_block (w := w) (h.ch.block b (cell_lt' hv) fun hk => hn (hK b hk o))).trans hv, fun b o hb h1 => (h.up b o h1).elim (·.1) fun h2 => (h.new b h2).elim (fun h3 => by omega) fun h3 => hK b h3 o⟩
/-- the caller goes on: object i has gone into the call -/
theorem GPost.next (hO : IniOK ini A w) (hA : AvOK A w) (i : Nat) {p : Ob} (hp : ini[i]? = some p) (h : GPost (subS A p.S) p.S w obs A1 w') : IniOK (obs ++ ini.eraseIdx i) A1 w' := by
  have hK : ∀ k, p.S k → ∀ o, A k o := (hO.ok i p hp).2
  have hst := stp_call hA h hK
  have hlt : ∀ (j : Nat) q, ini[j]? = some q → ∀ k, q.S k → k < w.heap.size := fun j q hq k hk => Res.ltS (hO.ok j q hq).1 (hO.own j q hq) hk
  have her : ∀ (j : Nat) q, (ini.eraseIdx i)[j]? = some q → ∃ j', j' ≠ i ∧ ini[j']? = some q ∧ (j' = if j < i then j else j + 1) := fun j q hq => by
    rw [List.getElem?_eraseIdx] at hq
    split at hq
    · rename_i hlt; exact ⟨j, by omega, hq, by rw [if_pos hlt]⟩
    · rename_i hlt; exact ⟨j + 1, by omega, hq, by rw [if_neg hlt]⟩
  have hrest : ∀ (j : Nat) q, (ini.eraseIdx i)[j]? = some q → (q.r.ok A1 q.u w' ∧ q.r.own A1 q.u q.S w') ∧ ∀ k, q.S k → ∀ o, A1 k o := fun j q hq => by
    obtain ⟨j', hne, hj', _⟩ := her j q hq
    have hd : ∀ k, q.S k → ¬ p.S k := hO.dis j' i q p hj' hp hne
    exact ⟨Res.stabS (hO.ok j' q hj').1 (hO.own j' q hj') (fun k hk => h.ch.block k (hlt j' q hj' k hk) (hd k hk)) hst, fun k hk o => h.low k o ⟨(hO.ok j' q hj').2 k hk o, hd k hk⟩⟩
  have hobr : ∀ (i' j : Nat) p' q, obs[i']? = some p' → (ini.eraseIdx i)[j]? = some q → ∀ k, p'.S k → ¬ q.S k := fun i' j p' q hp' hq k hk hk' => by
    obtain ⟨j', hne, hj', _⟩ := her j q hq
    rcases h.new k ⟨i', p', hp', hk⟩ with h1 | h1
    · have := hlt j' q hj' k hk'
      omega
    · exact hO.dis j' i q p hj' hp hne k hk' h1
  refine ⟨fun j q hq => ?_, fun j q hq => ?_, fun j j' q q' hq hq' hne k hk => ?_⟩
  · rcases Nat.lt_or_ge j obs.length with hl | hl
    · rw [List.getElem?_append_left hl] at hq
      exact h.ini.ok j q hq
    · rw [List.getElem?_append_right hl] at hq
      exact ⟨(hrest _ q hq).1.1, (hrest _ q hq).2⟩
  · rcases Nat.lt_or_ge j obs.length with hl | hl
    · rw [List.getElem?_append_left hl] at hq
      exact h.ini.own j q hq
    · rw [List.getElem?_append_right hl] at hq
      exact (hrest _ q hq).1.2
  · rcases Nat.lt_or_ge j obs.length with hl | hl <;> rcases Nat.lt_or_ge j' obs.length with hl' | hl'
    · rw [List.getElem?_append_left hl] at hq
      rw [List.getElem?_append_left hl'] at hq'
      exact h.ini.dis j j' q q' hq hq' hne k hk
    · rw [List.getElem?_append_left hl] at hq
      rw [List.getElem?_append_right hl'] at hq'
      exact hobr _ _ _ _ hq hq' k hk
    · rw [List.getElem?_append_right hl] at hq
      rw [List.getElem?_append_left hl'] at hq'
      exact fun hk' => hobr _ _ _ _ hq' hq k hk' hk
    · rw [List.getElem?_append_right hl] at hq
      rw [List.getElem?_append_right hl'] at hq'
      obtain ⟨a, _, ha, ea⟩ := her _ q hq
      obtain ⟨b, _, hb, eb⟩ := her _ q' hq'
      exact hO.dis a b q q' ha hb (by rw [ea, eb]; split <;> split <;> omega) k hk
/-- the same where nothing went in -/
theorem GPost.next0 (hO : IniOK ini A w) (hA : AvOK A w) (h : GPost A (fun _ => False) w obs A1 w') : IniOK (obs ++ ini) A1 w' ∧ Stp A A1 w w' := by
  have e : subS A (fun _ => False) = A := by
    funext b o
    simp [subS]
  have h' : GPost (subS A fun _ => False) (fun _ => False) w obs A1 w' := by rw [e]; exact h
  have hst := stp_call hA h' fun _ h => h.elim
  have hlt : ∀ (j : Nat) q, ini[j]? = some q → ∀ k, q.S k → k < w.heap.size := fun j q hq k hk => Res.ltS (hO.ok j q hq).1 (hO.own j q hq) hk
  have hrest : ∀ (j : Nat) q, ini[j]? = some q → (q.r.ok A1 q.u w' ∧ q.r.own A1 q.u q.S w') ∧ ∀ k, q.S k → ∀ o, A1 k o := fun j q hj =>
    ⟨Res.stabS (hO.ok j q hj).1 (hO.own j q hj) (fun k hk => h.ch.block k (hlt j q hj k hk) fun h => h) hst, fun k hk o => h.low k o ((hO.ok j q hj).2 k hk o)⟩
  have hobr : ∀ (i' j : Nat) p' q, obs[i']? = some p' → ini[j]? = some q → ∀ k, p'.S k → ¬ q.S k := fun i' j p' q hp' hq k hk hk' => by
    rcases h.new k ⟨i', p', hp', hk⟩ with h1 | h1
    · have := hlt j q hq k hk'
      omega
    · exact h1
  refine ⟨⟨fun j q hq => ?_, fun j q hq => ?_, fun j j' q q' hq hq' hne k hk => ?_⟩, hst⟩
  · rcases Nat.lt_or_ge j obs.length with hl | hl
    · rw [List.getElem?_append_left hl] at hq
      exact h.ini.ok j q hq
    · rw [List.getElem?_append_right hl] at hq
      exact ⟨(hrest _ q hq).1.1, (hrest _ q hq).2⟩
  · rcases Nat.lt_or_ge j obs.length with hl | hl
    · rw [List.getElem?_append_left hl] at hq
      exact h.ini.own j q hq
    · rw [List.getElem?_append_right hl] at hq
      exact (hrest _ q hq).1.2
  · rcases Nat.lt_or_ge j obs.length with hl | hl <;> rcases Nat.lt_or_ge j' obs.length with hl' | hl'
    · rw [List.getElem?_append_left hl] at hq
      rw [List.getElem?_append_left hl'] at hq'
      exact h.ini.dis j j' q q' hq hq' hne k hk
    · rw [List.getElem?_append_left hl] at hq
      rw [List.getElem?_append_right hl'] at hq'
      exact hobr _ _ _ _ hq hq' k hk
    · rw [List.getElem?_append_right hl] at hq
      rw [List.getElem?_append_left hl'] at hq'
      exact fun hk' => hobr _ _ _ _ hq' hq k hk' hk
    · rw [List.getElem?_append_right hl] at hq
      rw [List.getElem?_append_right hl'] at hq'
      exact hO.dis _ _ q q' hq hq' (by omega) k hk
/-- an object turned: its blocks are among those that it had -/
theorem IniOK.put (h : IniOK ini A w) (i : Nat) {p : Ob} (hi : ini[i]? = some p) (p' : Ob) (hok : p'.r.ok A p'.u w) (hown : p'.r.own A p'.u p'.S w) (hS : ∀ k, p'.S k → p.S k) : IniOK (ini.set i p') A w := by
  have hl := (List.getElem?_eq_some_iff.1 hi).1
  have hat : ∀ (j : Nat) q, (ini.set i p')[j]? = some q → ∃ q0, ini[j]? = some q0 ∧ (∀ k, q.S k → q0.S k) ∧ (j = i ∧ q = p' ∨ j ≠ i ∧ q0 = q) := fun j q hq => by
    by_cases e : j = i
    · subst e
      rw [List.getElem?_set_self hl] at hq
      injection hq with hq
      subst hq
      exact ⟨_, hi, hS, .inl ⟨rfl, rfl⟩⟩
    · rw [List.getElem?_set_ne (Ne.symm e)] at hq
      exact ⟨q, hq, fun _ h => h, .inr ⟨e, rfl⟩⟩
  refine ⟨fun j q hq => ?_, fun j q hq => ?_, fun j j' q q' hq hq' hne k hk hk' => ?_⟩
  · obtain ⟨q0, h0, hS', hc⟩ := hat j q hq
    rcases hc with ⟨rfl, rfl⟩ | ⟨_, rfl⟩
    · exact ⟨hok, fun k hk => (h.ok _ _ h0).2 k (hS' k hk)⟩
    · exact h.ok j _ h0
  · obtain ⟨q0, h0, hS', hc⟩ := hat j q hq
    rcases hc with ⟨rfl, rfl⟩ | ⟨_, rfl⟩
    · exact hown
    · exact h.own j _ h0
  · obtain ⟨q0, h0, hS', _⟩ := hat j q hq
    obtain ⟨q0', h0', hS'', _⟩ := hat j' q' hq'
    exact h.dis j j' q0 q0' h0 h0' hne k (hS' k hk) (hS'' k hk')
/-- a tree's blocks under another bound -/
theorem IniOK.reK (h : IniOK ini A w) (i : Nat) {u : Value} {S : Nat → Prop} {K K' : Nat → Prop} {p : SP} (hi : ini[i]? = some ⟨u, S, .gen K p⟩) (hK : ∀ k, K k → K' k) : IniOK (ini.set i ⟨u, S, .gen K' p⟩) A w :=
  h.put i hi ⟨u, S, .gen K' p⟩ trivial ⟨fun k hk => hK k ((h.own i _ hi).1 k hk), (h.own i _ hi).2⟩ fun _ h => h
/-- a variable's tree, as the value that it holds -/
theorem IniOK.unbox {P : Program} {R : Reg} (h : IniOK ini A w) (i : Nat) {u : Value} {S : Nat → Prop} {K : Nat → Prop} {α : Type} {F : OE α} {x : α} {pins : List Pin} {T T' : TypeId} {r : Nat} (hi : ini[i]? = some ⟨u, S, trR K (oPt T' F) x pins⟩) (hR : R r = u) (hag : ∀ w, (isAgg T).run P w = .ok F.E.agg w) (hsz : ∀ w, (sizeOf T).run P w = .ok F.E.size w) :
    ∃ v S1, ResVal P R w (.cell r T) v ∧ IniOK (ini.set i ⟨v, S1, trR K F x []⟩) A w := by
  obtain ⟨hK, ⟨cs, e, b, ds, S1, rfl, h1, h2, h3, h4⟩, _⟩ := h.own i _ hi
  have hu : u = .pointer (some ⟨b, 0, none⟩) := e
  have hsub : ∀ k, S1 k → S k := fun k hk => (h4 k).2 (.inr hk)
  refine ⟨F.E.val ds, S1, ⟨⟨b, 0, none⟩, by rw [hR, hu], ?_⟩, h.put i hi ⟨F.E.val ds, S1, trR K F x []⟩ trivial ⟨fun k hk => hK k (hsub k hk), ⟨ds, rfl, h2⟩, fun q hq => by cases hq⟩ hsub⟩
  have := run_loadVar (P := P) (w := w) (b := b) (o := 0) hag hsz (F.len h2) F.E.one (fun j v hj => by rw [h1.cell, Nat.zero_add]; simpa using hj)
  simpa [Enc.val] using this
theorem Ch.no {w w' : World} (h : Ch (fun _ => False) w w') : Fr w w' := ⟨⟨h.os, h.tape, h.output, h.size, fun k hk => h.block k hk fun h => h⟩, h.drawn⟩
/-! ### trees that read nothing but what they own -/
def OEPure {α : Type} (F : OE α) : Prop := ∀ {A A' w S x cs}, F.own A w S x cs → F.own A' w S x cs
theorem pure_rd {α : Type} {E : Enc α} (hfl : ∀ A A' w x cs, E.rep A w x cs → E.rep A' w x cs) : OEPure (oRd E) := fun h => ⟨h.1, hfl _ _ _ _ _ h.2⟩
theorem pure_pr {α β : Type} {F : OE α} {G : OE β} (h : OEPure F) (k : OEPure G) : OEPure (oPr F G) := fun ⟨c, d, S1, S2, e, h1, h2, h3⟩ => ⟨c, d, S1, S2, e, h h1, k h2, h3⟩
theorem pure_sl {α : Type} {T : TypeId} {F : OE α} (h : OEPure F) : OEPure (oSl T F) := fun k => k.elim .inl fun ⟨g, c, arr, Si, e, h1, h2, h3, h4, h5⟩ =>
  .inr ⟨g, c, arr, Si, e, h1, h2, h3, h4, ⟨fun i x hx => let ⟨ds, a, b⟩ := h5.el i x hx; ⟨ds, h a, b⟩, h5.dis, h5.out, h5.set⟩⟩
/-- an object that holds whatever is to be avoided -/
def ObPure (p : Ob) : Prop := ∀ A A' w, p.r.ok A p.u w → p.r.own A p.u p.S w → p.r.ok A' p.u w ∧ p.r.own A' p.u p.S w
theorem obpure_tr {α : Type} {u : Value} {S K : Nat → Prop} {F : OE α} {x : α} (h : OEPure F) : ObPure ⟨u, S, trR K F x []⟩ := fun A A' w _ k => ⟨trivial, k.1, ⟨let ⟨cs, e, a⟩ := k.2.1; ⟨cs, e, h a⟩, fun q hq => by cases hq⟩⟩
def allPure : List Ob → Prop
  | [] => True
  | p :: l => ObPure p ∧ allPure l
theorem allPure.at : ∀ (l : List Ob), allPure l → ∀ (i : Nat) p, l[i]? = some p → ObPure p
  | [], _, i, p, h => by simp at h
  | q :: l, h, 0, p, hp => by simp at hp; subst hp; exact h.1
  | q :: l, h, i + 1, p, hp => allPure.at l h.2 i p (by simpa using hp)
/-- the caller goes on behind a call that read its own objects -/
theorem GPost.next0P (hO : IniOK ini A w) (hA : AvOK A w) (h : GPost A0 (fun _ => False) w obs A1 w') (hp : allPure obs) : ∃ A2, (∀ b o, A b o → A2 b o) ∧ IniOK (obs ++ ini) A2 w' ∧ Stp A A2 w w' ∧ AvOK A2 w' := by
  have hlow : ∀ b o, A b o → A b o ∨ isIni obs b := fun b o h => .inl h
  have hg : GPost A (fun _ => False) w obs (fun b o => A b o ∨ isIni obs b) w' := by
    refine ⟨⟨fun i p hi => ?_, fun i p hi => ?_, h.ini.dis⟩, fun b o hb => ?_, hlow, fun b o h => h, h.new, h.ch⟩
    · exact ⟨(allPure.at obs hp i p hi _ _ _ (h.ini.ok i p hi).1 (h.ini.own i p hi)).1, fun k hk o => .inr ⟨i, p, hi, hk⟩⟩
    · exact (allPure.at obs hp i p hi _ _ _ (h.ini.ok i p hi).1 (h.ini.own i p hi)).2
    · rcases hb with hb | ⟨i, p, hi, hk⟩
      · exact Nat.lt_of_lt_of_le (hA b o hb) h.ch.size
      · exact Res.ltS (h.ini.ok i p hi).1 (h.ini.own i p hi) hk
  have := hg.next0 hO hA
  exact ⟨_, hlow, this.1, this.2, hg.avok⟩
/-! ### a struct built of parts that are our own -/
theorem own_pr2 {α β : Type} {F : OE α} {G : OE β} {S1 S2 : Nat → Prop} {y : α} {z : β} {c ds : List Value} (h : F.own A w S1 y c) (k : G.own A w S2 z ds) (hd : ∀ k, S1 k → ¬ S2 k) : (oPr F G).own A w (fun k => S1 k ∨ S2 k) (y, z) (c ++ ds) := ⟨c, ds, S1, S2, rfl, h, k, fun _ => Iff.rfl, hd⟩
theorem own_prL {α β : Type} {F : OE α} {G : OE β} {S1 : Nat → Prop} {y : α} {z : β} {c ds : List Value} (h : F.own A w S1 y c) (k : G.own A w (fun _ => False) z ds) : (oPr F G).own A w S1 (y, z) (c ++ ds) := ⟨c, ds, S1, _, rfl, h, k, fun _ => ⟨.inl, fun h => h.elim id fun h => h.elim⟩, fun _ _ h => h⟩
theorem own_prR {α β : Type} {F : OE α} {G : OE β} {S2 : Nat → Prop} {y : α} {z : β} {c ds : List Value} (h : F.own A w (fun _ => False) y c) (k : G.own A w S2 z ds) : (oPr F G).own A w S2 (y, z) (c ++ ds) := ⟨c, ds, _, S2, rfl, h, k, fun _ => ⟨.inr, fun h => h.elim (fun h => h.elim) id⟩, fun _ h => h.elim⟩
theorem own_sl_cell {α : Type} {F : OE α} {T : TypeId} {S : Nat → Prop} {xs : List α} {cs : List Value} (h : (oSl T F).own A w S xs cs) : ∃ a n c, cs = [.slice a n c] := by
  rcases h with ⟨rfl, _, _⟩ | ⟨g, c, arr, Si, rfl, _⟩
  · exact ⟨_, _, _, rfl⟩
  · exact ⟨_, _, _, rfl⟩
end
end Go.Proofs.Ytmgiijdejigdhaa
