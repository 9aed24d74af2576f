/- Maps of the call's own, as functions of their keys. No statement of the seat is proved here. -/
import Derived.Test.YtmgiijdejigdhaaDq
import Derived.Maps.Own
import Derived.Maps.Views
import Derived.Carry
namespace Go.Proofs.Ytmgiijdejigdhaa
open Go.RowKit Go.Maps Go.WideMaps
set_option linter.unusedVariables false
/-- an element reads as itself -/
def rdV (v : Value) : Option (DataW Value × List MemPlace) := some (.held v, [])
/-- block b is a map of at most n entries; f says what stands at a key (none: no entry) -/
def MapAt (P : Program) (k : TypeId) (w : World) (b n : Nat) (f : List UInt8 → Option Value) : Prop :=
  ∃ D : DataW Value, w.ownsMap P k rdV b n D ∧ ∀ s zd, D.atKey (.string s) zd = (match f s with | none => zd | some v => .held v)
variable {P : Program} {k t e : TypeId} {w : World} {b n : Nat} {f : List UInt8 → Option Value}
theorem MapAt.made (P : Program) (k : TypeId) (w : World) : MapAt P k (w.alloc (.map #[] 0)) w.heap.size 0 fun _ => none :=
  ⟨_, World.ownsMap_made w P k rdV, fun _ _ => rfl⟩
theorem MapAt.lt (h : MapAt P k w b n f) : b < w.heap.size := let ⟨_, h, _⟩ := h; h.lt
theorem MapAt.lookup (h : MapAt P k w b n f) (hk : P.underlying k = some .string) (ht : P.underlying t = some (.map k e)) {z : Value} (hz : (zeroValue e).run P w = .ok z w) {s : ByteArray} (hs : s.size ≤ maxLen) :
    (Instr.lookup t (.map (some b)) (.string s) false).run P w = .ok ((f s.data.toList).getD z) w := by
  obtain ⟨D, hD, hf⟩ := h
  obtain ⟨v, ps, hrun, hv⟩ := hD.lookup (Maps.string_keyed hk) ht hz (zd := .held z) (zp := []) rfl (keyOf_string_mk hk hs)
  rw [hf] at hv
  have : v = (f s.data.toList).getD z := by
    cases hfs : f s.data.toList with
    | none => rw [hfs] at hv; exact DataW.held.inj (Prod.mk.inj (Option.some.inj hv)).1
    | some u => rw [hfs] at hv; exact DataW.held.inj (Prod.mk.inj (Option.some.inj hv)).1
  rw [hrun, this]
theorem MapAt.same {w' : World} (h : MapAt P k w b n f) (hb : w'.heap[b]? = w.heap[b]?) : MapAt P k w' b n f := by
  obtain ⟨D, ⟨es, c, h1, h2⟩, hf⟩ := h
  exact ⟨D, ⟨es, c, hb.trans h1, h2⟩, hf⟩
/-- a map of rows of the call's own: at the key s stands the row ms s (or, where that is empty, perhaps nothing); the rows at the keys of 'out' have been taken out of it (their headers stand there still) -/
def mapSP {α : Type} (P : Program) (k : TypeId) (B : Nat) (T : TypeId) (E : Enc α) (ms : List UInt8 → List α) (out : List (List UInt8)) (n : Nat) : SP where
  P A w S u := ∃ b f, u = .map (some b) ∧ B ≤ b ∧ MapAt P k w b n f ∧ (∀ i, S i ↔ i = b ∨ ∃ s v, s ∉ out ∧ f s = some v ∧ ownsB v i) ∧
    (∀ s, s ∉ out → (f s = none → ms s = []) ∧ ∀ v, f s = some v → (Res.vec B T E (ms s)).ok A v w ∧ ¬ ownsB v b) ∧
    (∀ s s' v v' i, s ∉ out → s' ∉ out → s ≠ s' → f s = some v → f s' = some v' → ownsB v i → ¬ ownsB v' i)
  lt := by
    rintro A w S u i ⟨b, f, rfl, hB, hm, hS, hr, hd⟩ hi
    rcases (hS i).1 hi with rfl | ⟨s, v, hs, hv, ho⟩
    · exact hm.lt
    · exact Res.lt ((hr s hs).2 v hv).1 rfl ho
  stab := by
    rintro A A' w w' S u ⟨b, f, rfl, hB, hm, hS, hr, hd⟩ hb hs
    refine ⟨b, f, rfl, hB, hm.same (hb b ((hS b).2 (.inl rfl))), hS, fun s hn => ⟨(hr s hn).1, fun v hv => ⟨?_, ((hr s hn).2 v hv).2⟩⟩, hd⟩
    exact Res.stab ((hr s hn).2 v hv).1 (fun i hi => hb i ((hS i).2 (.inr ⟨s, v, hn, hv, hi⟩))) hs
/-- made -/
theorem mapSP.made {α : Type} {B : Nat} {T : TypeId} {E : Enc α} {A : Av} (hB : B ≤ w.heap.size) :
    (mapSP P k B T E (fun _ => []) [] 0).P A (w.alloc (.map #[] 0)) (fun i => i = w.heap.size) (.map (some w.heap.size)) :=
  ⟨_, _, rfl, hB, MapAt.made P k w, fun i => ⟨.inl, fun h => h.elim id fun ⟨s, v, _, h, _⟩ => (by cases h)⟩, fun s _ => ⟨fun _ => rfl, fun v h => (by cases h)⟩, fun s s' v v' i _ _ _ h => (by cases h)⟩
/-- looked up: the row comes out -/
theorem mapSP.lookup {α : Type} {B : Nat} {T : TypeId} {E : Enc α} {A : Av} {ms : List UInt8 → List α} {out : List (List UInt8)} {S : Nat → Prop} {u : Value} (h : (mapSP P k B T E ms out n).P A w S u)
    (hk : P.underlying k = some .string) (ht : P.underlying t = some (.map k e)) (hz : (zeroValue e).run P w = .ok (.slice none 0 0) w) {s : ByteArray} (hs : s.size ≤ maxLen) (ho : s.data.toList ∉ out)
    (hnil : (Res.vec B T E ([] : List α)).ok A (.slice none 0 0) w) :
    ∃ v S', (Instr.lookup t u (.string s) false).run P w = .ok v w ∧ (Res.vec B T E (ms s.data.toList)).ok A v w ∧ (mapSP P k B T E ms (s.data.toList :: out) n).P A w S' u ∧ (∀ i, S i ↔ S' i ∨ ownsB v i) ∧ ∀ i, ownsB v i → ¬ S' i := by
  obtain ⟨b, f, rfl, hB, hm, hS, hr, hd⟩ := h
  have hrun := hm.lookup hk ht hz hs
  refine ⟨(f s.data.toList).getD (.slice none 0 0), fun i => i = b ∨ ∃ s' v, s' ∉ s.data.toList :: out ∧ f s' = some v ∧ ownsB v i, hrun, ?_, ⟨b, f, rfl, hB, hm, fun i => Iff.rfl, fun s' hs' => hr s' fun h => hs' (.tail _ h), fun s1 s2 v1 v2 i h1 h2 => hd s1 s2 v1 v2 i (fun h => h1 (.tail _ h)) fun h => h2 (.tail _ h)⟩, fun i => ?_, fun i hi h => ?_⟩
  · cases hf : f s.data.toList with
    | none => rw [(hr _ ho).1 hf]; exact hnil
    | some v => exact ((hr _ ho).2 v hf).1
  · rw [hS i]
    constructor
    · rintro (rfl | ⟨s', v, h1, h2, h3⟩)
      · exact .inl (.inl rfl)
      · by_cases e : s' = s.data.toList
        · subst e; exact .inr (by rw [h2]; exact h3)
        · exact .inl (.inr ⟨s', v, fun h => (List.mem_cons.1 h).elim e h1, h2, h3⟩)
    · rintro ((rfl | ⟨s', v, h1, h2, h3⟩) | h)
      · exact .inl rfl
      · exact .inr ⟨s', v, fun h => h1 (.tail _ h), h2, h3⟩
      · cases hf : f s.data.toList with
        | none => rw [hf] at h; exact h.elim
        | some v => rw [hf] at h; exact .inr ⟨_, v, ho, hf, h⟩
  · cases hf : f s.data.toList with
    | none => rw [hf] at hi; exact hi.elim
    | some v =>
      rw [hf] at hi
      rcases h with rfl | ⟨s', v', h1, h2, h3⟩
      · exact ((hr _ ho).2 v hf).2 hi
      · exact hd _ s' v v' i ho (fun h => h1 (.tail _ h)) (fun e => h1 (e ▸ .head _)) hf h2 hi h3
theorem IniOK.snoc {ini : List Ob} {A : Av} {w : World} (h : IniOK ini A w) (p : Ob) (hok : p.r.ok A p.u w) (hav : ∀ k, p.S k → ∀ o, A k o) (hown : p.r.own A p.u p.S w) (hd : ∀ (j : Nat) q, ini[j]? = some q → ∀ k, p.S k → ¬ q.S k) : IniOK (ini ++ [p]) A w := by
  have hat : ∀ (j : Nat) q, (ini ++ [p])[j]? = some q → ini[j]? = some q ∨ j = ini.length ∧ q = p := fun j q hq => by
    rcases Nat.lt_or_ge j ini.length with hl | hl
    · rw [List.getElem?_append_left hl] at hq; exact .inl hq
    · rw [List.getElem?_append_right hl] at hq
      cases hj : j - ini.length with
      | zero => rw [hj] at hq; exact .inr ⟨by omega, (Option.some.inj hq).symm⟩
      | succ m => rw [hj] at hq; cases hq
  refine ⟨fun j q hq => ?_, fun j q hq => ?_, fun i j q q' hq hq' hne k hk hk' => ?_⟩
  · rcases hat j q hq with h1 | ⟨_, rfl⟩
    · exact h.ok j q h1
    · exact ⟨hok, hav⟩
  · rcases hat j q hq with h1 | ⟨_, rfl⟩
    · exact h.own j q h1
    · exact hown
  · rcases hat i q hq with h1 | ⟨e1, rfl⟩
    · rcases hat j q' hq' with h2 | ⟨_, rfl⟩
      · exact h.dis i j q q' h1 h2 hne k hk hk'
      · exact hd i q h1 k hk' hk
    · rcases hat j q' hq' with h2 | ⟨e2, rfl⟩
      · exact hd j q' h2 k hk hk'
      · exact hne (e1.trans e2.symm)
/-- a row comes out of a map -/
theorem IniOK.look {α : Type} {ini : List Ob} {A : Av} {K : Nat → Prop} {B : Nat} {T : TypeId} {E : Enc α} {ms : List UInt8 → List α} {out : List (List UInt8)} {S : Nat → Prop} {u : Value} (h : IniOK ini A w) (i : Nat)
    (hi : ini[i]? = some ⟨u, S, .gen K (mapSP P k B T E ms out n)⟩) (hk : P.underlying k = some .string) (ht : P.underlying t = some (.map k e)) (hz : (zeroValue e).run P w = .ok (.slice none 0 0) w) {s : ByteArray} (hs : s.size ≤ maxLen) (ho : s.data.toList ∉ out)
    (hnil : (Res.vec B T E ([] : List α)).ok A (.slice none 0 0) w) :
    ∃ v S', (Instr.lookup t u (.string s) false).run P w = .ok v w ∧ IniOK (ini.set i ⟨u, S', .gen K (mapSP P k B T E ms (s.data.toList :: out) n)⟩ ++ [ob v (.vec B T E (ms s.data.toList))]) A w ∧ (∀ k, ownsB v k → S k) ∧ ∀ k, S' k → S k := by
  obtain ⟨hK, hP⟩ := h.own i _ hi
  obtain ⟨v, S', hrun, hv, hP', hS, hd⟩ := mapSP.lookup hP hk ht hz hs ho hnil
  have h1 := h.put i hi ⟨u, S', .gen K (mapSP P k B T E ms (s.data.toList :: out) n)⟩ trivial ⟨fun j hj => hK j ((hS j).2 (.inl hj)), hP'⟩ fun j hj => (hS j).2 (.inl hj)
  refine ⟨v, S', hrun, h1.snoc _ hv (fun j hj => (h.ok i _ hi).2 j ((hS j).2 (.inr hj))) rfl (fun j q hq m hm hm' => ?_), fun j hj => (hS j).2 (.inr hj), fun j hj => (hS j).2 (.inl hj)⟩
  have hl := (List.getElem?_eq_some_iff.1 hi).1
  by_cases ej : j = i
  · subst ej
    rw [List.getElem?_set_self hl] at hq
    cases hq
    exact hd m hm hm'
  · rw [List.getElem?_set_ne (Ne.symm ej)] at hq
    exact h.dis i j _ q hi hq (Ne.symm ej) m ((hS m).2 (.inr hm)) hm'
section
variable {R : Reg} {m x y : Operand} {d : Option Nat} {ty : TypeId} {pp : String} {af : Array Edge} {A : Av}
end
section
variable {A : Av} {b : Nat} {o : Obj}
end
/-- a row of one tree -/
theorem took_buildT {R : Reg} {x : Operand} {d : Option Nat} {ty : TypeId} {pp : String} {af : Array Edge} {g : Option (Nat × Bool)} {A : Av} {α : Type} {K Sv : Nat → Prop} {F : OE α} {y : α} {u z : Value} {pins : List Pin} (h : (trP F y pins).P A w Sv u) (hx : evalR R x = u) (hav : ∀ k, Sv k → ∀ o, A k o) (hBv : ∀ k, Sv k → K k) (hB : ∀ k, w.heap.size ≤ k → K k)
    (ht : P.underlying t = some (.slice e)) (hsz : ∀ w, (sizeOf e).run P w = .ok F.E.size w) (hz : ∀ w, (zeroValue e).run P w = .ok z w) (hlim : Nat.ble (1 * F.E.size) 16777216 = true) :
    OpR P ⟨d, .buildSlice t 1 #[(0, x)], ty, pp, af, g⟩ R w (TookS A true u Sv (trR K (oSl e F) [y] []) (fun _ => .any) w) := by
  obtain ⟨⟨cs, rfl, h⟩, _⟩ := h
  have hrow : Row F.E av0 w R [x] [y] := ⟨⟨cs, hx, F.rep (A0 := av0) h (fun _ _ h => h.elim) fun _ _ _ h => h⟩, trivial⟩
  have hrun := run_build_op (d := d) (t := ty) (p := pp) (af := af) (g := g) hrow ht hsz hz (n := 1) rfl hlim
  have hcl := F.cells h
  have harr : (([x].map (evalR R)).flatMap fun v => v.cells.toList).toArray = cs.toArray := by
    show ((evalR R x).cells.toList ++ []).toArray = _
    rw [hx, hcl, List.append_nil]
  rw [harr] at hrun
  have hf := Fr.alloc w (.cells cs.toArray e)
  have hsub : ∀ k, k < w.heap.size → (k = w.heap.size ∨ Sv k) → Sv k := fun k hk h => h.elim (fun e => absurd e (by omega)) id
  have hst := stp_swapS (S'' := fun k => k = w.heap.size ∨ Sv k) hav (hf.ch Sv) hsub
  refine opr_val hrun ⟨_, fun k => k = w.heap.size ∨ Sv k, rfl, hf.ch Sv, hsub, hst, trivial, ⟨fun k hk => hk.elim (fun e => hB k (Nat.le_of_eq (Eq.symm e))) (hBv k), ⟨[.slice (some ⟨w.heap.size, 0, none⟩) 1 1], rfl, .inr ⟨w.heap.size, 1, cs.toArray, fun _ => Sv, rfl, Blk.new w e cs.toArray, Nat.le_refl _, by unfold maxLen; omega, ?_, ?_, ?_, ?_, ?_⟩⟩, fun q hq => by cases hq⟩, trivial⟩
  · rw [List.size_toArray, F.len h, Nat.one_mul]
  · intro i y' hy
    cases i with
    | zero =>
      cases hy
      refine ⟨cs, F.stab h (fun k hk => hf.block k (F.lt h hk)) hst, fun j u hj => ?_⟩
      rw [Nat.zero_mul, Nat.zero_add, List.getElem?_toArray]
      exact hj
    | succ i => cases hy
  · intro i j k hi hj hne
    have h1 : i < 1 := hi
    have h2 : j < 1 := hj
    exact absurd (show i = j by omega) hne
  · intro i _ hk
    exact absurd (F.lt h hk) (Nat.lt_irrefl _)
  · intro k
    exact ⟨fun h => h.imp id fun h => ⟨0, Nat.zero_lt_one, h⟩, fun h => h.imp id fun ⟨_, _, h⟩ => h⟩
/-- a tree behind a row of trees -/
theorem append_tree {A : Av} {α : Type} {F : OE α} {xs : List α} {y : α} {S1 S2 : Nat → Prop} {u1 u2 : Value} {ty : TypeId} (h1 : (oSl e F).own A w S1 xs [u1]) (h2 : (oSl e F).own A w S2 [y] [u2]) (hd : ∀ k, S1 k → ¬ S2 k)
    (ht : P.underlying t = some (.slice e)) (he : ElF P e F.E.size) (hb : e ≠ tByte) (hl : lenOK (xs.length + 1) = true) :
    ∃ v' w' S', (Builtin.append_ #[t, t] ty #[u1, u2]).run P w = .ok v' w' ∧ Ch S1 w w' ∧ (∀ k, k < w.heap.size → S' k → S1 k ∨ S2 k) ∧ ∀ A', Stp A A' w w' → (oSl e F).own A' w' S' (xs ++ [y]) [v'] := by
  obtain ⟨inf, z, b, hi, hz, hs, hby, hzs, hs0, hb4⟩ := he
  have hl := lenOK_le hl
  have hbytes : (xs.length + 1) * b ≤ 140737488355328 := by
    have := Nat.mul_le_mul hl hb4
    omega
  have hm : xs.length + 1 ≤ maxLen := by unfold maxLen; omega
  obtain ⟨h0, _, _⟩ | ⟨g2, c2, arr2, Si2, e2, hk2, _, _, hz2, hE2⟩ := h2
  · exact absurd ‹[y] = []› (by simp)
  obtain rfl := (List.cons.inj e2).1
  obtain ⟨ds, hds, hat2⟩ := hE2.el 0 y rfl
  have hdl : ds.length = F.E.size := F.len hds
  -- the row as cells
  have hrow : ∃ (cs : List Value) (Si : Nat → Nat → Prop), RowM w 0 e F.E.size u1 xs.length cs ∧ (∀ k, ownsB u1 k → S1 k) ∧ (∀ i x, xs[i]? = some x → ∃ ds, F.own A w (Si i) x ds ∧ ∀ (j : Nat) u, ds[j]? = some u → cs[i * F.E.size + j]? = some u) ∧
      (∀ i j k, i < xs.length → j < xs.length → i ≠ j → Si i k → ¬ Si j k) ∧ (∀ i k, i < xs.length → Si i k → ¬ ownsB u1 k) ∧ (∀ i k, i < xs.length → Si i k → S1 k) ∧ ∀ k, S1 k → ownsB u1 k ∨ ∃ i, i < xs.length ∧ Si i k := by
    rcases h1 with ⟨e1, rfl, hS⟩ | ⟨g, c, arr, Si, e1, hk, hlc, hcm, hsz, hE⟩
    · obtain rfl := (List.cons.inj e1).1
      exact ⟨[], fun _ _ => False, ⟨by simp, .inl ⟨rfl, rfl⟩⟩, fun k h => h.elim, fun i x h => by simp at h, fun i j k h => absurd h (Nat.not_lt_zero _), fun i k h => absurd h (Nat.not_lt_zero _), fun i k h => absurd h (Nat.not_lt_zero _), fun k h => absurd h (hS k)⟩
    · obtain rfl := (List.cons.inj e1).1
      have hle : xs.length * F.E.size ≤ arr.size := hsz ▸ Nat.mul_le_mul_right _ hlc
      refine ⟨arr.toList.take (xs.length * F.E.size), Si, ⟨by have e0 : arr.toList.length = arr.size := Array.length_toList; rw [List.length_take, e0, Nat.min_eq_left hle], .inr ⟨g, c, arr, rfl, Nat.zero_le _, BlkM.of hk, hlc, hcm, hsz, rfl⟩⟩, fun k hk => (hE.set k).2 (.inl (Eq.symm hk)), fun i x hx => ?_, hE.dis, fun i k hi hk h => hE.out i hi (show Si i g from (show g = k from h) ▸ hk), fun i k hi hk => (hE.set k).2 (.inr ⟨i, hi, hk⟩), fun k hk => ((hE.set k).1 hk).imp (fun h => (Eq.symm h)) id⟩
      obtain ⟨ds', h3, h4⟩ := hE.el i x hx
      refine ⟨ds', h3, fun j u hj => ?_⟩
      have hil : i < xs.length := (List.getElem?_eq_some_iff.1 hx).1
      have hjl : j < F.E.size := by have := (List.getElem?_eq_some_iff.1 hj).1; rw [F.len h3] at this; exact this
      have hlt : i * F.E.size + j < xs.length * F.E.size := by
        have := Nat.mul_le_mul_right F.E.size (show i + 1 ≤ xs.length from hil)
        rw [Nat.add_mul, Nat.one_mul] at this
        omega
      rw [List.getElem?_take_of_lt hlt, Array.getElem?_toList]
      exact h4 j u hj
  obtain ⟨cs, Si, hown, hu1, hel, hdis, hout, hin, hcov⟩ := hrow
  obtain ⟨v', w', hrun, hown', hch, hsame⟩ := run_append_M (P := P) (T := t) (ty := ty) w ht hi hz hs hby hzs hs0 hown ⟨g2, 0, none⟩ 1 c2 ds (by rw [hdl, Nat.one_mul]) (fun j v hj => by
    have := hat2 j v hj
    rw [Nat.zero_mul, Nat.zero_add] at this
    rw [addr_add]
    show w.cell? ⟨g2, 0 + j, none⟩ = _
    rw [Nat.zero_add]
    exact (hk2.cell _).trans this) (F.oc hds) hm hbytes (Nat.zero_le _)
  obtain ⟨hcl, hv⟩ := hown'
  have hcl1 := hown.1
  rcases hv with ⟨_, h⟩ | ⟨g', cap, cur, rfl, _, hk', hnc, hcm', hsz', htk⟩
  · omega
  let Si' : Nat → Nat → Prop := fun i => if i < xs.length then Si i else Si2 0
  have hS2 : ∀ k, Si2 0 k → S2 k := fun k hk => (hE2.set k).2 (.inr ⟨0, Nat.zero_lt_one, hk⟩)
  have hg' : ∀ k, k < w.heap.size → k = g' → ownsB u1 k := fun k hk e => hsame k hk (show g' = k from e.symm)
  have hp : ∀ i, i < xs.length → Si' i = Si i := fun i c => if_pos c
  have hq : ∀ i, ¬ i < xs.length → Si' i = Si2 0 := fun i c => if_neg c
  have hcur : ∀ (m : Nat) u, (cs ++ ds)[m]? = some u → cur[m]? = some u := fun m u h => by
    rw [← htk, List.getElem?_take] at h
    split at h
    · rwa [Array.getElem?_toList] at h
    · cases h
  refine ⟨_, w', fun k => k = g' ∨ (∃ i, i < xs.length + 1 ∧ Si' i k), hrun, ⟨hch.os, hch.tape, hch.output, hch.size, fun k hk hn => hch.block k hk fun h => hn (hu1 k h), hch.drawn⟩, fun k hk h => ?_, fun A' hst => .inr ⟨g', cap, cur, Si', by rw [List.length_append]; rfl, hk'.plain hb, by rw [List.length_append]; exact hnc, hcm', hsz', ⟨fun i x hx => ?_, fun i j k hi hj hne h h' => ?_, fun i hi h => ?_, fun k => by rw [List.length_append]; exact Iff.rfl⟩⟩⟩
  · rcases h with h | ⟨i, _, h⟩
    · exact .inl (hu1 k (hg' k hk h))
    · by_cases c : i < xs.length
      · rw [hp i c] at h; exact .inl (hin i k c h)
      · rw [hq i c] at h; exact .inr (hS2 k h)
  · by_cases c : i < xs.length
    · rw [List.getElem?_append_left c] at hx
      obtain ⟨d1, h3, h4⟩ := hel i x hx
      refine ⟨d1, by rw [hp i c]; exact F.stab h3 (fun k hk => hch.block k (F.lt h3 hk) (hout i k c hk)) hst, fun j u hj => hcur _ _ ?_⟩
      have h5 := h4 j u hj
      rw [List.getElem?_append_left (List.getElem?_eq_some_iff.1 h5).1]
      exact h5
    · have hi' := (List.getElem?_eq_some_iff.1 hx).1
      rw [List.length_append] at hi'
      have hi'' : i < xs.length + 1 := hi'
      obtain rfl : i = xs.length := by omega
      rw [List.getElem?_append_right (Nat.le_refl _), Nat.sub_self] at hx
      cases hx
      refine ⟨ds, by rw [hq _ c]; exact F.stab hds (fun k hk => hch.block k (F.lt hds hk) fun h => hd k (hu1 k h) (hS2 k hk)) hst, fun j u hj => hcur _ _ ?_⟩
      rw [List.getElem?_append_right (by rw [hcl1]; exact Nat.le_add_right _ _), hcl1, Nat.add_sub_cancel_left]
      exact hj
  · rw [List.length_append] at hi hj
    have hi' : i < xs.length + 1 := hi
    have hj' : j < xs.length + 1 := hj
    by_cases ci : i < xs.length
    · rw [hp i ci] at h
      by_cases cj : j < xs.length
      · rw [hp j cj] at h'; exact hdis i j k ci cj hne h h'
      · rw [hq j cj] at h'; exact hd k (hin i k ci h) (hS2 k h')
    · rw [hq i ci] at h
      by_cases cj : j < xs.length
      · rw [hp j cj] at h'; exact hd k (hin j k cj h') (hS2 k h)
      · omega
  · by_cases ci : i < xs.length
    · rw [hp i ci] at h
      obtain ⟨d1, h3, _⟩ := hel i _ (List.getElem?_eq_getElem ci)
      exact hout i g' ci h (hg' g' (F.lt h3 h) rfl)
    · rw [hq i ci] at h
      exact hd g' (hu1 g' (hg' g' (F.lt hds h) rfl)) (hS2 g' h)
end Go.Proofs.Ytmgiijdejigdhaa
