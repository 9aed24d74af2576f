/- Maps of the call's own, as functions of their keys. No statement of the seat is proved here. -/
import Derived.Test.YtmgiijdejigdhaaDq
import Derived.Maps.Own
import Derived.Maps.Views
import Derived.Carry
namespace Go.Proofs.Ytmgiijdejigdhaa
open Go.RowKit Go.Maps Go.WideMaps
set_option linter.unusedVariables false
/-- an element reads as itself -/
def rdV (v : Value) : Option (DataW Value × List MemPlace) := some (.held v, [])
/-- block b is a map of at most n entries; f says what stands at a key (none: no entry) -/
def MapAt (P : Program) (k : TypeId) (w : World) (b n : Nat) (f : List UInt8 → Option Value) : Prop :=
  ∃ D : DataW Value, w.ownsMap P k rdV b n D ∧ ∀ s zd, D.atKey (.string s) zd = (match f s with | none => zd | some v => .held v)
variable {P : Program} {k t e : TypeId} {w : World} {b n : Nat} {f : List UInt8 → Option Value}
theorem MapAt.made (P : Program) (k : TypeId) (w : World) : MapAt P k (w.alloc (.map #[] 0)) w.heap.size 0 fun _ => none :=
  ⟨_, World.ownsMap_made w P k rdV, fun _ _ => rfl⟩
theorem MapAt.lt (h : MapAt P k w b n f) : b < w.heap.size := let ⟨_, h, _⟩ := h; h.lt
theorem MapAt.lookup (h : MapAt P k w b n f) (hk : P.underlying k = some .string) (ht : P.underlying t = some (.map k e)) {z : Value} (hz : (zeroValue e).run P w = .ok z w) {s : ByteArray} (hs : s.size ≤ maxLen) :
    (Instr.lookup t (.map (some b)) (.string s) false).run P w = .ok ((f s.data.toList).getD z) w := by
  obtain ⟨D, hD, hf⟩ := h
  obtain ⟨v, ps, hrun, hv⟩ := hD.lookup (Maps.string_keyed hk) ht hz (zd := .held z) (zp := []) rfl (keyOf_string_mk hk hs)
  rw [hf] at hv
  have : v = (f s.data.toList).getD z := by
    cases hfs : f s.data.toList with
    | none => rw [hfs] at hv; exact DataW.held.inj (Prod.mk.inj (Option.some.inj hv)).1
    | some u => rw [hfs] at hv; exact DataW.held.inj (Prod.mk.inj (Option.some.inj hv)).1
  rw [hrun, this]
theorem MapAt.same {w' : World} (h : MapAt P k w b n f) (hb : w'.heap[b]? = w.heap[b]?) : MapAt P k w' b n f := by
  obtain ⟨D, ⟨es, c, h1, h2⟩, hf⟩ := h
  exact ⟨D, ⟨es, c, hb.trans h1, h2⟩, hf⟩
/-- a map of rows of the call's own: at the key s stands the row ms s (or, where that is empty, perhaps nothing); the rows at the keys of 'out' have been taken out of it (their headers stand there still) -/
def mapSP {α : Type} (P : Program) (k : TypeId) (B : Nat) (T : TypeId) (E : Enc α) (ms : List UInt8 → List α) (out : List (List UInt8)) (n : Nat) : SP where
  P A w S u := ∃ b f, u = .map (some b) ∧ B ≤ b ∧ MapAt P k w b n f ∧ (∀ i, S i ↔ i = b ∨ ∃ s v, s ∉ out ∧ f s = some v ∧ ownsB v i) ∧
    (∀ s, s ∉ out → (f s = none → ms s = []) ∧ ∀ v, f s = some v → (Res.vec B T E (ms s)).ok A v w ∧ ¬ ownsB v b) ∧
    (∀ s s' v v' i, s ∉ out → s' ∉ out → s ≠ s' → f s = some v → f s' = some v' → ownsB v i → ¬ ownsB v' i)
  lt := by
    rintro A w S u i ⟨b, f, rfl, hB, hm, hS, hr, hd⟩ hi
    rcases (hS i).1 hi with rfl | ⟨s, v, hs, hv, ho⟩
    · exact hm.lt
    · exact Res.lt ((hr s hs).2 v hv).1 rfl ho
  stab := by
    rintro A A' w w' S u ⟨b, f, rfl, hB, hm, hS, hr, hd⟩ hb hs
    refine ⟨b, f, rfl, hB, hm.same (hb b ((hS b).2 (.inl rfl))), hS, fun s hn => ⟨(hr s hn).1, fun v hv => ⟨?_, ((hr s hn).2 v hv).2⟩⟩, hd⟩
    exact Res.stab ((hr s hn).2 v hv).1 (fun i hi => hb i ((hS i).2 (.inr ⟨s, v, hn, hv, hi⟩))) hs
/-- made -/
theorem mapSP.made {α : Type} {B : Nat} {T : TypeId} {E : Enc α} {A : Av} (hB : B ≤ w.heap.size) :
    (mapSP P k B T E (fun _ => []) [] 0).P A (w.alloc (.map #[] 0)) (fun i => i = w.heap.size) (.map (some w.heap.size)) :=
  ⟨_, _, rfl, hB, MapAt.made P k w, fun i => ⟨.inl, fun h => h.elim id fun ⟨s, v, _, h, _⟩ => (by cases h)⟩, fun s _ => ⟨fun _ => rfl, fun v h => (by cases h)⟩, fun s s' v v' i _ _ _ h => (by cases h)⟩
/-- looked up: the row comes out -/
theorem mapSP.lookup {α : Type} {B : Nat} {T : TypeId} {E : Enc α} {A : Av} {ms : List UInt8 → List α} {out : List (List UInt8)} {S : Nat → Prop} {u : Value} (h : (mapSP P k B T E ms out n).P A w S u)
    (hk : P.underlying k = some .string) (ht : P.underlying t = some (.map k e)) (hz : (zeroValue e).run P w = .ok (.slice none 0 0) w) {s : ByteArray} (hs : s.size ≤ maxLen) (ho : s.data.toList ∉ out)
    (hnil : (Res.vec B T E ([] : List α)).ok A (.slice none 0 0) w) :
    ∃ v S', (Instr.lookup t u (.string s) false).run P w = .ok v w ∧ (Res.vec B T E (ms s.data.toList)).ok A v w ∧ (mapSP P k B T E ms (s.data.toList :: out) n).P A w S' u ∧ (∀ i, S i ↔ S' i ∨ ownsB v i) ∧ ∀ i, ownsB v i → ¬ S' i := by
  obtain ⟨b, f, rfl, hB, hm, hS, hr, hd⟩ := h
  have hrun := hm.lookup hk ht hz hs
  refine ⟨(f s.data.toList).getD (.slice none 0 0), fun i => i = b ∨ ∃ s' v, s' ∉ s.data.toList :: out ∧ f s' = some v ∧ ownsB v i, hrun, ?_, ⟨b, f, rfl, hB, hm, fun i => Iff.rfl, fun s' hs' => hr s' fun h => hs' (.tail _ h), fun s1 s2 v1 v2 i h1 h2 => hd s1 s2 v1 v2 i (fun h => h1 (.tail _ h)) fun h => h2 (.tail _ h)⟩, fun i => ?_, fun i hi h => ?_⟩
  · cases hf : f s.data.toList with
    | none => rw [(hr _ ho).1 hf]; exact hnil
    | some v => exact ((hr _ ho).2 v hf).1
  · rw [hS i]
    constructor
    · rintro (rfl | ⟨s', v, h1, h2, h3⟩)
      · exact .inl (.inl rfl)
      · by_cases e : s' = s.data.toList
        · subst e; exact .inr (by rw [h2]; exact h3)
        · exact .inl (.inr ⟨s', v, fun h => (List.mem_cons.1 h).elim e h1, h2, h3⟩)
    · rintro ((rfl | ⟨s', v, h1, h2, h3⟩) | h)
      · exact .inl rfl
      · exact .inr ⟨s', v, fun h => h1 (.tail _ h), h2, h3⟩
      · cases hf : f s.data.toList with
        | none => rw [hf] at h; exact h.elim
        | some v => rw [hf] at h; exact .inr ⟨_, v, ho, hf, h⟩
  · cases hf : f s.data.toList with
    | none => rw [hf] at hi; exact hi.elim
    | some v =>
      rw [hf] at hi
      rcases h with rfl | ⟨s', v', h1, h2, h3⟩
      · exact ((hr _ ho).2 v hf).2 hi
      · exact hd _ s' v v' i ho (fun h => h1 (.tail _ h)) (fun e => h1 (e ▸ .head _)) hf h2 hi h3
theorem IniOK.snoc {ini : List Ob} {A : Av} {w : World} (h : IniOK ini A w) (p : Ob) (hok : p.r.ok A p.u w) (hav : ∀ k, p.S k → ∀ o, A k o) (hown : p.r.own A p.u p.S w) (hd : ∀ (j : Nat) q, ini[j]? = some q → ∀ k, p.S k → ¬ q.S k) : IniOK (ini ++ [p]) A w := by
  have hat : ∀ (j : Nat) q, (ini ++ [p])[j]? = some q → ini[j]? = some q ∨ j = ini.length ∧ q = p := fun j q hq => by
    rcases Nat.lt_or_ge j ini.length with hl | hl
    · rw [List.getElem?_append_left hl] at hq; exact .inl hq
    · rw [List.getElem?_append_right hl] at hq
      cases hj : j - ini.length with
      | zero => rw [hj] at hq; exact .inr ⟨by omega, (Option.some.inj hq).symm⟩
      | succ m => rw [hj] at hq; cases hq
  refine ⟨fun j q hq => ?_, fun j q hq => ?_, fun i j q q' hq hq' hne k hk hk' => ?_⟩
  · rcases hat j q hq with h1 | ⟨_, rfl⟩
    · exact h.ok j q h1
    · exact ⟨hok, hav⟩
  · rcases hat j q hq with h1 | ⟨_, rfl⟩
    · exact h.own j q h1
    · exact hown
  · rcases hat i q hq with h1 | ⟨e1, rfl⟩
    · rcases hat j q' hq' with h2 | ⟨_, rfl⟩
      · exact h.dis i j q q' h1 h2 hne k hk hk'
      · exact hd i q h1 k hk' hk
    · rcases hat j q' hq' with h2 | ⟨e2, rfl⟩
      · exact hd j q' h2 k hk hk'
      · exact hne (e1.trans e2.symm)
/-- a row comes out of a map -/
theorem IniOK.look {α : Type} {ini : List Ob} {A : Av} {K : Nat → Prop} {B : Nat} {T : TypeId} {E : Enc α} {ms : List UInt8 → List α} {out : List (List UInt8)} {S : Nat → Prop} {u : Value} (h : IniOK ini A w) (i : Nat)
    (hi : ini[i]? = some ⟨u, S, .gen K (mapSP P k B T E ms out n)⟩) (hk : P.underlying k = some .string) (ht : P.underlying t = some (.map k e)) (hz : (zeroValue e).run P w = .ok (.slice none 0 0) w) {s : ByteArray} (hs : s.size ≤ maxLen) (ho : s.data.toList ∉ out)
    (hnil : (Res.vec B T E ([] : List α)).ok A (.slice none 0 0) w) :
    ∃ v S', (Instr.lookup t u (.string s) false).run P w = .ok v w ∧ IniOK (ini.set i ⟨u, S', .gen K (mapSP P k B T E ms (s.data.toList :: out) n)⟩ ++ [ob v (.vec B T E (ms s.data.toList))]) A w ∧ (∀ k, ownsB v k → S k) ∧ ∀ k, S' k → S k := by
  obtain ⟨hK, hP⟩ := h.own i _ hi
  obtain ⟨v, S', hrun, hv, hP', hS, hd⟩ := mapSP.lookup hP hk ht hz hs ho hnil
  have h1 := h.put i hi ⟨u, S', .gen K (mapSP P k B T E ms (s.data.toList :: out) n)⟩ trivial ⟨fun j hj => hK j ((hS j).2 (.inl hj)), hP'⟩ fun j hj => (hS j).2 (.inl hj)
  refine ⟨v, S', hrun, h1.snoc _ hv (fun j hj => (h.ok i _ hi).2 j ((hS j).2 (.inr hj))) rfl (fun j q hq m hm hm' => ?_), fun j hj => (hS j).2 (.inr hj), fun j hj => (hS j).2 (.inl hj)⟩
  have hl := (List.getElem?_eq_some_iff.1 hi).1
  by_cases ej : j = i
  · subst ej
    rw [List.getElem?_set_self hl] at hq
    cases hq
    exact hd m hm hm'
  · rw [List.getElem?_set_ne (Ne.symm ej)] at hq
    exact h.dis i j _ q hi hq (Ne.symm ej) m ((hS m).2 (.inr hm)) hm'
section
variable {R : Reg} {m x y : Operand} {d : Option Nat} {ty : TypeId} {pp : String} {af : Array Edge} {A : Av}
end
section
variable {A : Av} {b : Nat} {o : Obj}
end
end Go.Proofs.Ytmgiijdejigdhaa
