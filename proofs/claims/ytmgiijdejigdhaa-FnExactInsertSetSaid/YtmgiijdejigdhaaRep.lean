/- How an argument of a law reads: relations between the cells of a value and plain Lean data, and their proofs off the form's own reading. No statement of the seat is proved here. -/
import Derived.Test.YtmgiijdejigdhaaBase
import Derived.ProofKit
import Derived.OpenShut
import Derived.Deep.Slices
import Derived.Deep.Fields
import Derived.ChangeSame
namespace Go.Proofs.Ytmgiijdejigdhaa
open Go.RowKit Go.ChangeShapes Go.WideShapes Go.Deep

/-- 'R w B x cs': in w the cells cs hold x, all that they lead to lies below block B -/
abbrev Rel (α : Type) := World → Nat → α → List Value → Prop
def I64 (n : Int) : Prop := (Lit.int .i64 n).wf = true
def intR : Rel Int := fun _ _ n cs => cs = [.int .i64 n] ∧ I64 n
def strR : Rel ByteArray := fun _ _ s cs => cs = [.string s] ∧ s.size ≤ maxLen
def slR {α : Type} (k : Nat) (R : Rel α) : Rel (List α) := fun w B l cs =>
  ∃ (A : Option Addr) (n c : Nat) (es : List (List Value)), cs = [.slice A n c] ∧ n = l.length ∧ n ≤ c ∧ c ≤ maxLen ∧ es.length = l.length ∧ Rd w B k A n es.flatten ∧
    ∀ (i : Nat) x e, l[i]? = some x → es[i]? = some e → e.length = k ∧ R w B x e
def st2R {α β : Type} (R : Rel α) (S : Rel β) : Rel (α × β) := fun w B x cs => ∃ v u, cs = [v, u] ∧ R w B x.1 [v] ∧ S w B x.2 [u]
def st3R {α β γ : Type} (R : Rel α) (S : Rel β) (T : Rel γ) : Rel (α × β × γ) := fun w B x cs => ∃ v u y, cs = [v, u, y] ∧ R w B x.1 [v] ∧ S w B x.2.1 [u] ∧ T w B x.2.2 [y]
def Opens {α : Type} (P : Program) (t : TypeId) (R : Rel α) : Prop :=
  ∀ {H : Type} (enc : TypeId × Value → H) (w : World) (fuel : Nat) (cs : List Value) (x : DataW H × List MemPlace), DataW.trod enc P w 0 (fun _ => true) true fuel t cs = some x → ∃ a, R w w.heap.size a cs

section
variable {P : Program}
theorem opens_int {t : TypeId} (ht : P.underlying t = some (.int .i64)) : Opens P t intR := fun enc w fuel cs x h => by
  obtain ⟨n, h1, _, h2⟩ := DataW.trod_int ht h
  exact ⟨n, h1, h2⟩
theorem opens_str {t : TypeId} (ht : P.underlying t = some .string) : Opens P t strR := fun enc w fuel cs x h => by
  obtain ⟨s, h1, _, h2⟩ := DataW.trod_string ht h
  exact ⟨s, h1, h2⟩
theorem cell_lt {w : World} {a : Addr} {v : Value} (h : w.cell? a = some v) : a.block < w.heap.size := by
  rcases Nat.lt_or_ge a.block w.heap.size with hlt | hge
  · exact hlt
  · unfold World.cell? at h
    rw [Array.getElem?_eq_none hge] at h
    cases h

/-- n lists of k cells, chosen one by one -/
theorem choose_rows {α : Type} (n : Nat) (Q : Nat → List Value → α → Prop) (h : ∀ i, i < n → ∃ cs a, Q i cs a) :
    ∃ (es : List (List Value)) (l : List α), es.length = n ∧ l.length = n ∧ ∀ i x e, l[i]? = some x → es[i]? = some e → Q i e x := by
  induction n with
  | zero => exact ⟨[], [], rfl, rfl, fun i x e h => by simp at h⟩
  | succ n ih =>
    obtain ⟨es, l, h1, h2, h3⟩ := ih fun i hi => h i (by omega)
    obtain ⟨cs, a, hq⟩ := h n (by omega)
    refine ⟨es ++ [cs], l ++ [a], by simp [h1], by simp [h2], fun i x e hx he => ?_⟩
    by_cases hi : i < n
    · rw [List.getElem?_append_left (by omega)] at hx he
      exact h3 i x e hx he
    · by_cases hn : i = n
      · subst hn
        rw [List.getElem?_append_right (by omega)] at hx he
        simp [h1, h2] at hx he
        subst hx he
        exact hq
      · rw [List.getElem?_eq_none (by simp [h2]; omega)] at hx
        cases hx

theorem flatten_at {k : Nat} (hk : 0 < k) : ∀ (es : List (List Value)), (∀ e ∈ es, e.length = k) → ∀ j, es.flatten[j]? = (es[j / k]?).bind fun e => e[j % k]?
  | [], _, j => by simp
  | e :: es, he, j => by
    have hl := he e (by simp)
    rw [List.flatten_cons]
    by_cases hj : j < k
    · rw [List.getElem?_append_left (by omega), Nat.div_eq_of_lt hj, Nat.mod_eq_of_lt hj]
      rfl
    · rw [List.getElem?_append_right (by omega), hl, flatten_at hk es (fun e h => he e (by simp [h])) (j - k)]
      have h1 : j / k = (j - k) / k + 1 := by
        rw [Nat.div_eq_sub_div hk (by omega)]
      have h2 : j % k = (j - k) % k := by
        rw [Nat.mod_eq_sub_mod (by omega)]
      rw [h1, h2]
      rfl
theorem flatten_length {k : Nat} : ∀ (es : List (List Value)), (∀ e ∈ es, e.length = k) → es.flatten.length = es.length * k
  | [], _ => by simp
  | e :: es, he => by
    rw [List.flatten_cons, List.length_append, flatten_length es (fun e h => he e (by simp [h])), he e (by simp), List.length_cons, Nat.add_mul, Nat.one_mul, Nat.add_comm]

theorem opens_slice {α : Type} {t e : TypeId} {k : Nat} {R : Rel α} (ht : P.underlying t = some (.slice e)) (hC : P.cellsOf e = k) (hk : 0 < k) (hR : Opens P e R) : Opens P t (slR k R) := fun enc w fuel cs x h => by
  rcases open_slice ht h with ⟨rfl, _⟩ | ⟨a, len, cap, m, n, D, Pl, rfl, _, hl, hm, hmm, _, hi⟩
  · exact ⟨[], none, 0, 0, [], rfl, rfl, Nat.le_refl _, Nat.zero_le _, rfl, ⟨by simp, fun h => absurd h (by omega)⟩, fun i x e h => by simp at h⟩
  · simp only [if_true] at hmm
    subst hmm
    rw [hC] at hi
    obtain ⟨es, l, h1, h2, h3⟩ := choose_rows len (fun i cs x => cs.length = k ∧ (∀ j, j < k → w.cell? ((a.add (i * k)).add j) = cs[j]?) ∧ R w w.heap.size x cs) fun i hlt => by
      obtain ⟨cs', hc, ht'⟩ := hi i (by omega)
      obtain ⟨_, hcl, hat⟩ := World.cells?_some hc
      obtain ⟨x, hx⟩ := hR enc w n cs' _ ht'
      exact ⟨cs', x, hcl, hat, hx⟩
    have hall : ∀ e ∈ es, e.length = k := fun e he => by
      obtain ⟨i, hi', he'⟩ := List.getElem_of_mem he
      exact (h3 i (l[i]'(by omega)) e (List.getElem?_eq_getElem (by omega)) (by rw [← he']; exact List.getElem?_eq_getElem hi')).1
    refine ⟨l, some a, len, m, es, rfl, h2.symm, hl, hm, by omega, ⟨by rw [flatten_length es hall, h1], fun hn => ?_⟩, fun i x e hx he => ⟨(h3 i x e hx he).1, (h3 i x e hx he).2.2⟩⟩
    obtain ⟨b, off, spot⟩ := a
    have key : ∀ j u, es.flatten[j]? = some u → w.cell? ((⟨b, off, spot⟩ : Addr).add j) = some u := by
      intro j u hu
      rw [flatten_at hk es hall] at hu
      have hjl : j / k < es.length := by
        rcases Nat.lt_or_ge (j / k) es.length with h | h
        · exact h
        · rw [List.getElem?_eq_none h] at hu
          simp at hu
      rw [List.getElem?_eq_getElem hjl] at hu
      have hq := h3 (j / k) (l[j / k]'(by omega)) es[j / k] (List.getElem?_eq_getElem (by omega)) (List.getElem?_eq_getElem hjl)
      have hm := hq.2.1 (j % k) (Nat.mod_lt _ hk)
      rw [Go.Deep.add_add] at hm
      rw [Nat.mul_comm, Nat.div_add_mod] at hm
      rw [hm]
      exact hu
    have h0 : ∃ u, es.flatten[0]? = some u := by
      have hlen := flatten_length es hall
      have : 0 < es.flatten.length := by rw [hlen, h1]; exact Nat.mul_pos hn hk
      exact ⟨_, List.getElem?_eq_getElem this⟩
    obtain ⟨u0, hu0⟩ := h0
    have hc0 := key 0 u0 hu0
    have hspot : spot = none := by simpa [Addr.add] using World.cell?_spot hc0
    subst hspot
    refine ⟨b, off, rfl, by simpa [Addr.add] using cell_lt hc0, fun j u hu => ?_⟩
    have := key j u hu
    unfold Addr.add at this
    split at this
    · next hj => subst hj; simpa using this
    · exact this

/-- the fields of a struct, each of one cell -/
theorem struct_fields {H : Type} {enc : TypeId × Value → H} {w : World} {fuel : Nat} {cs : List Value} {x : DataW H × List MemPlace} {t : TypeId} {fs : Array Field}
    (ht : P.underlying t = some (.struct fs)) (hone : oneCellFields P fs = true) (hC : P.cellsOf t = fs.size) (h : DataW.trod enc P w 0 (fun _ => true) true fuel t cs = some x) :
    cs.length = fs.size ∧ ∃ n, ∀ (j : Nat) (f : Field) (v : Value), fs[j]? = some f → cs[j]? = some v → ∃ y, DataW.trod enc P w 0 (fun _ => true) true n f.type [v] = some y := by
  obtain ⟨xs, n, _, _, hl, hx, hg⟩ := DataW.trod_struct ht h
  refine ⟨hl.trans hC, n, fun j f v hj hv => ?_⟩
  obtain ⟨ho, hk⟩ := hone_of hone j f hj
  have h1 := hg j f hj
  rw [ho, hk] at h1
  have hjl : j < cs.length := (List.getElem?_eq_some_iff.1 hv).1
  have e1 : (cs.drop j).take 1 = [v] := by
    rw [List.drop_eq_getElem_cons hjl, List.getElem?_eq_getElem hjl] at *
    simp only [Option.some.injEq] at hv
    rw [hv]
    rfl
  rw [e1] at h1
  have hjs : j < xs.length := by rw [hx]; exact (Array.getElem?_eq_some_iff.1 hj).1
  exact ⟨xs[j], h1.trans (List.getElem?_eq_getElem hjs)⟩

theorem opens_st2 {α β : Type} {t : TypeId} {f0 f1 : Field} {R : Rel α} {S : Rel β} (ht : P.underlying t = some (.struct #[f0, f1])) (hone : oneCellFields P #[f0, f1] = true) (hC : P.cellsOf t = 2)
    (h0 : Opens P f0.type R) (h1 : Opens P f1.type S) : Opens P t (st2R R S) := fun enc w fuel cs x h => by
  obtain ⟨hl, n, hf⟩ := struct_fields ht hone hC h
  match cs, hl with
  | [v, u], _ =>
    obtain ⟨y, hy⟩ := hf 0 f0 v rfl rfl
    obtain ⟨a, ha⟩ := h0 enc w n _ y hy
    obtain ⟨y, hy⟩ := hf 1 f1 u rfl rfl
    obtain ⟨b, hb⟩ := h1 enc w n _ y hy
    exact ⟨(a, b), v, u, rfl, ha, hb⟩
theorem opens_st3 {α β γ : Type} {t : TypeId} {f0 f1 f2 : Field} {R : Rel α} {S : Rel β} {T : Rel γ} (ht : P.underlying t = some (.struct #[f0, f1, f2])) (hone : oneCellFields P #[f0, f1, f2] = true) (hC : P.cellsOf t = 3)
    (h0 : Opens P f0.type R) (h1 : Opens P f1.type S) (h2 : Opens P f2.type T) : Opens P t (st3R R S T) := fun enc w fuel cs x h => by
  obtain ⟨hl, n, hf⟩ := struct_fields ht hone hC h
  match cs, hl with
  | [v, u, z], _ =>
    obtain ⟨y, hy⟩ := hf 0 f0 v rfl rfl
    obtain ⟨a, ha⟩ := h0 enc w n _ y hy
    obtain ⟨y, hy⟩ := hf 1 f1 u rfl rfl
    obtain ⟨b, hb⟩ := h1 enc w n _ y hy
    obtain ⟨y, hy⟩ := hf 2 f2 z rfl rfl
    obtain ⟨c, hc⟩ := h2 enc w n _ y hy
    exact ⟨(a, b, c), v, u, z, rfl, ha, hb, hc⟩
/-- an argument of a slice's type -/
theorem arg_slice {α : Type} {H : Type} {enc : TypeId × Value → H} {r : Reach} {b0 : Nat} {w : World} {t e : TypeId} {k : Nat} {R : Rel α} {v : Value} {d : DataW H} {p : List MemPlace} (ht : P.underlying t = some (.slice e)) (ho : Opens P t (slR k R))
    (hv : Value.okWide P w r b0 t v) (h : DataW.Trod enc P w 0 (fun _ => true) true t v d p) :
    ∃ A n c l, v = .slice A n c ∧ slR k R w w.heap.size l [.slice A n c] := by
  obtain ⟨A, n, c, rfl⟩ := okWide_slice ht hv
  obtain ⟨fuel, hf⟩ := h
  obtain ⟨l, hl⟩ := ho enc w fuel _ _ hf
  exact ⟨A, n, c, l, rfl, by simpa [Value.cells] using hl⟩
/-- an argument of a struct's type -/
theorem arg_struct {α : Type} {H : Type} {enc : TypeId × Value → H} {r : Reach} {b0 : Nat} {w : World} {t : TypeId} {fs : Array Field} {R : Rel α} {v : Value} {d : DataW H} {p : List MemPlace} (ht : P.underlying t = some (.struct fs)) (ho : Opens P t R)
    (hv : Value.okWide P w r b0 t v) (h : DataW.Trod enc P w 0 (fun _ => true) true t v d p) :
    ∃ l x, v = .agg l.toArray ∧ R w w.heap.size x l := by
  obtain ⟨cs, rfl, _⟩ := okWide_struct ht hv
  obtain ⟨fuel, hf⟩ := h
  obtain ⟨x, hx⟩ := ho enc w fuel _ _ hf
  exact ⟨cs.toList, x, by simp, by simpa [Value.cells] using hx⟩
end
end Go.Proofs.Ytmgiijdejigdhaa
