/- Plain: the search of a violation through the grid. No statement of the seat is proved here. -/
import Derived.Test.YtmkgocdgkdglnaaAlvl
namespace Go.Proofs.Ytmkgocdgkdglnaa
open Go.RowKit
set_option linter.unusedVariables false
set_option linter.unusedSimpArgs false

abbrev LRs := List (List TTst)
/-- the rests of grid vectors, m features long -/
def tl (r : LRs) : Nat → List (List Int)
  | 0 => [[]]
  | m + 1 => (lev r ((5 - m : Nat) : Int)).flatMap fun x => (tl r m).map (x :: ·)
/-- the beginnings of grid vectors -/
def gr (r : LRs) : Nat → List (List Int)
  | 0 => [[]]
  | n + 1 => (gr r n).flatMap fun p => (lev r (n : Int)).map fun x => p ++ [x]
theorem gr_tl {r : LRs} : ∀ n, n ≤ 6 → ((gr r n).flatMap fun p => (tl r (6 - n)).map (p ++ ·)) = tl r 6
  | 0, _ => by
    show ([[]] : List (List Int)).flatMap _ = _
    rw [List.flatMap_singleton]
    show (tl r 6).map (fun t => [] ++ t) = _
    simp
  | n + 1, h => by
    rw [← gr_tl n (by omega)]
    have e : 6 - n = (5 - n) + 1 := by omega
    rw [show 6 - (n + 1) = 5 - n by omega, e, gr, List.flatMap_assoc]
    congr 1
    funext p
    rw [tl, show 5 - (5 - n) = n by omega, List.flatMap_map, List.map_flatMap]
    congr 1
    funext x
    rw [List.map_map]
    congr 1
    funext t
    simp
theorem gr_six (r : LRs) : gr r 6 = tl r 6 := by
  rw [← gr_tl 6 (Nat.le_refl _)]
  show _ = (gr r 6).flatMap fun p => [p ++ []]
  simp
abbrev VF := List Int → Option (List Int × List Int)
/-- what a stage of the search gives: the search of the list T behind p -/
structure Fnd (V : VF) (T : List (List Int)) (p : List Int) (x : Option (Bool × List Int × List Int)) : Prop where
  r : ∃ g' nx', x = some ((T.findSome? fun t => V (p ++ t)).isSome, g', nx') ∧ g'.length = 6 ∧ (∀ a u, (T.findSome? fun t => V (p ++ t)) = some (a, u) → g' = a ∧ nx' = u) ∧ ((T.findSome? fun t => V (p ++ t)) = none → g'.take p.length = p)
theorem fnd_loop {V : VF} {F : List Int → List Int → Option (Bool × List Int × List Int)} {ls : List Int} {f : Nat} {p : List Int} {T : List (List Int)} (hf : f < 6) (hp : p.length = f) (hls : ls.length ≤ 1000)
    (hF : ∀ g nx x, x ∈ ls → g.length = 6 → g.take (f + 1) = p ++ [x] → Fnd V T (p ++ [x]) (F g nx)) :
    ∀ n j k g nx, j + n = ls.length → n < k → g.length = 6 → g.take f = p → Fnd V ((ls.drop j).flatMap fun x => T.map (x :: ·)) p (mvLoop F ls (f : Int) k (j : Int) g nx) := by
  intro n
  induction n with
  | zero =>
    intro j k g nx hj hk hg ht
    obtain ⟨k, rfl⟩ : ∃ q, k = q + 1 := ⟨k - 1, by omega⟩
    obtain rfl : j = ls.length := by omega
    rw [mvLoop, lt_f, cond_false, List.drop_length]
    refine ⟨g, nx, rfl, hg, fun a u h => ?_, fun _ => by rw [hp]; exact ht⟩
    cases h
  | succ n ih =>
    intro j k g nx hj hk hg ht
    obtain ⟨k, rfl⟩ : ∃ q, k = q + 1 := ⟨k - 1, by omega⟩
    have hx := List.getElem?_eq_getElem (show j < ls.length by omega)
    generalize hxe : ls[j] = x at hx
    have hmem : x ∈ ls := by rw [← hxe]; exact List.getElem_mem _
    have hg2 : (g.set f x).take (f + 1) = p ++ [x] := by
      rw [List.take_add_one, List.take_set_of_le (Nat.le_refl _), ht, List.getElem?_set_self (by omega)]
      rfl
    obtain ⟨g', nx', h1, h2, h3, h4⟩ := (hF (g.set f x) nx x hmem (by rw [List.length_set]; exact hg) hg2).r
    rw [mvLoop, lt_t (at_lt hx), cond_true, ck_t (inR_t (at_lt hx)), ck_t (inR_t (by omega)), gtD_get hx, Int.toNat_natCast, h1, cl_true]
    have es : ((ls.drop j).flatMap fun x => T.map (x :: ·)).findSome? (fun t => V (p ++ t)) = ((T.findSome? fun t => V ((p ++ [x]) ++ t)).or (((ls.drop (j + 1)).flatMap fun x => T.map (x :: ·)).findSome? fun t => V (p ++ t))) := by
      rw [drop_cons hx, List.flatMap_cons, List.findSome?_append, List.findSome?_map]
      congr 2
      funext t
      simp
    cases hS : T.findSome? fun t => V ((p ++ [x]) ++ t) with
    | some au =>
      obtain ⟨a, u⟩ := au
      obtain ⟨rfl, rfl⟩ := h3 a u hS
      rw [hS] at es h4
      rw [show (some ((g', nx') : List Int × List Int)).isSome = true from rfl]
      refine ⟨g', nx', ?_, h2, fun a u h => ?_, fun h => ?_⟩
      · rw [es]
        rfl
      · rw [es] at h
        have h : some ((g', nx') : List Int × List Int) = some (a, u) := h
        injection h with h
        injection h with e1 e2
        exact ⟨e1, e2⟩
      · rw [es] at h
        cases h
    | none =>
      have ht2 := h4 hS
      have ht3 : g'.take f = p := by
        have := congrArg (List.take f) ht2
        rw [List.take_take, List.length_append, List.length_singleton, hp, Nat.min_eq_left (Nat.le_succ f)] at this
        rw [this]
        rw [← hp, List.take_left']
        rfl
      rw [show (none : Option (List Int × List Int)).isSome = false from rfl]
      show Fnd _ _ _ (bif false then _ else _)
      rw [cond_false, ck_t (i64B_n (by omega)), ck_t (by rw [h2, hg]; rfl), succ_i]
      obtain ⟨g2, nx2, k1, k2, k3, k4⟩ := (ih (j + 1) k g' nx' (by omega) (by omega) h2 ht3).r
      rw [hS, Option.none_or] at es
      exact ⟨g2, nx2, by rw [es]; exact k1, k2, by rw [es]; exact k3, by rw [es]; exact k4⟩
/-- the search from a feature on -/
theorem fnd_from {V : VF} {fu : Nat} {r : LRs} (hlv : ∀ n, (lev r n).length ≤ 10) (hf : 1048577 ≤ fu)
    (hH : ∀ g nx, g.length = 6 → (∀ i : Nat, i < 6 → gtD g (i : Int) ∈ lev r (i : Int)) → ∃ nx', (cl true (M_impl_RulesHold fu r g) fun h => bif h then (cl true (M_impl_raised fu r (six.map (lev r)) g) fun x => some (x.2, g, x.1)) else some (false, g, nx)) = some ((V g).isSome, g, nx') ∧ ∀ a u, V g = some (a, u) → nx' = u)
    (hV : ∀ g a u, V g = some (a, u) → a = g) :
    ∀ m k g nx, m ≤ 6 → m < k → g.length = 6 → (∀ i : Nat, i < 6 - m → gtD g (i : Int) ∈ lev r (i : Int)) → Fnd V (tl r m) (g.take (6 - m)) (mvFrom fu r (six.map (lev r)) k ((6 - m : Nat) : Int) g nx) := by
  intro m
  induction m with
  | zero =>
    intro k g nx hm hk hg hi
    obtain ⟨k, rfl⟩ : ∃ q, k = q + 1 := ⟨k - 1, by omega⟩
    have e : g.take (6 - 0) = g := List.take_of_length_le (by omega)
    obtain ⟨nx', hn1, hn2⟩ := hH g nx hg hi
    rw [mvFrom, show ((((6 - 0 : Nat) : Int) == (6 : Int)) = true) from rfl, cond_true, hn1, e]
    have e2 : ((tl r 0).findSome? fun t => V (g ++ t)) = V g := by
      show ([[]] : List (List Int)).findSome? _ = _
      simp
    cases hv : V g with
    | none =>
      rw [hv] at e2
      refine ⟨g, nx', by rw [e2], hg, ⟨fun a u h => ?_, fun _ => List.take_length⟩⟩
      rw [e2] at h
      cases h
    | some x =>
      obtain ⟨a, u⟩ := x
      rw [hv] at e2
      obtain rfl := hV _ _ _ hv
      obtain rfl := hn2 _ _ hv
      refine ⟨a, nx', by rw [e2], hg, fun b v h => ?_, fun h => ?_⟩
      · rw [e2] at h
        injection h with h
        injection h with e1 e2
        exact ⟨e1, e2⟩
      · rw [e2] at h
        cases h
  | succ m ih =>
    intro k g nx hm hk hg hi
    obtain ⟨k, rfl⟩ : ∃ q, k = q + 1 := ⟨k - 1, by omega⟩
    have e6 : 6 - (m + 1) = 5 - m := by omega
    rw [e6] at hi ⊢
    have hlt : ((5 - m : Nat) : Int) < 6 := by omega
    have hb : ((((5 - m : Nat) : Int) == (6 : Int)) = false) := beq_false_of_ne (by omega)
    have hget : gtD (six.map (lev r)) ((5 - m : Nat) : Int) = lev r ((5 - m : Nat) : Int) := by
      refine gtD_get ?_
      unfold six
      rw [List.map_map, List.getElem?_map, List.getElem?_range (by omega)]
      rfl
    rw [mvFrom, hb, cond_false, ck_t (inR_t (by omega)), ck_t (i64B_t (by omega) (by omega)), hget]
    have h6 : (((5 - m : Nat) : Int) + 1) = ((6 - m : Nat) : Int) := by omega
    rw [h6, tl]
    have hp : (g.take (5 - m)).length = 5 - m := by rw [List.length_take]; omega
    have := fnd_loop (V := V) (F := mvFrom fu r (six.map (lev r)) k ((6 - m : Nat) : Int)) (ls := lev r ((5 - m : Nat) : Int)) (f := 5 - m) (p := g.take (5 - m)) (T := tl r m) (by omega) hp (by have := hlv ((5 - m : Nat) : Int); omega) (fun g2 nx2 x hx hg2 ht2 => by
      have e5 : 5 - m + 1 = 6 - m := by omega
      rw [e5] at ht2
      rw [← ht2]
      refine ih k g2 nx2 (by omega) (by omega) hg2 fun i hi2 => ?_
      have hgi : g2[i]? = (g.take (5 - m) ++ [x])[i]? := by
        rw [← ht2, List.getElem?_take_of_lt hi2]
      by_cases hlast : i = 5 - m
      · subst hlast
        rw [List.getElem?_append_right (by omega), hp, Nat.sub_self] at hgi
        rw [gtD_get hgi]
        exact hx
      · rw [List.getElem?_append_left (by omega), List.getElem?_take_of_lt (by omega)] at hgi
        have := hi i (by omega)
        have hgl := List.getElem?_eq_getElem (show i < g.length by omega)
        rw [gtD_get (hgi.trans hgl)]
        rw [gtD_get hgl] at this
        exact this) (lev r ((5 - m : Nat) : Int)).length 0 fu g nx (by omega) (by have := hlv ((5 - m : Nat) : Int); omega) hg rfl
    rw [List.drop_zero] at this
    exact this
end Go.Proofs.Ytmkgocdgkdglnaa

