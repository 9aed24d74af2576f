/- slices.Insert and slices.Delete at rows of trees of two cells. No statement of the seat is proved here. -/
import Derived.Test.YtmgiijdejigdhaaProg
import Derived.Test.YtmgiijdejigdhaaIl
import Derived.Test.YtmgiijdejigdhaaMp
import Derived.WalkKit
import Derived.Deep.RegionLaw
import Derived.Deep.RegionWith
import Derived.OwnWalk
import Derived.Lib.Walk
import Derived.Lib.SliceRun
import Derived.Laws.IdiomCopy
import Derived.Lib.AppendZerosOnto
import Derived.Lib.AppendZeros
import Derived.Lib.JoinLaws
import Derived.Lib.Overlaps
import Derived.Laws.NewBlocks
namespace Go.Proofs.Ytmgiijdejigdhaa
open Go.RowKit Go.Lib
set_option linter.unusedVariables false
theorem puts_blk {b : Nat} {T : TypeId} : ∀ (vs : List Value) (o : Nat) {w : World} {arr : Array Value}, Blk w b T arr → ∃ arr', Blk (w.setCells b o vs) b T arr' ∧ arr'.size = arr.size
  | [], o, w, arr, h => ⟨arr, h, rfl⟩
  | v :: vs, o, w, arr, h => by
    obtain ⟨a, h1, h2⟩ := puts_blk vs (o + 1) (h.put o v)
    refine ⟨a, ?_, by rw [h2, Array.size_setIfInBounds]⟩
    rw [World.setCells]
    exact h1
theorem puts_wr (b : Nat) : ∀ (vs : List Value) (o : Nat) (w : World), Wr b w (w.setCells b o vs)
  | [], o, w => Wr.refl b w
  | v :: vs, o, w => by
    rw [World.setCells]
    exact (Wr.setCell w b o v).trans (puts_wr b vs (o + 1) _)

abbrev zIS : Value := .agg #[.int .i64 0, .slice none 0 0]
theorem wr_of {w : World} {b o : Nat} {vs : List Value} : Wr b w (w.drew.setCells b o vs) := by
  have h := puts_wr b vs o w.drew
  exact ⟨h.os, h.tape, h.output, h.size, h.block, fun k => Nat.le_trans (Nat.le_succ _) (h.drawn k)⟩
theorem clear1 {P : Program} (w : World) (t e ty : TypeId) (z : Value) (ht : P.underlying t = some (.slice e)) (hv : ∀ w, (zeroValue e).run P w = .ok z w) (h1 : ∀ v ∈ z.cells.toList, v.oneCell' = true) (b o c : Nat)
    (hc : ∀ j, j < z.cells.size → (w.cell? ⟨b, o + j, none⟩).isSome = true) (hf : ∀ j, j < z.cells.size → w.frozen? ⟨b, o + j, none⟩ = false) :
    (Builtin.clear_ #[t] ty #[.slice (some ⟨b, o, none⟩) 1 c]).run P w = .ok (.tuple #[]) (w.setCells b o z.cells.toList) := by
  have hzc : Builtin.zeroCells z.cells 1 = z.cells := by
    simp only [Builtin.zeroCells]
    refine Array.ext (by simp) fun i h1 h2 => ?_
    simp [Nat.mod_eq_of_lt h2, getElem!_pos z.cells i h2]
  have hst := run_storeCells_cells (P := P) b o z.cells.toList 0 w (by simpa using hc) (by simpa using hf) h1
  simp only [Nat.add_zero] at hst
  simp [Builtin.clear_, run_underlying ht, hv, hzc, hst]
set_option maxHeartbeats 4000000 in
set_option maxRecDepth 100000 in
theorem del_calls {w : World} {b n c i : Nat} {arr : Array Value} (hk : Blk w b 55 arr) (hsz : arr.size = c * 2) (hnc : n ≤ c) (hi : i < n) (hc : c ≤ maxLen) (hoc : ∀ v ∈ arr.toList.take (n * 2), v.oneCell' = true) :
    Calls Try.prog 29 #[.slice (some ⟨b, 0, none⟩) n c, .int .i64 (i : Int), .int .i64 ((i : Int) + 1)] w fun e w' => e = .returned (.slice (some ⟨b, 0, none⟩) (n - 1) c) ∧ ∃ W1, W1 = w.drew.setCells b (i * 2) ((arr.toList.take (n * 2)).drop ((i + 1) * 2)) ∧ w' = W1.setCells b ((n - 1) * 2) [.int .i64 0, .slice none 0 0] := by
  have hm : c ≤ 9223372036854775807 := by unfold maxLen at hc; omega
  obtain ⟨news, hnews⟩ : ∃ news, news = (arr.toList.take (n * 2)).drop ((i + 1) * 2) := ⟨_, rfl⟩
  have e0 : arr.toList.length = arr.size := Array.length_toList
  have hcl : (arr.toList.take (n * 2)).length = n * 2 := by rw [List.length_take]; omega
  have hlen : news.length = (n - (i + 1)) * 2 := by rw [hnews, List.length_drop, hcl]; omega
  have hget : ∀ t, t < (n - (i + 1)) * 2 → news[t]? = arr[(i + 1) * 2 + t]? := fun t ht => by
    rw [hnews, List.getElem?_drop, List.getElem?_take_of_lt (by omega), Array.getElem?_toList]
  obtain ⟨A, hA, hsrc⟩ : ∃ A : Addr, (if c = i + 1 then some (⟨b, 0, none⟩ : Addr) else some ⟨b, (i + 1) * 2, none⟩) = some A ∧ Hid (∀ t u, news[t]? = some u → w.drew.cell? (A.add t) = some u) := by
    by_cases h : c = i + 1
    · refine ⟨⟨b, 0, none⟩, by simp [h], fun t u hu => ?_⟩
      have := (List.getElem?_eq_some_iff.1 hu).1
      omega
    · refine ⟨⟨b, (i + 1) * 2, none⟩, by simp [h], fun t u hu => ?_⟩
      have ht := (List.getElem?_eq_some_iff.1 hu).1
      rw [hlen] at ht
      rw [hget t ht] at hu
      rw [Addr.add_lit]
      exact (hk.cell _).trans hu
  have s1 : Hid (news.length = (n - (i + 1)) * 2) := hlen
  have s2 : Hid (∀ u ∈ news, u.oneCell' = true) := fun u hu => hoc u (List.mem_of_mem_drop (hnews ▸ hu))
  have s3 : Hid (∀ t, t < news.length → (w.drew.cell? ⟨b, 0 + i * 2 + t, none⟩).isSome = true ∧ w.drew.frozen? ⟨b, 0 + i * 2 + t, none⟩ = false) := fun t ht => by
    rw [hlen] at ht
    refine ⟨?_, hk.frozen _⟩
    show (w.cell? _).isSome = true
    rw [hk.cell, Array.getElem?_eq_getElem (by omega)]
    rfl
  obtain ⟨W1, hW1⟩ : ∃ W1, W1 = w.drew.setCells b (0 + i * 2) news := ⟨_, rfl⟩
  obtain ⟨a1, k1, z1⟩ := puts_blk (T := 55) (arr := arr) news (0 + i * 2) (w := w.drew) hk
  rw [← hW1] at k1
  have hcl : ∀ ty, (Builtin.clear_ #[28] ty #[.slice (some ⟨b, (i + (n - (i + 1))) * 2, none⟩) (n - (i + (n - (i + 1)))) (c - (i + (n - (i + 1))))]).run Try.prog W1 = .ok (.tuple #[]) (W1.setCells b ((i + (n - (i + 1))) * 2) [.int .i64 0, .slice none 0 0]) := fun ty => by
    rw [show n - (i + (n - (i + 1))) = 1 by omega]
    exact clear1 (P := Try.prog) W1 28 55 ty zIS Try.underlying28 Try.zeroValue55 (by intro v hv; simp [Value.cells] at hv; rcases hv with rfl | rfl <;> rfl) b _ _ (fun j hj => by rw [k1.cell, Array.getElem?_eq_getElem (by have : j < 2 := hj; omega)]; rfl) (fun j _ => k1.frozen _)
  have hW : Hid (W1 = w.drew.setCells b (0 + i * 2) news) := hW1
  have hic : i ≤ c := by omega
  have hjc : i + 1 ≤ c := by omega
  have hp3 : ¬ (c = i + (n - (i + 1))) := by omega
  have hp4 : i + (n - (i + 1)) ≤ n := by omega
  have hinf : Try.prog.info? 55 = some Try.t55 := by kernel_rfl
  have ha55 := Try.isAgg55
  have hp1 : (0 : Int) ≤ (i : Int) + 1 := by omega
  have hp2 : (i : Int) + 1 ≤ (n : Int) := by omega
  have hnw : Hid (news = (arr.toList.take (n * 2)).drop ((i + 1) * 2)) := hnews
  clear hW1 hk k1 hget hnews hlen
  go_enter Try.func29, Try.ntmps29
  go_wp2_with fail
  go_region_law (refine step_append_room rfl (.tmp 22) (.tmp 25) 28 rfl 55 Try.t55 2 Try.underlying28 hinf rfl b 0 i c (by simp [Act.eval, Act.put]) A (n - (i + 1)) (c - (i + 1)) news (by simp [Act.eval, Act.put]) s1.out hsrc.out s2.out (by omega) s3.out ?_; rw [← hW.out])
  go_wp2
  go_ret
  have e : i + (n - (i + 1)) = n - 1 := by omega
  refine ⟨by rw [← e]; rfl, _, rfl, ?_⟩
  rw [e, hW.out, hnw.out, Nat.zero_add]
/-- an element out of a row of trees -/
theorem del_tree {α : Type} {F : OE α} {A : Av} {w : World} {S : Nat → Prop} {xs : List α} {u : Value} (h0 : (oSl 55 F).own A w S xs [u]) (hF : F.E.size = 2) {i : Nat} (hi : i < xs.length) :
    Calls Try.prog 29 #[u, .int .i64 (i : Int), .int .i64 ((i : Int) + 1)] w fun e w' => ∃ v' S', e = .returned v' ∧ Ch S w w' ∧ (∀ k, k < w.heap.size → S' k → S k) ∧ ∀ A', Stp A A' w w' → (oSl 55 F).own A' w' S' (xs.eraseIdx i) [v'] := by
  obtain ⟨L, hE, rfl, h⟩ := own_list h0
  clear h0
  rw [List.length_map] at hi
  rcases h with ⟨_, rfl, _⟩ | ⟨g, c, arr, rfl, hk, hlc, hcm, hsz, hcs, hg, hS⟩
  · exact absurd hi (Nat.not_lt_zero _)
  · rw [hF] at hsz hcs
    have hoc := hE.oc
    rw [← hcs] at hoc
    refine (del_calls (n := L.length) (i := i) hk hsz hlc hi hcm hoc).mono ?_
    rintro e w' ⟨rfl, W1, e1, e2⟩
    rw [hcs] at e1
    have h1 : Wr g w W1 := e1 ▸ wr_of
    have h2 : Wr g w w' := h1.trans (e2 ▸ puts_wr g _ _ _)
    obtain ⟨a1, k1, z1⟩ := puts_blk (T := 55) (arr := arr) ((csOf L).drop ((i + 1) * 2)) (i * 2) (w := w.drew) hk
    rw [← e1] at k1
    obtain ⟨a2, k2, z2⟩ := puts_blk (T := 55) (arr := a1) [.int .i64 0, .slice none 0 0] ((L.length - 1) * 2) (w := W1) k1
    rw [← e2] at k2
    have hcl := hE.len
    rw [hF] at hcl
    have hsub : (L.eraseIdx i).Sublist L := List.eraseIdx_sublist ..
    have hl' : (L.eraseIdx i).length = L.length - 1 := by rw [List.length_eraseIdx, if_pos hi]
    have hdl : ((csOf L).drop ((i + 1) * 2)).length = (L.length - (i + 1)) * 2 := by rw [List.length_drop, hcl]; omega
    have hcs' : a2.toList.take ((L.length - 1) * 2) = csOf (L.eraseIdx i) := by
      rw [List.eraseIdx_eq_take_drop_succ, csOf_append, hE.take, hE.drop, hF]
      refine List.ext_getElem? fun p => ?_
      rcases Nat.lt_or_ge p ((L.length - 1) * 2) with hp | hp
      · rw [List.getElem?_take_of_lt hp, Array.getElem?_toList, ← k2.cell, e2, World.cell?_setCells_out _ _ _ _ _ (fun _ _ => .inl hp), e1]
        rcases Nat.lt_or_ge p (i * 2) with hpi | hpi
        · rw [World.cell?_setCells_out _ _ _ _ _ (fun _ _ => .inl hpi), List.getElem?_append_left (by rw [List.length_take]; omega), List.getElem?_take_of_lt hpi, ← hcs, List.getElem?_take_of_lt (by omega), Array.getElem?_toList]
          exact hk.cell p
        · have := World.cell?_setCells_in g ((csOf L).drop ((i + 1) * 2)) (i * 2) w.drew (fun j hj => by
            rw [hdl] at hj
            show (w.cell? _).isSome = true
            rw [hk.cell, Array.getElem?_eq_getElem (by omega)]
            rfl) (p - i * 2) (by omega)
          rw [show i * 2 + (p - i * 2) = p by omega] at this
          rw [this, List.getElem?_append_right (by rw [List.length_take]; omega), List.length_take, Nat.min_eq_left (by omega)]
          exact (List.getElem?_eq_getElem _).symm
      · rw [List.getElem?_eq_none_iff.2 (by rw [List.length_take]; omega), List.getElem?_eq_none_iff.2 (by rw [List.length_append, List.length_take, hdl]; omega)]
    have hch : Ch S w w' := ⟨h2.os, h2.tape, h2.output, by rw [h2.size]; exact Nat.le_refl _, fun k _ hn => h2.block k fun e => hn ((hS k).2 (.inl e)), h2.drawn⟩
    refine ⟨_, fun k => k = g ∨ inL (L.eraseIdx i) k, rfl, hch, fun k _ hk' => ?_, fun A' hst => ?_⟩
    rotate_left
    · have hE' := (hE.sub hsub).stab (fun k hk' => h2.block k fun e => hg (e ▸ inL_sub hsub hk')) hst
      have := list_own hE' k2 (c := c) (by omega) hcm (by rw [z2, z1, hsz, hF]) (by rw [hl', hF]; exact hcs') (fun h => hg (inL_sub hsub h))
      rw [hl', show (L.eraseIdx i).map (·.1) = (L.map (·.1)).eraseIdx i by rw [List.eraseIdx_eq_take_drop_succ, List.eraseIdx_eq_take_drop_succ, List.map_append, List.map_take, List.map_drop]] at this
      exact this
    · rcases hk' with rfl | hk'
      · exact (hS k).2 (.inl rfl)
      · exact (hS k).2 (.inr (inL_sub hsub hk'))
end Go.Proofs.Ytmgiijdejigdhaa
