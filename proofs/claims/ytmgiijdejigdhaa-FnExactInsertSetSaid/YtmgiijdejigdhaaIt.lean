/- slices.Insert and slices.Delete at rows of trees of two cells. No statement of the seat is proved here. -/
import Derived.Test.YtmgiijdejigdhaaProg
import Derived.Test.YtmgiijdejigdhaaIl
import Derived.Test.YtmgiijdejigdhaaMp
import Derived.WalkKit
import Derived.Deep.RegionLaw
import Derived.Deep.RegionWith
import Derived.OwnWalk
import Derived.Lib.Walk
import Derived.Lib.SliceRun
import Derived.Laws.IdiomCopy
import Derived.Lib.AppendZerosOnto
import Derived.Lib.AppendZeros
import Derived.Lib.JoinLaws
import Derived.Lib.Overlaps
import Derived.Laws.NewBlocks
namespace Go.Proofs.Ytmgiijdejigdhaa
open Go.RowKit Go.Lib
set_option linter.unusedVariables false
theorem puts_blk {b : Nat} {T : TypeId} : ∀ (vs : List Value) (o : Nat) {w : World} {arr : Array Value}, Blk w b T arr → ∃ arr', Blk (w.setCells b o vs) b T arr' ∧ arr'.size = arr.size
  | [], o, w, arr, h => ⟨arr, h, rfl⟩
  | v :: vs, o, w, arr, h => by
    obtain ⟨a, h1, h2⟩ := puts_blk vs (o + 1) (h.put o v)
    refine ⟨a, ?_, by rw [h2, Array.size_setIfInBounds]⟩
    rw [World.setCells]
    exact h1
theorem puts_wr (b : Nat) : ∀ (vs : List Value) (o : Nat) (w : World), Wr b w (w.setCells b o vs)
  | [], o, w => Wr.refl b w
  | v :: vs, o, w => by
    rw [World.setCells]
    exact (Wr.setCell w b o v).trans (puts_wr b vs (o + 1) _)

theorem wr_of' {w : World} {b o : Nat} {vs : List Value} : Wr b w (w.setCells b o vs).drew := by
  have h := puts_wr b vs o w
  exact ⟨h.os, h.tape, h.output, h.size, h.block, fun k => Nat.le_trans (h.drawn k) (Nat.le_succ _)⟩
theorem shape_blk {w : World} {b : Nat} {T : TypeId} {arr : Array Value} (h : Blk w b T arr) : w.shape? b = some (T, arr.size) := by
  unfold World.shape?
  rw [show w.heap[b]? = _ from h]
abbrev zIS : Value := .agg #[.int .i64 0, .slice none 0 0]
theorem run_copyN {P : Program} (w : World) (dT sT ty elem : TypeId) (size : Nat) (b o dLen dCap : Nat) (a : Addr) (sLen sCap : Nat) (cs : List Value)
    (hu : P.underlying dT = some (.slice elem)) (hs : (P.info? elem).map (·.size) = some size) (hn : cs.length = Nat.min sLen dLen * size)
    (hsrc : ∀ j v, cs[j]? = some v → w.cell? (a.add j) = some v) (hc : ∀ j, j < cs.length → (w.cell? ⟨b, o + j, none⟩).isSome = true) (hf : ∀ j, j < cs.length → w.frozen? ⟨b, o + j, none⟩ = false) (h1 : ∀ v ∈ cs, v.oneCell' = true) :
    (Builtin.copy_ #[dT, sT] ty #[.slice (some ⟨b, o, none⟩) dLen dCap, .slice (some a) sLen sCap]).run P w = .ok (goInt (Nat.min sLen dLen)) (w.setCells b o cs) := by
  have hl := run_loadCells_list (P := P) w a cs hsrc
  have hst := run_storeCells_cells (P := P) b o cs 0 w (by simpa using hc) (by simpa using hf) h1
  cases hq : P.info? elem with
  | none => simp [hq] at hs
  | some i =>
    have hi : i.size = size := by simpa [hq] using hs
    simp [Builtin.copy_, run_underlying hu, Builtin.lenOf, Builtin.firstCells, sizeOf, typeInfo, hq, hi, ← hn, hl, hst]
theorem wp_copy_runN {P : Program} (w : World) {o : Oper} {a : Act} {K : Act → World → Prop} {Q : Exit → Act → World → Prop} (d s : Operand) (t t' : TypeId)
    (ho : o.op = .call { callee := .builtin .copy, args := #[d, s], argTypes := #[t, t'] }) (v u : Value) (hd : a.eval d = v) (hs : a.eval s = u) {v' : Value} {w' : World}
    (hr : (Builtin.copy_ #[t, t'] o.type #[v, u]).run P w = .ok v' w') (h : K (a.put o.dst v') w') : o.wp P a w K Q := by
  unfold Oper.wp execOp
  simp only [ho, resolve, invoke, builtin, Sem.run_bind, Sem.run_pure, Result.andThen_ok, List.map_toArray, List.map_cons, List.map_nil, hd, hs, hr]
  exact h
theorem wpList_copy_runN {P : Program} (w : World) {ops : Array Oper} {rest : List Oper} {o : Oper} {a : Act} {Q : Exit → Act → World → Prop} (hgd : o.guard = none) (d s : Operand) (t t' : TypeId)
    (ho : o.op = .call { callee := .builtin .copy, args := #[d, s], argTypes := #[t, t'] }) (v u : Value) (hd : a.eval d = v) (hs : a.eval s = u) {v' : Value} {w' : World}
    (hr : (Builtin.copy_ #[t, t'] o.type #[v, u]).run P w = .ok v' w') (h : wpList P ops Q rest (a.put o.dst v') w') : wpList P ops Q (o :: rest) a w :=
  wpList_plain hgd fun _ hK => wp_copy_runN w d s t t' ho v u hd hs hr (hK _ _ h)
theorem step_copy_runN {P : Program} {ops : Array Oper} {o : Oper} {a : Act} {w : World} {K : Act → World → Prop} {Q : Exit → Act → World → Prop} {E : Prop}
    (hg : o.guard = none) (d x : Operand) (dT sT : TypeId) (hop : o.op = Op.call { callee := Callee.builtin Builtin.copy, args := #[d, x], argTypes := #[dT, sT] })
    (v u : Value) (hd : a.eval d = v) (hx : a.eval x = u) {v' : Value} {w' : World} (hr : (Builtin.copy_ #[dT, sT] o.type #[v, u]).run P w = .ok v' w') (hK : K (a.put o.dst v') w') :
    if Region.wanted o (yielded ops a.tmps) = true then Oper.wp P o a w K Q else E := by
  have hw : Region.wanted o (yielded ops a.tmps) = true := by simp [Region.wanted, hg]
  rw [if_pos hw]
  unfold Oper.wp
  simp [execOp, hop, resolve, invoke, builtin, hd, hx, hr, Result.andThen]
  exact hK
theorem wr_of {w : World} {b o : Nat} {vs : List Value} : Wr b w (w.drew.setCells b o vs) := by
  have h := puts_wr b vs o w.drew
  exact ⟨h.os, h.tape, h.output, h.size, h.block, fun k => Nat.le_trans (Nat.le_succ _) (h.drawn k)⟩
set_option maxHeartbeats 4000000 in
set_option maxRecDepth 100000 in
/-- room, not at the end: in place -/
theorem ins_shift {w : World} {b n c i vb vc : Nat} {arr varr : Array Value} (hk : Blk w b 55 arr) (hsz : arr.size = c * 2) (hi : i < n) (hroom : n + 1 ≤ c) (hc : c ≤ maxLen) (hvk : Blk w vb 55 varr) (hvs : varr.size = vc * 2) (hvc : 1 ≤ vc) (hvb : vb ≠ b) (hoc : ∀ v ∈ arr.toList.take (n * 2), v.oneCell' = true) (hov : ∀ v ∈ varr.toList.take 2, v.oneCell' = true) :
    Calls Try.prog 39 #[.slice (some ⟨b, 0, none⟩) n c, .int .i64 (i : Int), .slice (some ⟨vb, 0, none⟩) 1 vc] w fun e w' => e = .returned (.slice (some ⟨b, 0, none⟩) (n + 1) c) ∧ ∃ W1, W1 = w.drew.setCells b ((i + 1) * 2) ((arr.toList.take (n * 2)).drop (i * 2)) ∧ w' = W1.setCells b (i * 2) (varr.toList.take 2) := by
  have hm : c ≤ 9223372036854775807 := by unfold maxLen at hc; omega
  have hinf : Try.prog.info? 55 = some Try.t55 := by kernel_rfl
  have hss : (Try.prog.info? 55).map (·.size) = some 2 := by rw [hinf]; rfl
  have e0 : arr.toList.length = arr.size := Array.length_toList
  obtain ⟨vs, hvv⟩ : ∃ vs, vs = varr.toList.take 2 := ⟨_, rfl⟩
  have ev : vs.length = 2 := by rw [hvv, List.length_take, Array.length_toList, hvs]; omega
  rw [← hvv] at hov ⊢
  obtain ⟨news, hnews⟩ : ∃ news, news = (arr.toList.take (n * 2)).drop (i * 2) := ⟨_, rfl⟩
  have hlen : news.length = (n - i) * 2 := by rw [hnews, List.length_drop, List.length_take]; omega
  have hget : ∀ t, t < (n - i) * 2 → news[t]? = arr[i * 2 + t]? := fun t ht => by
    rw [hnews, List.getElem?_drop, List.getElem?_take_of_lt (by omega), Array.getElem?_toList]
  have hsp : ∀ (W : World) (a : Array Value), Blk W b 55 a → a.size = arr.size → ∀ k, k < c * 2 → (W.cell? ⟨b, k, none⟩).isSome = true := fun W a ha hs k hk => by
    rw [ha.cell, Array.getElem?_eq_getElem (by omega)]; rfl
  have hov2 : ∀ lb cb, (callFunc 60 #[.slice (some ⟨vb, 0, none⟩) 1 vc, .slice (some ⟨b, (i + 1) * 2, none⟩) lb cb]).run Try.prog w = .ok (.value (.bool false)) w := fun lb cb => by
    rw [run_callFunc_extern (f := 60) (fn := Try.f60) (by kernel_rfl) (by kernel_rfl) (by kernel_rfl) (by kernel_rfl) (e := Extern.SlicesOverlaps.overlaps #[28, 28] #[4]) (by kernel_rfl),
      Lib.run_overlaps_apart w 28 4 55 Try.underlying28 2 Try.sizeOf55 ⟨vb, 0, none⟩ ⟨b, (i + 1) * 2, none⟩ 1 vc lb cb hvb 55 55 (vc * 2) (c * 2) (by rw [← hvs]; exact shape_blk hvk) (by rw [← hsz]; exact shape_blk hk) (by omega) (hvk.frozen _) (hvk.frozen _)]
    rfl
  have hcp1 : ∀ ty dc sc, (Builtin.copy_ #[28, 28] ty #[.slice (some ⟨b, (i + 1) * 2, none⟩) (n - i) dc, .slice (some ⟨b, i * 2, none⟩) (n + 1 - i) sc]).run Try.prog w.drew = .ok (goInt (Nat.min (n + 1 - i) (n - i))) (w.drew.setCells b ((i + 1) * 2) news) := fun ty dc sc =>
    run_copyN w.drew 28 28 ty 55 2 b ((i + 1) * 2) (n - i) dc ⟨b, i * 2, none⟩ (n + 1 - i) sc news Try.underlying28 hss (by rw [hlen]; simp only [Nat.min_def]; split <;> omega)
      (fun j v hj => by
        have hl := (List.getElem?_eq_some_iff.1 hj).1
        rw [hlen] at hl
        rw [hget j hl] at hj
        rw [Addr.add_lit]
        exact (hk.cell _).trans hj)
      (fun j hj => by rw [hlen] at hj; exact hsp w arr hk rfl _ (by omega)) (fun j _ => hk.frozen _) (fun v hv => hoc v (List.mem_of_mem_drop (hnews ▸ hv)))
  obtain ⟨W1, hW1⟩ : ∃ W1, W1 = w.drew.setCells b ((i + 1) * 2) news := ⟨_, rfl⟩
  have w1 : Wr b w.drew W1 := hW1 ▸ puts_wr b _ _ _
  obtain ⟨a1, k1, z1⟩ := puts_blk (T := 55) (arr := arr) news ((i + 1) * 2) (w := w.drew) hk
  rw [← hW1] at k1
  have kv : Blk W1 vb 55 varr := w1.blk hvb hvk
  have hcp2 : ∀ ty dc, (Builtin.copy_ #[28, 28] ty #[.slice (some ⟨b, i * 2, none⟩) (n + 1 - i) dc, .slice (some ⟨vb, 0, none⟩) 1 vc]).run Try.prog W1 = .ok (goInt (Nat.min 1 (n + 1 - i))) (W1.setCells b (i * 2) vs) := fun ty dc =>
    run_copyN W1 28 28 ty 55 2 b (i * 2) (n + 1 - i) dc ⟨vb, 0, none⟩ 1 vc vs Try.underlying28 hss (by rw [ev]; simp only [Nat.min_def]; split <;> omega)
      (fun j v hj => by
        have hl := (List.getElem?_eq_some_iff.1 hj).1
        rw [hvv, List.getElem?_take_of_lt (by omega), Array.getElem?_toList] at hj
        rw [Addr.add_lit, Nat.zero_add]
        exact (kv.cell _).trans hj)
      (fun j hj => by rw [ev] at hj; exact hsp W1 a1 k1 z1 _ (by omega)) (fun j _ => k1.frozen _) hov
  rw [← hW1] at hcp1
  have HW : Hid (W1 = w.drew.setCells b ((i + 1) * 2) ((arr.toList.take (n * 2)).drop (i * 2))) := hnews ▸ hW1
  have hw1 : IntKind.i64.wrap ((i : Int) + 1) = (i : Int) + 1 := by rw [IntKind.wrap_i64]; omega
  have hz2 : ¬ ((i : Int) = (n : Int)) := by omega
  have hb1 : (0 : Int) ≤ (i : Int) + 1 := by omega
  have hb2 : ¬ (c = i + 1) := by omega
  have hb3 : (i : Int) + 1 ≤ (n : Int) + 1 := by omega
  have hb4 : ¬ (c = i) := by omega
  have hb5 : (i : Int) ≤ (n : Int) + 1 := by omega
  have hin : i ≤ n := by omega
  clear hvv hW1 hnews hlen hget hsp k1 kv w1 z1 hk hvk hss
  go_enter Try.func39, Try.ntmps39
  go_wp2_with (simp only [hov2])
  go_region_law (refine step_copy_runN rfl _ _ 28 28 rfl _ _ (by simp [Act.eval, Act.put]) (by simp [Act.eval, Act.put]) (hcp1 _ _ _) ?_)
  go_wp2_with (at_builtin; refine wpList_copy_runN _ rfl _ _ 28 28 rfl _ _ rfl rfl (hcp2 _ _) ?_)
  go_ret
  exact ⟨rfl, W1, HW.out, rfl⟩
set_option maxHeartbeats 4000000 in
set_option maxRecDepth 100000 in
/-- at the end: an append -/
theorem ins_end {w w' : World} {a0 : Option Addr} {n c : Nat} {u2 v' : Value} {a2 : Option Addr} {c2 : Nat} (hu2 : u2 = .slice a2 1 c2) (hrun : (Builtin.append_ #[28, 28] 28 #[.slice a0 n c, u2]).run Try.prog w = .ok v' w') (h0 : ∀ a, a0 = some a → ∃ b, a = ⟨b, 0, none⟩) (h1 : a0 = none → n = 0 ∧ c = 0) (hnc : n ≤ c) :
    Calls Try.prog 39 #[.slice a0 n c, .int .i64 (n : Int), u2] w fun e w'' => e = .returned v' ∧ w'' = w' := by
  subst hu2
  go_enter Try.func39, Try.ntmps39
  cases a0 with
  | none =>
    obtain ⟨rfl, rfl⟩ := h1 rfl
    go_wp2_with (at_builtin; refine Lib.wpList_append_run _ rfl _ _ _ _ rfl _ _ rfl rfl _ _ hrun ?_)
    go_ret
    exact ⟨rfl, rfl⟩
  | some a =>
    obtain ⟨b, rfl⟩ := h0 a rfl
    go_wp2_with (at_builtin; refine Lib.wpList_append_run _ rfl _ _ _ _ rfl _ _ rfl rfl _ _ hrun ?_)
    all_goals (go_ret; exact ⟨rfl, rfl⟩)
set_option maxHeartbeats 4000000 in
set_option maxRecDepth 100000 in
/-- no room, not at the end: a new row -/
theorem ins_grow {w : World} {b n c i vb vc : Nat} {arr varr : Array Value} (hk : Blk w b 55 arr) (hsz : arr.size = c * 2) (hi : i < n) (hnc : n ≤ c) (hroom : c < n + 1) (hbig : (n + 1) * 32 ≤ 140737488355328) (hvk : Blk w vb 55 varr) (hvs : varr.size = vc * 2) (hvc : 1 ≤ vc) (hoc : ∀ v ∈ arr.toList.take (n * 2), v.oneCell' = true) (hov : ∀ v ∈ varr.toList.take 2, v.oneCell' = true) :
    Calls Try.prog 39 #[.slice (some ⟨b, 0, none⟩) n c, .int .i64 (i : Int), .slice (some ⟨vb, 0, none⟩) 1 vc] w fun e w' => ∃ G W1 arr1, e = .returned (.slice (some ⟨w.heap.size, 0, none⟩) (n + 1) G) ∧ n + 1 ≤ G ∧ G ≤ maxLen ∧ W1 = w.drew.alloc (.cells arr1 55) ∧ arr1.size = G * 2 ∧ (∀ k, k < i * 2 → arr1[k]? = arr[k]?) ∧ w' = ((W1.setCells w.heap.size (i * 2) (varr.toList.take 2)).drew).setCells w.heap.size ((i + 1) * 2) ((arr.toList.take (n * 2)).drop (i * 2)) := by
  have hinf : Try.prog.info? 55 = some Try.t55 := by kernel_rfl
  have hss : (Try.prog.info? 55).map (·.size) = some 2 := by rw [hinf]; rfl
  have e0 : arr.toList.length = arr.size := Array.length_toList
  obtain ⟨vs, hvv⟩ : ∃ vs, vs = varr.toList.take 2 := ⟨_, rfl⟩
  have ev : vs.length = 2 := by rw [hvv, List.length_take, Array.length_toList, hvs]; omega
  rw [← hvv] at hov ⊢
  obtain ⟨news, hnews⟩ : ∃ news, news = (arr.toList.take (n * 2)).drop (i * 2) := ⟨_, rfl⟩
  have hlen : news.length = (n - i) * 2 := by rw [hnews, List.length_drop, List.length_take]; omega
  have hget : ∀ t, t < (n - i) * 2 → news[t]? = arr[i * 2 + t]? := fun t ht => by
    rw [hnews, List.getElem?_drop, List.getElem?_take_of_lt (by omega), Array.getElem?_toList]
  obtain ⟨olds, holds⟩ : ∃ olds, olds = arr.toList.take (i * 2) := ⟨_, rfl⟩
  have holen : olds.length = i * 2 := by rw [holds, List.length_take]; omega
  have hold : (Builtin.firstCells Try.t55.size i (.slice (some ⟨b, 0, none⟩) i c)).run Try.prog w.drew = .ok olds.toArray w.drew :=
    run_firstCells_some w.drew 2 i ⟨b, 0, none⟩ i c olds holen (fun j v hj => by
      have hl := (List.getElem?_eq_some_iff.1 hj).1
      rw [holds, List.getElem?_take_of_lt (by omega), Array.getElem?_toList] at hj
      rw [Addr.add_lit, Nat.zero_add]
      exact (hk.cell _).trans hj)
  have hik : i + (n + 1 - i) = n + 1 := by omega
  have hkk : (n : Int) + 1 - (i : Int) = ((n + 1 - i : Nat) : Int) := by omega
  obtain ⟨G, hG⟩ : ∃ G, G = grownCap w (n + 1) c 55 := ⟨_, rfl⟩
  obtain ⟨arr1, harr⟩ : ∃ arr1 : Array Value, arr1 = olds.toArray ++ Builtin.zeroCells zIS.cells (n + 1 - i) ++ Builtin.zeroCells zIS.cells (G - (n + 1)) := ⟨_, rfl⟩
  have hGn : n + 1 ≤ G := by rw [hG]; exact grownCap_ge w _ _ _
  have hGm : G ≤ maxLen := by rw [hG]; exact grownCap_le_maxLen w _ _ _ (by unfold maxLen; omega)
  have hzs : ∀ k, (Builtin.zeroCells zIS.cells k).size = k * 2 := fun k => by simp [Builtin.zeroCells, Value.cells]
  have hsz1 : arr1.size = G * 2 := by
    rw [harr, Array.size_append, Array.size_append, hzs, hzs, List.size_toArray, holen]; omega
  have hlow : ∀ k, k < i * 2 → arr1[k]? = arr[k]? := fun k hk => by
    rw [harr, Array.getElem?_append_left (by rw [Array.size_append, List.size_toArray]; omega), Array.getElem?_append_left (by rw [List.size_toArray]; omega), List.getElem?_toArray, holds, List.getElem?_take_of_lt hk, Array.getElem?_toList]
  have hrz : ∀ ty, (Builtin.append_ #[28, 3] ty #[.slice (some ⟨b, 0, none⟩) i c, .int .i64 ((n : Int) + 1 - (i : Int))]).run Try.prog w =
      .ok (.slice (some ⟨w.heap.size, 0, none⟩) (n + 1) G) (w.drew.alloc (.cells arr1 55)) := fun ty => by
    have h := Lib.run_append_grow_zeros (P := Try.prog) w 28 3 ty 55 Try.t55 zIS .i64 .i64 Try.underlying28 Try.underlying3 hinf rfl (some ⟨b, 0, none⟩) i c olds hold (n + 1 - i) (by omega) (by decide) (by omega) (by omega) (by show (n + 1 - i) * 32 ≤ _; omega) (by rw [hik]; exact growslice_fits hroom hbig)
    rw [hik] at h
    rw [hkk, h, harr, hG]
  obtain ⟨W1, hW1⟩ : ∃ W1, W1 = w.drew.alloc (.cells arr1 55) := ⟨_, rfl⟩
  rw [← hW1] at hrz
  have hbl := hk.lt
  have hvl := hvk.lt
  have k1 : Blk W1 w.heap.size 55 arr1 := by rw [hW1]; exact Blk.new w.drew 55 arr1
  have kb : Blk W1 b 55 arr := by rw [hW1]; exact Blk.alloc (w := w.drew) hk _
  have kv : Blk W1 vb 55 varr := by rw [hW1]; exact Blk.alloc (w := w.drew) hvk _
  have hcpA : ∀ (W : World), (∀ x, W.cell? x = W1.cell? x) → (∀ x, W.frozen? x = W1.frozen? x) → ∀ ty dc, (Builtin.copy_ #[28, 28] ty #[.slice (some ⟨w.heap.size, i * 2, none⟩) (n + 1 - i) dc, .slice (some ⟨vb, 0, none⟩) 1 vc]).run Try.prog W = .ok (goInt (Nat.min 1 (n + 1 - i))) (W.setCells w.heap.size (i * 2) vs) := fun W hWc hWf ty dc =>
    run_copyN W 28 28 ty 55 2 w.heap.size (i * 2) (n + 1 - i) dc ⟨vb, 0, none⟩ 1 vc vs Try.underlying28 hss (by rw [ev]; simp only [Nat.min_def]; split <;> omega)
      (fun j v hj => by
        have hl := (List.getElem?_eq_some_iff.1 hj).1
        rw [hvv, List.getElem?_take_of_lt (by omega), Array.getElem?_toList] at hj
        rw [Addr.add_lit, Nat.zero_add, hWc]
        exact (kv.cell _).trans hj)
      (fun j hj => by rw [ev] at hj; rw [hWc, k1.cell, Array.getElem?_eq_getElem (by omega)]; rfl) (fun j _ => by rw [hWf]; exact k1.frozen _) hov
  obtain ⟨a2, k2, z2⟩ := puts_blk (T := 55) (arr := arr1) vs (i * 2) (w := W1) k1
  have kb2 : Blk (W1.setCells w.heap.size (i * 2) vs) b 55 arr := (puts_wr w.heap.size _ _ _).blk (by omega) kb
  have hcpB : ∀ (W : World), (∀ x, W.cell? x = (W1.setCells w.heap.size (i * 2) vs).cell? x) → (∀ x, W.frozen? x = (W1.setCells w.heap.size (i * 2) vs).frozen? x) → ∀ ty dc sc, (Builtin.copy_ #[28, 28] ty #[.slice (some ⟨w.heap.size, (i + 1) * 2, none⟩) (n - i) dc, .slice (some ⟨b, i * 2, none⟩) (n - i) sc]).run Try.prog W = .ok (goInt (Nat.min (n - i) (n - i))) (W.setCells w.heap.size ((i + 1) * 2) news) := fun W hWc hWf ty dc sc =>
    run_copyN W 28 28 ty 55 2 w.heap.size ((i + 1) * 2) (n - i) dc ⟨b, i * 2, none⟩ (n - i) sc news Try.underlying28 hss (by rw [hlen]; simp only [Nat.min_def]; split <;> omega)
      (fun j v hj => by
        have hl := (List.getElem?_eq_some_iff.1 hj).1
        rw [hlen] at hl
        rw [hget j hl] at hj
        rw [Addr.add_lit, hWc]
        exact (kb2.cell _).trans hj)
      (fun j hj => by rw [hlen] at hj; rw [hWc, k2.cell, Array.getElem?_eq_getElem (by omega)]; rfl) (fun j _ => by rw [hWf]; exact k2.frozen _) (fun v hv => hoc v (List.mem_of_mem_drop (hnews ▸ hv)))
  have hcpB' := hcpB ((W1.setCells w.heap.size (i * 2) vs).drew) (fun _ => rfl) (fun _ => rfl)
  have HF : Hid (n + 1 ≤ G ∧ G ≤ maxLen ∧ W1 = w.drew.alloc (.cells arr1 55) ∧ arr1.size = G * 2 ∧ (∀ k, k < i * 2 → arr1[k]? = arr[k]?)) := ⟨hGn, hGm, hW1, hsz1, hlow⟩
  have HN : Hid (news = (arr.toList.take (n * 2)).drop (i * 2)) := hnews
  have hg1 : ¬ (G = i) := by omega
  have hg2 : ¬ (G = i + 1) := by omega
  have hg3 : ¬ (c = i) := by omega
  have hm : c ≤ 9223372036854775807 := by omega
  have hGm' : G ≤ 9223372036854775807 := by unfold maxLen at hGm; omega
  have hw1 : IntKind.i64.wrap ((i : Int) + 1) = (i : Int) + 1 := by rw [IntKind.wrap_i64]; omega
  have hz2 : ¬ ((i : Int) = (n : Int)) := by omega
  have hz3 : (c : Int) < (n : Int) + 1 := by omega
  have hb1 : (0 : Int) ≤ (i : Int) + 1 := by omega
  have hb3 : (i : Int) + 1 ≤ (n : Int) + 1 := by omega
  have hb5 : (i : Int) ≤ (n : Int) + 1 := by omega
  have hin : i ≤ n := by omega
  have hic : i ≤ c := by omega
  clear hvv hW1 hnews hlen hget k1 kv kb kb2 k2 hk hvk hss hkk hik hold holds holen hG harr hsz1 hlow hGm
  go_enter Try.func39, Try.ntmps39
  go_wp2_with (first
    | (at_builtin; refine Lib.wpList_append_run _ rfl _ _ _ _ rfl _ _ rfl rfl _ _ (hrz _) ?_)
    | (at_builtin; refine wpList_copy_runN _ rfl _ _ 28 28 rfl _ _ rfl rfl (hcpA _ (fun _ => rfl) (fun _ => rfl) _ _) ?_))
  go_region_law (refine step_copy_runN rfl _ _ 28 28 rfl (.slice (some ⟨w.heap.size, (i + 1) * 2, none⟩) (n - i) (G - (i + 1))) (.slice (some ⟨b, i * 2, none⟩) (n - i) (c - i)) (by simp [Act.eval, Act.put]) (by simp [Act.eval, Act.put]) (hcpB' 3 (G - (i + 1)) (c - i)) ?_)
  go_wp2
  go_ret
  obtain ⟨q1, q2, q3, q4, q5⟩ := HF.out
  exact ⟨G, W1, arr1, rfl, q1, q2, q3, q4, q5, by rw [HN.out]⟩
theorem Wr.toCh {S : Nat → Prop} {b : Nat} {w w' : World} (h : Wr b w w') (hb : S b) : Ch S w w' := ⟨h.os, h.tape, h.output, by rw [h.size]; exact Nat.le_refl _, fun k _ hn => h.block k fun e => hn (e ▸ hb), h.drawn⟩
theorem puts_at {w w' : World} {b o : Nat} {T : TypeId} {vs : List Value} {arr arr' : Array Value} (hk : Blk w b T arr) (e : w' = w.setCells b o vs) (hk' : Blk w' b T arr') (hle : o + vs.length ≤ arr.size) (k : Nat) : arr'[k]? = if o ≤ k ∧ k < o + vs.length then vs[k - o]? else arr[k]? := by
  rw [← hk'.cell, e]
  split
  · next h =>
    have := World.cell?_setCells_in b vs o w (fun j hj => by rw [hk.cell, Array.getElem?_eq_getElem (by omega)]; rfl) (k - o) (by omega)
    rw [show o + (k - o) = k by omega] at this
    rw [this]
    exact (List.getElem?_eq_getElem _).symm
  · next h =>
    rw [World.cell?_setCells_out _ _ _ _ _ (fun _ _ => by show k < o ∨ o + vs.length ≤ k; omega)]
    exact hk.cell k
/-- the cells of a row with an element set between -/
theorem ins_cells {cs vs : List Value} {a : Array Value} {n i m : Nat} (hc : cs.length = n * 2) (hv : vs.length = 2) (hi : i ≤ n) (ha : (n + 1) * 2 ≤ a.size) (h1 : ∀ k, k < i * 2 → a[k]? = cs[k]?) (h2 : ∀ k, i * 2 ≤ k → k < i * 2 + 2 → a[k]? = vs[k - i * 2]?) (h3 : ∀ k, i * 2 + 2 ≤ k → k < (n + 1) * 2 → a[k]? = cs[k - 2]?) (hm : m = (n + 1) * 2) :
    a.toList.take m = cs.take (i * 2) ++ (vs ++ cs.drop (i * 2)) := by
  subst hm
  refine List.ext_getElem? fun p => ?_
  rcases Nat.lt_or_ge p ((n + 1) * 2) with hp | hp
  · rw [List.getElem?_take_of_lt hp, Array.getElem?_toList]
    rcases Nat.lt_or_ge p (i * 2) with hpi | hpi
    · rw [h1 p hpi, List.getElem?_append_left (by rw [List.length_take]; omega), List.getElem?_take_of_lt hpi]
    · rw [List.getElem?_append_right (by rw [List.length_take]; omega), List.length_take, Nat.min_eq_left (by omega)]
      rcases Nat.lt_or_ge p (i * 2 + 2) with hpv | hpv
      · rw [h2 p hpi hpv, List.getElem?_append_left (by omega)]
      · rw [h3 p hpv hp, List.getElem?_append_right (by omega), List.getElem?_drop]
        congr 1
        omega
  · have e0 : a.toList.length = a.size := Array.length_toList
    rw [List.getElem?_eq_none_iff.2 (by rw [List.length_take]; omega), List.getElem?_eq_none_iff.2 (by rw [List.length_append, List.length_append, List.length_take, List.length_drop]; omega)]
/-- a tree between trees of a row -/
theorem ins_tree {α : Type} {F : OE α} {A : Av} {w : World} {S1 S2 : Nat → Prop} {xs : List α} {y : α} {u1 u2 : Value} (hx : (oSl 55 F).own A w S1 xs [u1]) (hy : (oSl 55 F).own A w S2 [y] [u2]) (hd : ∀ k, S1 k → ¬ S2 k) (hF : F.E.size = 2) {i : Nat} (hi : i ≤ xs.length) (hl : lenOK (xs.length + 1) = true) :
    Calls Try.prog 39 #[u1, .int .i64 (i : Int), u2] w fun e w' => ∃ v' S', e = .returned v' ∧ Ch S1 w w' ∧ (∀ k, k < w.heap.size → S' k → S1 k ∨ S2 k) ∧ ∀ A', Stp A A' w w' → (oSl 55 F).own A' w' S' (xs.take i ++ y :: xs.drop i) [v'] := by
  have hl2 := lenOK_le hl
  rcases Nat.lt_or_ge i xs.length with hi2 | hi2
  · obtain ⟨L, hE, rfl, hx'⟩ := own_list hx
    obtain ⟨M, hM, hMy, hy'⟩ := own_list hy
    clear hx hy
    rw [List.length_map] at hi hi2 hl2
    have hM1 : M.length = 1 := by have := congrArg List.length hMy; rw [List.length_map] at this; exact this
    obtain ⟨t, rfl⟩ : ∃ t, M = [t] := List.length_eq_one_iff.1 hM1
    obtain rfl : t.1 = y := by simpa using hMy
    have ht := hM.own t (List.mem_singleton.2 rfl)
    rcases hy' with ⟨_, h, _⟩ | ⟨vb, vc, varr, rfl, hvk, hvc, hvm, hvs, hvcs, hvg, hS2⟩
    · cases h
    rcases hx' with ⟨_, rfl, _⟩ | ⟨g, c, arr, rfl, hk, hlc, hcm, hsz, hcs, hg, hS⟩
    · exact absurd hi2 (Nat.not_lt_zero _)
    rw [hF] at hsz hcs hvs hvcs
    have hoc := hE.oc
    have hov := hM.oc
    rw [← hcs] at hoc
    rw [← hvcs] at hov
    have hone : [t].length * 2 = 2 := rfl
    rw [hone] at hov hvcs
    have hvl : t.2.2.length = 2 := by rw [F.len ht, hF]
    have hvt : csOf [t] = t.2.2 := by unfold csOf; simp
    rw [hvt] at hvcs
    have hcl := hE.len
    rw [hF] at hcl
    have hgS : S1 g := (hS g).2 (.inl rfl)
    have hvb : vb ≠ g := fun e => hd g hgS ((hS2 g).2 (.inl e.symm))
    have htS : ∀ k, t.2.1 k → S2 k := fun k h => (hS2 k).2 (.inr ⟨t, List.mem_singleton.2 rfl, h⟩)
    have hLS : ∀ k, inL L k → S1 k := fun k h => (hS k).2 (.inr h)
    have hE' := hE.ins i ht (fun k h h' => hd k (hLS k h') (htS k h))
    have hin : ∀ k, inL (L.take i ++ t :: L.drop i) k → S1 k ∨ S2 k := fun k h => (inL_ins h).elim (fun h => .inr (htS k h)) fun h => .inl (hLS k h)
    have hl' : (L.take i ++ t :: L.drop i).length = L.length + 1 := by rw [List.length_append, List.length_cons, List.length_take, List.length_drop]; omega
    have hmap : (L.take i ++ t :: L.drop i).map (·.1) = (L.map (·.1)).take i ++ t.1 :: (L.map (·.1)).drop i := by rw [List.map_append, List.map_cons, List.map_take, List.map_drop]
    have hcat : csOf (L.take i ++ t :: L.drop i) = (csOf L).take (i * 2) ++ (t.2.2 ++ (csOf L).drop (i * 2)) := by
      rw [csOf_append, hE.take, hF, show t :: L.drop i = [t] ++ L.drop i from rfl, csOf_append, hvt, hE.drop, hF]
    have hnews : ((csOf L).drop (i * 2)).length = (L.length - i) * 2 := by rw [List.length_drop, hcl]; omega
    have hcg : ∀ k, k < L.length * 2 → (csOf L)[k]? = arr[k]? := fun k hk => by rw [← hcs, List.getElem?_take_of_lt hk, Array.getElem?_toList]
    have ng : ¬ inL (L.take i ++ t :: L.drop i) g := fun h => (inL_ins h).elim (fun h => hd g hgS (htS g h)) hg
    have hsz2 : arr.size = c * 2 := hsz
    by_cases hroom : L.length + 1 ≤ c
    · refine (ins_shift (n := L.length) (i := i) hk hsz hi2 hroom hcm hvk hvs hvc hvb hoc hov).mono ?_
      rintro e w' ⟨rfl, W1, e1, e2⟩
      rw [hcs] at e1
      rw [hvcs] at e2
      have h1 : Wr g w W1 := e1 ▸ wr_of
      have h2 : Wr g w w' := h1.trans (e2 ▸ puts_wr g _ _ _)
      obtain ⟨a1, k1, z1⟩ := puts_blk (T := 55) (arr := arr) ((csOf L).drop (i * 2)) ((i + 1) * 2) (w := w.drew) hk
      rw [← e1] at k1
      obtain ⟨a2, k2, z2⟩ := puts_blk (T := 55) (arr := a1) t.2.2 (i * 2) (w := W1) k1
      rw [← e2] at k2
      have p1 := puts_at (w := w.drew) hk e1 k1 (by rw [hnews]; omega)
      have p2 := puts_at k1 e2 k2 (by rw [hvl]; omega)
      have hcs' : a2.toList.take ((L.length + 1) * 2) = csOf (L.take i ++ t :: L.drop i) := by
        rw [hcat]
        refine ins_cells (n := L.length) (i := i) hcl hvl hi (by omega) (fun k hk => ?_) (fun k k1 k2 => ?_) (fun k k1 k2 => ?_) rfl
        · rw [p2, if_neg (by omega), p1, if_neg (by omega), hcg k (by omega)]
        · rw [p2, if_pos (by omega)]
        · rw [p2, if_neg (by omega), p1, if_pos (by omega), List.getElem?_drop]
          congr 1
          omega
      refine ⟨_, fun k => k = g ∨ inL (L.take i ++ t :: L.drop i) k, rfl, h2.toCh hgS, fun k _ hk' => hk'.elim (fun e => .inl (e ▸ hgS)) (hin k), fun A' hst => ?_⟩
      have := list_own (hE'.stab (fun k hk' => h2.block k fun e => ng (e ▸ hk')) hst) k2 (c := c) (by omega) hcm (by rw [z2, z1, hsz, hF]) (by rw [hl', hF]; exact hcs') ng
      rw [hmap, hl'] at this
      exact this
    · refine (ins_grow (n := L.length) (i := i) hk hsz hi2 hlc (by omega) (by omega) hvk hvs hvc hoc hov).mono ?_
      rintro e w' ⟨G, W1, arr1, rfl, hG1, hG2, hW1, hs1, hlow, e2⟩
      rw [hcs, hvcs] at e2
      have k1 : Blk W1 w.heap.size 55 arr1 := by rw [hW1]; exact Blk.new w.drew 55 arr1
      obtain ⟨a2, k2, z2⟩ := puts_blk (T := 55) (arr := arr1) t.2.2 (i * 2) (w := W1) k1
      obtain ⟨a3, k3, z3⟩ := puts_blk (T := 55) (arr := a2) ((csOf L).drop (i * 2)) ((i + 1) * 2) (w := (W1.setCells w.heap.size (i * 2) t.2.2).drew) k2
      rw [← e2] at k3
      have p1 := puts_at k1 rfl k2 (by rw [hvl]; omega)
      have p2 := puts_at (w := (W1.setCells w.heap.size (i * 2) t.2.2).drew) k2 e2 k3 (by rw [hnews]; omega)
      have hcs' : a3.toList.take ((L.length + 1) * 2) = csOf (L.take i ++ t :: L.drop i) := by
        rw [hcat]
        refine ins_cells (n := L.length) (i := i) hcl hvl hi (by omega) (fun k hk => ?_) (fun k k1 k2 => ?_) (fun k k1 k2 => ?_) rfl
        · rw [p2, if_neg (by omega), p1, if_neg (by omega), hlow k hk, hcg k (by omega)]
        · rw [p2, if_neg (by omega), p1, if_pos (by omega)]
        · rw [p2, if_pos (by omega), List.getElem?_drop]
          congr 1
          omega
      have f1 : Fr w W1 := by rw [hW1]; exact (Fr.drew w).trans (Fr.alloc _ _)
      have w2 : Wr w.heap.size W1 w' := (wr_of' (b := w.heap.size)).trans (e2 ▸ puts_wr w.heap.size _ _ _)
      have hch : Ch S1 w w' := (f1.ch S1).tr (K' := fun k => w.heap.size = k) w2.ch fun k hk => .inl (Nat.le_of_eq hk)
      have hold : ∀ k, k < w.heap.size → w'.heap[k]? = w.heap[k]? := fun k hk => (w2.block k (by omega)).trans (f1.block k hk)
      have hlt : ∀ k, inL (L.take i ++ t :: L.drop i) k → k < w.heap.size := fun k h => hE'.lt h
      refine ⟨_, fun k => k = w.heap.size ∨ inL (L.take i ++ t :: L.drop i) k, rfl, hch, fun k h hk' => hk'.elim (fun e => absurd h (by omega)) (hin k), fun A' hst => ?_⟩
      have := list_own (hE'.stab (fun k hk' => hold k (hlt k hk')) hst) k3 (c := G) (by omega) hG2 (by rw [z3, z2, hs1, hF]) (by rw [hl', hF]; exact hcs') (fun h => absurd (hlt _ h) (by omega))
      rw [hmap, hl'] at this
      exact this
  · obtain rfl : i = xs.length := by omega
    have he : ElF Try.prog 55 F.E.size := by rw [hF]; exact ⟨Try.t55, zIS, _, by kernel_rfl, rfl, rfl, rfl, rfl, by decide, by decide⟩
    obtain ⟨v', w', S', hrun, hch, hsub, hown⟩ := append_tree (ty := 28) (t := 28) hx hy hd Try.underlying28 he (by decide) hl
    rw [List.take_length, List.drop_length]
    have hc : ∃ a c, u1 = .slice a xs.length c ∧ (∀ q, a = some q → ∃ b, q = ⟨b, 0, none⟩) ∧ (a = none → xs.length = 0 ∧ c = 0) ∧ xs.length ≤ c := by
      rcases hx with ⟨e, rfl, _⟩ | ⟨g, c, arr, Si, e, _, h, _⟩
      · obtain rfl := (List.cons.inj e).1
        exact ⟨none, 0, rfl, (fun q h => by cases h), (fun _ => ⟨rfl, rfl⟩), Nat.le_refl _⟩
      · obtain rfl := (List.cons.inj e).1
        exact ⟨_, c, rfl, (fun q h => by cases h; exact ⟨g, rfl⟩), (fun h => by cases h), h⟩
    obtain ⟨a, c, rfl, h0, h1, hnc⟩ := hc
    have hc2 : ∃ a2 c2, u2 = .slice a2 1 c2 := by
      rcases hy with ⟨_, h, _⟩ | ⟨g, c, arr, Si, e, _⟩
      · cases h
      · exact ⟨_, c, (List.cons.inj e).1⟩
    obtain ⟨a2, c2, hu2⟩ := hc2
    refine (ins_end hu2 hrun h0 h1 hnc).mono ?_
    rintro e w'' ⟨rfl, rfl⟩
    exact ⟨v', S', rfl, hch, hsub, hown⟩
end Go.Proofs.Ytmgiijdejigdhaa
