/- Contracts over rules and rule sets: sz, to, eq. -/
import Derived.Test.YtjfhlhhobpdneaaTe
import Derived.Test.YtjfhlhhobpdneaaNest
namespace Go.Proofs.Ytjfhlhhobpdneaa
open Go.RowKit

/-- a test as data -/
abbrev TeD := Int × Int × Bool
abbrev Rls (w : World) (B : Nat) (A : Option Addr) (n : Nat) (ls : List (List TeD)) : Prop := Nst 3 cte w B A n ls
theorem szTestS_any (A : Option Addr) (n c : Nat) (left : Int) (h0 : 0 ≤ left) (h1 : left ≤ 1048576) (hn : n ≤ 9223372036854775807) (w : World) :
    Calls Try.prog 61 #[.slice A n c, .int .i64 left] w fun e w' => e = .returned (.int .i64 (if left < n then -1 else left - n)) ∧ w = w' := by
  by_cases h : left < n
  · rw [if_pos h]
    go_enter Try.func61, Try.ntmps61
    go_wp2
    go_ret
    exact ⟨rfl, rfl⟩
  · rw [if_neg h]
    go_enter Try.func61, Try.ntmps61
    go_wp2
    go_ret
    exact ⟨rfl, rfl⟩
theorem szRule_any (A : Option Addr) (n c : Nat) (left : Int) (h0 : 0 ≤ left) (h1 : left ≤ 1048576) (hn : n ≤ 9223372036854775807) (w : World) :
    Calls Try.prog 15 #[.agg #[.slice A n c], .int .i64 left] w fun e w' => e = .returned (.int .i64 (if left < n then -1 else left - n)) ∧ Below w.heap.size w w' := by
  by_cases h : left < n
  · rw [if_pos h]
    go_enter Try.func15, Try.ntmps15
    go_wp2_with (go_at_call 61; refine (szTestS_any _ _ _ _ h0 h1 hn _).mono ?_; rw [if_pos h]; rintro e w' ⟨rfl, rfl⟩)
    go_ret
    exact ⟨rfl, (Below.refl _ _).alloc (Nat.le_refl _) _⟩
  · rw [if_neg h]
    go_enter Try.func15, Try.ntmps15
    go_wp2_with (go_at_call 61; refine (szTestS_any _ _ _ _ h0 h1 hn _).mono ?_; rw [if_neg h]; rintro e w' ⟨rfl, rfl⟩)
    go_ret
    exact ⟨rfl, (Below.refl _ _).alloc (Nat.le_refl _) _⟩
def lenTo {α : Type} (ls : List (List α)) (k : Nat) : Nat := ((ls.take k).map List.length).sum
theorem lenTo_succ {α : Type} {ls : List (List α)} {k : Nat} (h : k < ls.length) : lenTo ls (k + 1) = lenTo ls k + (ls.getD k []).length := by
  unfold lenTo
  rw [List.take_succ_eq_append_getElem h, List.map_append, List.sum_append]
  simp only [List.map_cons, List.map_nil, List.sum_cons, List.sum_nil, Nat.add_zero, List.getD_eq_getElem?_getD, List.getElem?_eq_getElem h, Option.getD_some]
theorem szRuleS_any (A : Option Addr) (n c : Nat) (ls : List (List TeD)) (left : Int) (h0 : 0 ≤ left) (h1 : left ≤ 1048576) (w : World) (hr : Rls w w.heap.size A n ls) (hs : ∀ l ∈ ls, l.length ≤ maxLen) (hn : n ≤ maxLen) :
    Calls Try.prog 84 #[.slice A n c, .int .i64 left] w fun e w' => (∃ r : Int, e = .returned (.int .i64 r) ∧ (0 ≤ r → r + n + lenTo ls n = left)) ∧ Below w.heap.size w w' := by
  have HL := Lib.hid hr.len
  have HR := Lib.hid hr.cells
  have HS := Lib.hid hs
  clear hr hs
  unfold maxLen at hn
  by_cases hlt0 : left < n
  · go_enter Try.func84, Try.ntmps84
    go_wp2
    go_ret
    exact ⟨⟨_, rfl, fun h => absurd h (by omega)⟩, Below.refl _ _⟩
  · go_enter Try.func84, Try.ntmps84
    go_wp2
    go_loopw [1, 5] (fun r i wr => ∃ (k : Nat) (q : Int), k ≤ n ∧ i = .int .i64 k ∧ r = .int .i64 q ∧ 0 ≤ q ∧ q ≤ 1048576 ∧ Hid (q + n + lenTo ls k = left) ∧ Below w.heap.size w wr) (fun _ i _ => n - (intOf i).toNat)
    case atStart => exact ⟨0, left - n, by omega, rfl, rfl, by omega, by omega, by unfold Hid; simp [lenTo], Below.refl _ _⟩
    case round =>
      obtain ⟨k, q, hk, rfl, rfl, q0, q1, hq, hbe⟩ := hrel
      have HBE := Lib.hid hbe
      by_cases hlt : k < n
      · obtain ⟨b, off, rfl, hb, hcc⟩ := HR.out (by omega)
        obtain ⟨A', n', c', hc0, hin⟩ := hcc k hlt
        have e0 := (hbe.cell (p := ⟨b, off + k, none⟩) hb).trans hc0
        have hkl : k < ls.length := by rw [HL.out]; exact hlt
        have hsz : n' ≤ 9223372036854775807 := by
          have h2 := HS.out ls[k] (List.getElem_mem hkl)
          have h3 := hin.te_len
          rw [List.getD_eq_getElem?_getD, List.getElem?_eq_getElem hkl, Option.getD_some] at h3
          unfold maxLen at h2
          omega
        have HT := Lib.hid (lenTo_succ hkl)
        have HN := Lib.hid hin.te_len
        clear hcc hc0 hbe hkl hin
        by_cases hlq : q < n'
        · go_wp2_with (go_at_call 15; refine (szRule_any _ _ _ _ q0 q1 hsz _).mono ?_; rw [if_pos hlq]; rintro e w3 ⟨rfl, hb3⟩)
          go_ret
          exact ⟨⟨_, rfl, fun h => absurd h (by omega)⟩, HBE.out.trans (hb3.mono HBE.out.size)⟩
        · go_wp2_with (go_at_call 15; refine (szRule_any _ _ _ _ q0 q1 hsz _).mono ?_; rw [if_neg (by omega)]; rintro e w3 ⟨rfl, hb3⟩)
          go_roundw
          case rel => exact ⟨k + 1, _, by omega, by go_num, rfl, by omega, by omega, by unfold Hid; have h1 := hq.out; have h2 := HT.out; rw [HN.out] at h2; omega, HBE.out.trans (hb3.mono HBE.out.size)⟩
          case measure => simp [intOf]; omega
      · have e : k = n := by omega
        subst e
        go_wp2
        go_ret
        exact ⟨⟨_, rfl, fun _ => hq.out⟩, hbe⟩
theorem szRuleSet_any (A : Option Addr) (n c : Nat) (ls : List (List TeD)) (left : Int) (h0 : 0 ≤ left) (h1 : left ≤ 1048576) (w : World) (hr : Rls w w.heap.size A n ls) (hs : ∀ l ∈ ls, l.length ≤ maxLen) (hn : n ≤ maxLen) :
    Calls Try.prog 32 #[.agg #[.slice A n c], .int .i64 left] w fun e w' => (∃ r : Int, e = .returned (.int .i64 r) ∧ (0 ≤ r → r + n + lenTo ls n = left)) ∧ Below w.heap.size w w' := by
  have HB0 := Lib.hid ((Below.refl w.heap.size w).alloc (Nat.le_refl _) (.cells #[.slice A n c] 57))
  have r1 := (hr.below HB0.out).more HB0.out.size
  have HC := Lib.hid (szRuleS_any A n c ls left h0 h1 _ r1 hs hn)
  clear hr hs hn r1
  go_enter Try.func32, Try.ntmps32
  go_wp2_with fail
  refine HC.out.mono ?_
  rintro e w1 ⟨⟨r, rfl, hr⟩, hb1⟩
  have HRR := Lib.hid hr
  clear hr
  by_cases hneg : r < 0
  · go_wp2_with fail
    go_ret
    exact ⟨⟨_, rfl, fun h => absurd h (by omega)⟩, HB0.out.trans (hb1.mono HB0.out.size)⟩
  · go_wp2_with fail
    go_ret
    exact ⟨⟨_, rfl, HRR.out⟩, HB0.out.trans (hb1.mono HB0.out.size)⟩

theorem toRule_any (A : Option Addr) (n c : Nat) (l : List TeD) (w : World) (hr : Rd w w.heap.size 3 A n (cte l)) (hn : n ≤ 1048576) :
    Calls Try.prog 17 #[.agg #[.slice A n c]] w fun e w' => ∃ g, e = .returned (.agg #[.slice (some ⟨g, 0, none⟩) n n]) ∧ Blk w' g 85 (cte l).toArray ∧ w.heap.size ≤ g ∧ Below w.heap.size w w' := by
  have hb0 : Below w.heap.size w (((w.alloc (.cells #[.slice A n c] 24)).alloc (.cells #[.slice none 0 0] 30)).alloc (.cells #[.slice none 0 0] 30)) := by
    repeat (first | exact Below.refl _ _ | refine Below.alloc ?_ (by first | omega | (simp; done) | (simp; omega)) _)
  have hr0 := (hr.below hb0).more hb0.size
  go_enter Try.func17, Try.ntmps17
  go_wp2_with fail
  refine (toTestS_any _ _ _ _ _ hr0 hn).mono ?_
  rintro e w1 ⟨rfl, hB1, hs1, hb1⟩
  obtain ⟨hc, hf⟩ := bcell hb1
  have hz : w.heap.size + 1 + 1 + 1 < w1.heap.size := by simpa using hs1
  go_wp2
  refine bodyPost_ret (v := .agg #[.slice (some ⟨w.heap.size + 1 + 1 + 1, 0, none⟩) n n]) (by simp [results, Try.results17, go_sem, hc]) rfl ⟨_, rfl, ?_, ?_, ?_⟩
  · have hB1' : Blk w1 (w.heap.size + 1 + 1 + 1) 85 (cte l).toArray := by simpa using hB1
    repeat (first | (with_reducible exact hB1') | refine Blk.far ?_ (by simp; try omega) _)
  · omega
  · repeat (first | (with_reducible exact hb0.trans (hb1.mono hb0.size)) | refine Below.setCell ?_ (by simp; try omega) _)
theorem info_Rule : (Try.prog.info? 30).map (fun i => (i.zero, i.size, i.bytes)) = some (some (.agg #[.slice none 0 0]), 1, 24) := by kernel_rfl
/-- the headers made so far lead to the rows -/
def HdTo (w : World) (cs : Array Value) (k : Nat) (lo : Nat) (ls : List (List TeD)) : Prop := ∀ i, i < k → ∃ g, cs[i]? = some (.slice (some ⟨g, 0, none⟩) (ls.getD i []).length (ls.getD i []).length) ∧ lo < g ∧ Blk w g 85 (cte (ls.getD i [])).toArray
theorem toRuleS_any (A : Option Addr) (n c : Nat) (ls : List (List TeD)) (w : World) (hr : Rls w w.heap.size A n ls) (hn : n ≤ 1048576) (hs : ∀ l ∈ ls, l.length ≤ 1048576) :
    Calls Try.prog 85 #[.slice A n c] w fun e w' => e = .returned (.slice (some ⟨w.heap.size, 0, none⟩) n n) ∧ (∃ cs, Blk w' w.heap.size 30 cs ∧ cs.size = n ∧ HdTo w' cs n w.heap.size ls) ∧ Below w.heap.size w w' := by
  have HL := Lib.hid hr.len
  have HR := Lib.hid hr.cells
  have HS := Lib.hid hs
  clear hr hs
  have hmk := mk_any (P := Try.prog) 60 30 (.agg #[.slice none 0 0]) 1 24 n Try.underlying60 info_Rule (by omega) (by omega)
  go_enter Try.func85, Try.ntmps85
  go_wp2
  clear hmk
  go_loopw [4] (fun i wr => ∃ k : Nat, k ≤ n ∧ i = .int .i64 k ∧ w.heap.size < wr.heap.size ∧ Below w.heap.size w wr ∧
      ∃ cs : Array Value, Blk wr w.heap.size 30 cs ∧ cs.size = n ∧ HdTo wr cs k w.heap.size ls) (fun i _ => n - (intOf i).toNat)
  case atStart => exact ⟨0, by omega, rfl, by simp, (Below.refl _ _).alloc (Nat.le_refl _) _, _, Blk.new _ _ _, by simp [size_madeCells], fun j hj => absurd hj (by omega)⟩
  case round =>
    obtain ⟨k, hk, rfl, hsz, hb, cs, hB, hcs, hz⟩ := hrel
    by_cases hlt : k < n
    · obtain ⟨b, off, rfl, hbb, hcc⟩ := HR.out (by omega)
      obtain ⟨A', n', c', hc0, hin⟩ := hcc k hlt
      have e0 := (hb.cell (p := ⟨b, off + k, none⟩) hbb).trans hc0
      have hin' := (hin.below hb).more hb.size
      have hkl : k < ls.length := by rw [HL.out]; exact hlt
      have hl' := hin.te_len
      have hn' : n' ≤ 1048576 := by
        have := HS.out ls[k] (List.getElem_mem hkl)
        rw [List.getD_eq_getElem?_getD, List.getElem?_eq_getElem hkl, Option.getD_some] at hl'
        omega
      have HN := Lib.hid hl'
      have HB := Lib.hid hB
      have HZ := Lib.hid hz
      have HCS := Lib.hid hcs
      have HBE := Lib.hid hb
      clear hB hz hcc hc0 hb hcs hin hkl hl'
      go_wp2_with fail
      refine (toRule_any _ _ _ (ls.getD k []) _ hin' hn').mono ?_
      rintro e w1 ⟨g1, rfl, hG1, hg1, hb1⟩
      have hB1 := HB.out.below hb1 hsz
      obtain ⟨o0, ho0⟩ := get_some (cs := cs) (i := k) (by rw [HCS.out]; omega)
      have hd0 := (hB1.cell k).trans ho0
      have hf0 := hB1.frozen k
      clear ho0
      have HB1 := Lib.hid hB1
      have HG1 := Lib.hid hG1
      clear hB1 hG1
      go_wp2
      go_roundw
      case rel =>
        refine ⟨k + 1, by omega, by go_num, Nat.lt_of_lt_of_le hsz (by simpa [World.setCell] using hb1.size), (HBE.out.trans (hb1.mono (by omega))).setCell (Nat.le_refl _) _, _, HB1.out.put _ _, by simpa using HCS.out, fun i hi => ?_⟩
        by_cases hik : i = k
        · subst hik
          refine ⟨g1, ?_, by omega, HG1.out.far (by simp; omega) _⟩
          rw [Array.getElem?_setIfInBounds_self_of_lt (by rw [HCS.out]; omega), HN.out]
        · obtain ⟨g, h1, h2, h3⟩ := HZ.out i (by omega)
          refine ⟨g, by rw [Array.getElem?_setIfInBounds_ne (by omega)]; exact h1, h2, (h3.below hb1 h3.lt).far (by simp; omega) _⟩
      case measure => simp [intOf]; omega
    · have HB := Lib.hid hB
      have HZ := Lib.hid hz
      have HCS := Lib.hid hcs
      clear hB hz hcs
      have e : k = n := by omega
      subst e
      go_wp2
      go_ret
      exact ⟨rfl, ⟨cs, HB.out, HCS.out, HZ.out⟩, hb⟩
/-- what toRuleS made reads as the rules -/
theorem HdTo.nst {w : World} {cs : Array Value} {n g : Nat} {ls : List (List TeD)} (h : HdTo w cs n g ls) (hB : Blk w g 30 cs) (hc : cs.size = n) (hl : ls.length = n) : Rls w w.heap.size (some ⟨g, 0, none⟩) n ls :=
  Nst.of_blk hB hB.lt hc hl fun i hi => by
    obtain ⟨g', h1, _, h3⟩ := h i hi
    exact ⟨_, _, _, h1, rd_whole h3 (by rw [cte_len]) h3.lt⟩
theorem toRuleSet_any (A : Option Addr) (n c : Nat) (ls : List (List TeD)) (w : World) (hr : Rls w w.heap.size A n ls) (hn : n ≤ 1048576) (hs : ∀ l ∈ ls, l.length ≤ 1048576) :
    Calls Try.prog 34 #[.agg #[.slice A n c]] w fun e w' => ∃ g, e = .returned (.agg #[.slice (some ⟨g, 0, none⟩) n n]) ∧ (∃ cs, Blk w' g 30 cs ∧ cs.size = n ∧ HdTo w' cs n g ls) ∧ w.heap.size ≤ g ∧ Below w.heap.size w w' := by
  have hb0 : Below w.heap.size w (((w.alloc (.cells #[.slice A n c] 57)).alloc (.cells #[.slice none 0 0] 62)).alloc (.cells #[.slice none 0 0] 62)) := by
    repeat (first | exact Below.refl _ _ | refine Below.alloc ?_ (by first | omega | (simp; done) | (simp; omega)) _)
  have hr0 := (hr.below hb0).more hb0.size
  have HC := Lib.hid (toRuleS_any A n c ls _ hr0 hn hs)
  clear hr hr0 hs
  go_enter Try.func34, Try.ntmps34
  go_wp2_with fail
  refine HC.out.mono ?_
  rintro e w1 ⟨rfl, ⟨cs, hB1, hcs, hd⟩, hb1⟩
  obtain ⟨hc, hf⟩ := bcell hb1
  have hz : w.heap.size + 1 + 1 + 1 < w1.heap.size := by simpa using hB1.lt
  have HD := Lib.hid hd
  have HCS := Lib.hid hcs
  clear hd hcs
  go_wp2
  have hB1' : Blk w1 (w.heap.size + 1 + 1 + 1) 30 cs := by simpa using hB1
  have hd' : HdTo w1 cs n (w.heap.size + 1 + 1 + 1) ls := by simpa using HD.out
  refine bodyPost_ret (v := .agg #[.slice (some ⟨w.heap.size + 1 + 1 + 1, 0, none⟩) n n]) (by simp [results, Try.results34, go_sem, hc]) rfl ⟨_, rfl, ⟨cs, ?_, HCS.out, ?_⟩, ?_, ?_⟩
  · repeat (first | (with_reducible exact hB1') | refine Blk.far ?_ (by simp; try omega) _)
  · intro i hi
    obtain ⟨g, h1, h2, h3⟩ := hd' i hi
    refine ⟨g, h1, h2, ?_⟩
    repeat (first | (with_reducible exact h3) | refine Blk.far ?_ (by simp; try omega) _)
  · omega
  · repeat (first | (with_reducible exact hb0.trans (hb1.mono hb0.size)) | refine Below.setCell ?_ (by simp; try omega) _)
end Go.Proofs.Ytjfhlhhobpdneaa
