/- Operations that make or write memory of the call's own: variables, rows. No statement of the seat is proved here. -/
import Derived.Test.YtmgiijdejigdhaaDr
namespace Go.Proofs.Ytmgiijdejigdhaa
open Go.RowKit
set_option linter.unusedVariables false

section
variable {α β : Type}
/-- the part of E from cell off on may be replaced by an F -/
structure FldS (E : Enc α) (off : Nat) (F : Enc β) (s : α → β → α) : Prop where
  le : off + F.size ≤ E.size
  put : ∀ {A w x y cs ds}, E.rep A w x cs → F.rep A w y ds → E.rep A w (s x y) (cs.take off ++ ds ++ cs.drop (off + F.size))
theorem FldS.id (E : Enc α) : FldS E 0 E fun _ y => y := ⟨by simp, fun {A w x y cs ds} h k => by
  rw [List.take_zero, List.nil_append, List.drop_eq_nil_of_le (by rw [E.len h]; omega), List.append_nil]
  exact k⟩
theorem FldS.fst {E : Enc α} {F : Enc β} : FldS (ePr E F) 0 E fun x y => (y, x.2) :=
  ⟨by simp [ePr], by
    rintro A w x y cs ds ⟨c, d, rfl, h1, h2⟩ k
    refine ⟨ds, d, ?_, k, h2⟩
    rw [List.take_zero, List.nil_append, Nat.zero_add, ← E.len h1, List.drop_left']
    rfl⟩
theorem FldS.snd {γ : Type} {E : Enc α} {F : Enc β} {G : Enc γ} {o : Nat} {s : β → γ → β} (h : FldS F o G s) : FldS (ePr E F) (E.size + o) G fun x y => (x.1, s x.2 y) :=
  ⟨by have := h.le; simp [ePr]; omega, by
    rintro A w x y cs ds ⟨c, d, rfl, h1, h2⟩ k
    refine ⟨c, _, ?_, h1, h.put h2 k⟩
    have hl := E.len h1
    rw [List.take_append, List.drop_append, List.take_of_length_le (by omega), List.drop_eq_nil_of_le (by omega), List.nil_append, hl, show E.size + o - E.size = o by omega, show E.size + o + G.size - E.size = o + G.size by omega]
    simp⟩
end

theorem lay_list (cs : List Value) (o : Nat) (ds : List Value) (h : o + ds.length ≤ cs.length) : lay cs.toArray o ds = (cs.take o ++ ds ++ cs.drop (o + ds.length)).toArray := by
  apply Array.ext_getElem?
  intro j
  rw [lay_at _ _ _ _ (by simpa using h)]
  simp only [List.getElem?_toArray]
  by_cases h1 : j < o
  · rw [if_neg (by omega), List.append_assoc, List.getElem?_append_left (by simp; omega), List.getElem?_take, if_pos h1]
  · by_cases h2 : j < o + ds.length
    · rw [if_pos (by omega), List.append_assoc, List.getElem?_append_right (by simp; omega), List.getElem?_append_left (by simp; omega)]
      congr 1
      simp
      omega
    · rw [if_neg (by omega), List.getElem?_append_right (by simp; omega), List.getElem?_drop]
      congr 1
      simp
      omega

theorem stp_swap_self {A : Av} {u : Value} {w w' : World} (hav : ∀ k, ownsB u k → ∀ o, A k o) (hc : Ch (ownsB u) w w') : Stp A (swapA A u u) w w' :=
  ⟨hc.size, fun b o v hv hn => (World.cell?_of_block (w := w) (hc.block b (cell_lt' hv) fun h => hn (hav b h o))).trans hv, fun b o _ h => h.elim (·.1) fun h => hav b h o⟩

section
variable {P : Program} {R : Reg} {w : World} {d : Option Nat} {t : TypeId} {p : String} {af : Array Edge} {g : Option (Nat × Bool)} {A : Av} {α β : Type}
variable {E : Enc α} {F : Enc β} {x : Operand} {T e : TypeId} {a : α} {xs : List α} {B : Nat}
theorem made_alloc {z : Value} (hz : ∀ w, (zeroValue T).run P w = .ok z w) (hr : ∀ A w, E.rep A w a z.cells.toList) (hB : B ≤ w.heap.size) : OpR P ⟨d, .alloc T, t, p, af, g⟩ R w (Made A (.box B T E a) (fun _ => .any) w) := by
  refine opr_val (v := .pointer (some ⟨w.heap.size, 0, none⟩)) (w' := w.alloc (.cells z.cells T)) ?_ ⟨Fr.alloc _ _, fun k hk => ?_, ⟨_, rfl, hB, z.cells.toList, ?_, hr _ _⟩, trivial⟩
  · simp [execOp, Instr.alloc, newVar, newRow, hz]
  · have : w.heap.size = k := hk
    omega
  · have := Blk.new w T z.cells
    simpa using this
theorem made_box (hx : Rep E A w (evalR R x) a) (hB : B ≤ w.heap.size) : OpR P ⟨d, .box T x, t, p, af, g⟩ R w (Made A (.box B T E a) (fun _ => .any) w) := by
  have hf := Fr.alloc w (.cells (evalR R x).cells T)
  have hv : ∀ k, ownsB (.pointer (some ⟨w.heap.size, 0, none⟩)) k → w.heap.size ≤ k := fun k hk => by
    have : w.heap.size = k := hk
    omega
  refine opr_val (v := .pointer (some ⟨w.heap.size, 0, none⟩)) (w' := w.alloc (.cells (evalR R x).cells T)) (by simp [execOp, Instr.box, newVar, newRow]) ⟨hf, hv, ⟨_, rfl, hB, (evalR R x).cells.toList, ?_, E.stp (hf.stp_add hv) hx.cells⟩, trivial⟩
  have := Blk.new w T (evalR R x).cells
  simpa using this
theorem took_store {ad : Operand} {T' : TypeId} {u : Value} {b off : Nat} {s : α → β → α} {y : β} {a' : α} (hx : Rep F A w (evalR R x) y) (had : evalR R ad = .pointer (some ⟨b, off, none⟩)) (hu : u = .pointer (some ⟨b, 0, none⟩)) (hok : (Res.box B T E a).ok A u w) (hav : ∀ k, ownsB u k → ∀ o, A k o)
    (fs : FldS E off F s) (hsz : ∀ w, (sizeOf T').run P w = .ok F.size w) (hs : s a y = a') : OpR P ⟨none, .store T' ad x, t, p, af, g⟩ R w (Took A false u (.box B T E a') (fun _ => .any) w) := by
  obtain ⟨b', hu', hB, cs, hb, hr⟩ := hok
  subst hu
  obtain rfl : b' = b := by injection hu' with h; injection h with h; injection h with h; exact h.symm
  have hc := hx.cells
  have hcl := F.len hc
  have hle := fs.le
  obtain ⟨w', h1, h2, h3⟩ := run_storeVar (P := P) (o := off) hsz (F.oc hc) (by simpa using hcl) hb (by simp [E.len hr]; omega)
  refine opr_skip (w' := w') ?_ ?_
  · simp only [execOp, Instr.storeAt, Instr.sureAddr, had]
    simp [h1]
  · have hch : Ch (ownsB (.pointer (some ⟨b', 0, none⟩))) w w' := h2.ch
    have hst := stp_swap_self hav hch
    refine ⟨_, rfl, hch, fun k _ h => h, hst, ⟨b', rfl, hB, _, ?_, hs ▸ fs.put (E.stp hst hr) (F.stp hst hc)⟩, trivial⟩
    rw [lay_list _ _ _ (by rw [E.len hr]; omega), hcl] at h3
    exact h3

/-! rows -/
theorem flat_nil {A : Av} {w : World} : Flat E A w [] [] := ⟨by simp, fun i x h => by simp at h⟩
theorem flat_snoc {A : Av} {w : World} {cs ds : List Value} {xs : List α} {x : α} (h : Flat E A w cs xs) (hd : E.rep A w x ds) : Flat E A w (cs ++ ds) (xs ++ [x]) := by
  refine ⟨by rw [List.length_append, h.1, E.len hd, List.length_append, Nat.add_mul]; simp, fun i y hy => ?_⟩
  by_cases hi : i < xs.length
  · rw [List.getElem?_append_left hi] at hy
    obtain ⟨es, h1, h2⟩ := h.2 i y hy
    refine ⟨es, h1, fun j d hj => ?_⟩
    have := h2 j d hj
    rw [List.getElem?_append_left (List.getElem?_eq_some_iff.1 this).1]
    exact this
  · have hlt := (List.getElem?_eq_some_iff.1 hy).1
    simp at hlt
    obtain rfl : i = xs.length := by omega
    rw [List.getElem?_append_right (Nat.le_refl _)] at hy
    simp at hy
    subst hy
    refine ⟨ds, hd, fun j d hj => ?_⟩
    rw [List.getElem?_append_right (by rw [h.1]; omega), h.1]
    simpa using hj
theorem flat_app {A : Av} {w : World} {cs ds : List Value} {xs ys : List α} (h : Flat E A w cs xs) (k : Flat E A w ds ys) : Flat E A w (cs ++ ds) (xs ++ ys) := by
  refine ⟨by rw [List.length_append, h.1, k.1, List.length_append, Nat.add_mul], fun i y hy => ?_⟩
  by_cases hi : i < xs.length
  · rw [List.getElem?_append_left hi] at hy
    obtain ⟨es, h1, h2⟩ := h.2 i y hy
    refine ⟨es, h1, fun j d hj => ?_⟩
    have := h2 j d hj
    rw [List.getElem?_append_left (List.getElem?_eq_some_iff.1 this).1]
    exact this
  · rw [List.getElem?_append_right (by omega)] at hy
    obtain ⟨es, h1, h2⟩ := k.2 _ y hy
    refine ⟨es, h1, fun j d hj => ?_⟩
    have e : i * E.size + j = xs.length * E.size + ((i - xs.length) * E.size + j) := by
      rw [Nat.sub_mul]
      have := Nat.mul_le_mul_right E.size (show xs.length ≤ i by omega)
      omega
    rw [e, List.getElem?_append_right (by rw [h.1]; omega), h.1, Nat.add_sub_cancel_left]
    exact h2 j d hj
/-- a row in memory, cell by cell -/
theorem flat_of {A : Av} {w : World} {b : Nat} : ∀ (ys : List α) (o : Nat), (∀ (i : Nat) y, ys[i]? = some y → QAt E A w b (o + i * E.size) y) →
    ∃ news, Flat E A w news ys ∧ (∀ (j : Nat) u, news[j]? = some u → w.cell? ⟨b, o + j, none⟩ = some u) ∧ ∀ u ∈ news, u.oneCell' = true
  | [], o, _ => ⟨[], flat_nil, fun j u h => by simp at h, fun u h => by simp at h⟩
  | y :: ys, o, h => by
    obtain ⟨⟨ds, h1, h2⟩, _⟩ := h 0 y rfl
    rw [Nat.zero_mul, Nat.add_zero] at h2
    obtain ⟨news, h3, h4, h5⟩ := flat_of ys (o + E.size) fun i z hz => by
      have := h (i + 1) z (by simpa using hz)
      rwa [show o + (i + 1) * E.size = o + E.size + i * E.size by rw [Nat.add_mul]; omega] at this
    refine ⟨ds ++ news, ?_, fun j u hj => ?_, fun u hu => ?_⟩
    · have := flat_app (flat_snoc flat_nil h1) h3
      simpa using this
    · by_cases hlt : j < ds.length
      · rw [List.getElem?_append_left hlt] at hj
        exact h2 j u hj
      · rw [List.getElem?_append_right (by omega)] at hj
        have := h4 _ u hj
        rwa [E.len h1, show o + E.size + (j - E.size) = o + j by rw [E.len h1] at hlt; omega] at this
    · rcases List.mem_append.1 hu with hu | hu
      · exact E.oc h1 u hu
      · exact h5 u hu
theorem vec_nil {A : Av} {w : World} : Vec E A B T w (.slice none 0 0) ([] : List α) := ⟨[], RowM.of (World.ownsRow_nil w B T E.size), flat_nil⟩
/-- a row of our own, handed on for reading: A0 knows nothing of blocks from B on -/
theorem vec_rep {A A0 : Av} {w : World} {u : Value} {xs : List α} (h : Vec E A B T w u xs) (hA : ∀ b o, A0 b o → A b o) (hB : ∀ b o, A0 b o → b < B) : Rep (eSl E) A0 w u xs := by
  obtain ⟨cs, hown, hf⟩ := h
  have hst : Stp A A0 w w := ⟨Nat.le_refl _, fun _ _ _ h _ => h, fun b o _ h => hA b o h⟩
  rcases hown.2 with ⟨rfl, h0⟩ | ⟨g, cap, cur, rfl, hbg, hg, hnc, hcm, hcs, htake⟩
  · have : xs = [] := List.eq_nil_of_length_eq_zero h0
    subst this
    exact rep_nil
  · refine ⟨_, rfl, some ⟨g, 0, none⟩, xs.length, cap, rfl, rfl, hnc, hcm, fun _ => ⟨g, 0, rfl, hg.lt, fun i x hx => ?_⟩⟩
    obtain ⟨ds, h1, h2⟩ := hf.2 i x hx
    refine ⟨⟨ds, E.stp hst h1, fun j u hj => ?_⟩, fun j _ hA0 => by have := hB _ _ hA0; omega⟩
    have := hown.cells (g := g) rfl (i * E.size + j) u (h2 j u hj)
    rwa [addr_add, ← Nat.add_assoc] at this
theorem vec_val {A : Av} {w : World} {u : Value} {xs : List α} (h : Vec E A B T w u xs) : ∃ ad cap, u = .slice ad xs.length cap ∧ (0 < xs.length → ∃ b, ad = some ⟨b, 0, none⟩ ∧ B ≤ b) := by
  obtain ⟨cs, hown, hf⟩ := h
  rcases hown.2 with ⟨rfl, h0⟩ | ⟨g, cap, cur, rfl, hbg, _⟩
  · exact ⟨none, 0, by rw [h0], fun h => by omega⟩
  · exact ⟨_, cap, rfl, fun _ => ⟨g, rfl, hbg⟩⟩
def LIM : Nat := 4294967296
/-- the list is short enough to lie in memory -/
def lenOK (n : Nat) : Bool := Nat.ble n LIM
theorem lenOK_le {n : Nat} (h : lenOK n = true) : n ≤ 4294967296 := Nat.le_of_ble_eq_true h
/-- an element type: its row of the table -/
def ElF (P : Program) (e : TypeId) (s : Nat) : Prop := ∃ (i : TypeInfo) (z : Value) (b : Nat), P.info? e = some i ∧ i.zero = some z ∧ i.size = s ∧ i.bytes = b ∧ z.cells.size = s ∧ 0 < s ∧ b ≤ 4096
theorem run_storeCellsM {b : Nat} {T : TypeId} : ∀ (vs : List Value) (cs : Array Value) (o i : Nat) (w : World), (∀ v ∈ vs, v.oneCell' = true) → BlkM w b T cs → o + i + vs.length ≤ cs.size →
    ∃ w', (storeCells ⟨b, o, none⟩ vs i).run P w = .ok () w' ∧ Wr b w w' ∧ BlkM w' b T (lay cs (o + i) vs)
  | [], cs, o, i, w, _, hb, _ => ⟨w, rfl, Wr.refl _ _, hb⟩
  | v :: vs, cs, o, i, w, h1, hb, hl => by
    simp only [List.length_cons] at hl
    have hc : w.cell? ⟨b, o + i, none⟩ = some cs[o + i] := by rw [hb.cell]; exact Array.getElem?_eq_getElem (by omega)
    obtain ⟨w', hr, hw, hb'⟩ := run_storeCellsM vs (cs.setIfInBounds (o + i) v) o (i + 1) (w.setCell ⟨b, o + i, none⟩ v) (fun u hu => h1 u (by simp [hu])) (hb.put _ _) (by simp; omega)
    refine ⟨w', ?_, (Wr.setCell _ _ _ _).trans hw, hb'⟩
    have hst := run_store P w ((⟨b, o, none⟩ : Addr).add i) v .plain (h1 v (by simp))
    rw [addr_add, hc] at hst
    simp only [hb.frozen (o + i) (by omega), Bool.false_eq_true, if_false] at hst
    simp only [storeCells, Sem.run_bind, addr_add, hst, Result.andThen_ok, hr]
theorem run_storeVarM {b o s : Nat} {T' : TypeId} {v : Value} {cs : Array Value} (hsz : ∀ w, (sizeOf T').run P w = .ok s w) (h1 : ∀ u ∈ v.cells.toList, u.oneCell' = true) (hs : v.cells.size = s) (hb : BlkM w b T cs) (hl : o + s ≤ cs.size) :
    ∃ w', (storeVar T' ⟨b, o, none⟩ v).run P w = .ok () w' ∧ Wr b w w' ∧ BlkM w' b T (lay cs o v.cells.toList) := by
  obtain ⟨w', h2, h3, h4⟩ := run_storeCellsM (P := P) v.cells.toList cs o 0 w h1 hb (by simp; omega)
  refine ⟨w', ?_, h3, h4⟩
  simp [storeVar, hsz, hs, h2]
theorem run_append_M (w : World) {i : TypeInfo} {z : Value} {ty : TypeId} {size bytes : Nat} (ht : P.underlying T = some (.slice e)) (hi : P.info? e = some i) (hz : i.zero = some z) (hsize : i.size = size) (hby : i.bytes = bytes) (hzs : z.cells.size = size) (hsz : 0 < size)
    {u : Value} {n : Nat} {cs : List Value} (hown : RowM w B e size u n cs) (a : Addr) (m c : Nat) (news : List Value) (hl : news.length = m * size) (hnews : ∀ j v, news[j]? = some v → w.cell? (a.add j) = some v) (h1 : ∀ v ∈ news, v.oneCell' = true)
    (h63 : n + m ≤ maxLen) (hbytes : (n + m) * bytes ≤ 140737488355328) (hbase : B ≤ w.heap.size) :
    ∃ v' w', (Builtin.append_ #[T, T] ty #[u, .slice (some a) m c]).run P w = .ok v' w' ∧ RowM w' B e size v' (n + m) (cs ++ news) ∧ Ch (ownsB u) w w' ∧ ∀ k, k < w.heap.size → ownsB v' k → ownsB u k := by
  subst hsize
  subst hby
  have hsmall : n + m ≤ 9223372036854775807 := by simp only [maxLen] at h63; omega
  have hlen : (cs ++ news).length = (n + m) * i.size := by rw [List.length_append, hown.1, hl, Nat.add_mul]
  have grown : ∀ (old : Nat), old < n + m → ∀ (S : Nat → Prop),
      RowM (w.drew.alloc (.cells (cs.toArray ++ news.toArray ++ Builtin.zeroCells z.cells (grownCap w (n + m) old e - (n + m))) e)) B e i.size
        (.slice (some ⟨w.heap.size, 0, none⟩) (n + m) (grownCap w (n + m) old e)) (n + m) (cs ++ news) ∧
      Ch S w (w.drew.alloc (.cells (cs.toArray ++ news.toArray ++ Builtin.zeroCells z.cells (grownCap w (n + m) old e - (n + m))) e)) := by
    intro old ho S
    have hge := grownCap_ge w (n + m) old e
    have hcm : grownCap w (n + m) old e ≤ maxLen := grownCap_le_maxLen w (n + m) old e h63
    refine ⟨⟨hlen, .inr ⟨w.heap.size, _, _, rfl, hbase, BlkM.of (heap_alloc_new w.drew _), hge, hcm, ?_, ?_⟩⟩, ⟨rfl, rfl, rfl, by simp, fun k hk _ => heap_alloc_old w.drew _ hk, fun _ => Nat.le_succ _⟩⟩
    · simp only [Array.size_append, List.size_toArray, size_zeroCells, hzs, hown.1, hl, ← Nat.add_mul]
      congr 1
      omega
    · simp only [Array.toList_append, List.append_assoc]
      rw [← List.append_assoc, ← hlen]
      exact List.take_left
  have hnew : ∀ {N C : Nat} {k : Nat}, k < w.heap.size → ownsB (.slice (some ⟨w.heap.size, 0, none⟩) N C) k → False := fun {N C k} hk hk' => by
    have : w.heap.size = k := hk'
    omega
  rcases hown.2 with ⟨rfl, rfl⟩ | ⟨g, cap, cur, rfl, hbg, hg, hnc, hcm, hcs, htake⟩
  · have hx : cs = [] := List.eq_nil_of_length_eq_zero (by simpa using hown.1)
    subst hx
    by_cases hm : m = 0
    · subst hm
      have hn : news = [] := List.eq_nil_of_length_eq_zero (by simpa using hl)
      subst hn
      refine ⟨.slice none 0 0, w, ?_, RowM.of (World.ownsRow_nil w B e i.size), Ch.refl _ _, fun k _ h => h⟩
      simp [Builtin.append_, run_underlying ht, sizeOf, typeInfo, hi, Builtin.lenOf, Builtin.firstCells, loadCells, loadCellsFrom]
    · have hr := run_append_nil (P := P) w T ty e i z ht hi hz a m c news hl hnews (by omega) (by omega) (by have hb := hbytes; simp only [Nat.zero_add] at hb; omega)
      have hgr := grown 0 (by omega) (ownsB (.slice none 0 0))
      simp only [Nat.zero_add, List.nil_append, Array.empty_append] at hgr ⊢
      exact ⟨_, _, hr, hgr.1, hgr.2, fun k hk hk' => (hnew hk hk').elim⟩
  · by_cases hroom : n + m ≤ cap
    · have hfit : n * i.size + news.length ≤ cur.size := by rw [hl, hcs, ← Nat.add_mul]; exact Nat.mul_le_mul_right _ hroom
      have hf := run_firstCells_some (P := P) w i.size m a m c news hl hnews
      obtain ⟨w', hst, hwr, hbk⟩ := run_storeCellsM (P := P) news cur (n * i.size) 0 w h1 hg (by simpa using hfit)
      rw [Nat.add_zero] at hbk
      refine ⟨.slice (some ⟨g, 0, none⟩) (n + m) cap, w', ?_, ⟨hlen, .inr ⟨g, cap, _, rfl, hbg, hbk, hroom, hcm, by rw [lay_size]; exact hcs, ?_⟩⟩, hwr.ch, fun k _ h => h⟩
      · simp [Builtin.append_, run_underlying ht, sizeOf, typeInfo, hi, Builtin.lenOf, hroom, hf, Addr.add_lit, hst]
      · have hcl := hown.1
        apply List.ext_getElem?
        intro j
        by_cases hj : j < (n + m) * i.size
        · rw [List.getElem?_take, if_pos hj, Array.getElem?_toList, lay_at _ _ _ _ hfit]
          by_cases hj1 : j < n * i.size
          · rw [if_neg (by omega), List.getElem?_append_left (by omega), ← htake, List.getElem?_take, if_pos hj1, Array.getElem?_toList]
          · rw [if_pos (by rw [hl, ← Nat.add_mul]; omega), List.getElem?_append_right (by omega), hcl]
        · rw [List.getElem?_take, if_neg hj, List.getElem?_eq_none (by rw [hlen]; omega)]
    · have holds : ∀ j v, cs[j]? = some v → w.cell? ((⟨g, 0, none⟩ : Addr).add j) = some v := hown.cells (g := g) rfl
      have hr := run_append_grow (P := P) w T ty e i z ht hi hz ⟨g, 0, none⟩ n cap cs hown.1 holds a m c news hl hnews (by omega) (by omega) (growslice_fits (by omega) hbytes)
      have hgr := grown cap (by omega) (ownsB (.slice (some ⟨g, 0, none⟩) n cap))
      exact ⟨_, _, hr, hgr.1, hgr.2, fun k hk hk' => (hnew hk hk').elim⟩
theorem took_append1 {y : Operand} {ty : TypeId} {ys : List α} {u : Value} {dd : Nat} (hx : evalR R x = u) (hok : (Res.vec B e E xs).ok A u w) (hav : ∀ k, ownsB u k → ∀ o, A k o) (hB : B ≤ w.heap.size) {A1 : Av} (hy : Rep (eSl E) A1 w (evalR R y) ys) (ht : P.underlying T = some (.slice e)) (he : ElF P e E.size) (hl : lenOK (xs.length + ys.length) = true) (hcv : ∀ x cs, E.rep A1 w x cs → E.rep A w x cs) :
    OpR P ⟨some dd, .call ⟨.builtin .append, #[x, y], #[T, T]⟩, ty, p, af, g⟩ R w (Took A true u (.vec B e E (xs ++ ys)) (fun _ => .any) w) := by
  obtain ⟨i, z, b, hi, hz, hs, hb, hzs, hs0, hb4⟩ := he
  have hl := lenOK_le hl
  have hby : (xs.length + ys.length) * b ≤ 140737488355328 := by
    have := Nat.mul_le_mul hl hb4
    omega
  have hm : xs.length + ys.length ≤ maxLen := by unfold maxLen; omega
  obtain ⟨cs, hown, hf⟩ := hok
  obtain ⟨vc, hv, ad, n, c, rfl, hyl, hnc, hcm, h4⟩ := hy
  have hv' : evalR R y = .slice ad n c := hv
  have fin : ∀ (v' : Value) (w' : World) (news : List Value), (Builtin.append_ #[T, T] ty #[u, .slice ad n c]).run P w = .ok v' w' → RowM w' B e E.size v' (xs.length + ys.length) (cs ++ news) → Ch (ownsB u) w w' → Flat E A w news ys → (∀ k, k < w.heap.size → ownsB v' k → ownsB u k) →
      OpR P ⟨some dd, .call ⟨.builtin .append, #[x, y], #[T, T]⟩, ty, p, af, g⟩ R w (Took A true u (.vec B e E (xs ++ ys)) (fun _ => .any) w) := fun v' w' news hrun hown' hch hfl hsame => by
    have hst : Stp A (swapA A u v') w w' := ⟨hch.size, fun b o v hv hn => (World.cell?_of_block (w := w) (hch.block b (cell_lt' hv) fun h => hn (hav b h o))).trans hv, fun b o hb' h => h.elim (·.1) fun h => hav b (hsame b hb' h) o⟩
    refine opr_val (v := v') (w' := w') ?_ ⟨v', rfl, hch, hsame, hst, ⟨cs ++ news, ?_, (flat_app hf hfl).stp hst⟩, trivial⟩
    · simp [execOp, resolve, invoke, builtin, hx, hv', hrun]
    · rw [List.length_append]
      exact hown'
  have hsrc : ∃ (a0 : Addr) (news : List Value), (ad = some a0 ∨ ys = []) ∧ Flat E A w news ys ∧ (∀ (j : Nat) v, news[j]? = some v → w.cell? (a0.add j) = some v) ∧ ∀ v ∈ news, v.oneCell' = true := by
    rcases Nat.eq_zero_or_pos n with h0 | h0
    · have hyn : ys = [] := List.eq_nil_of_length_eq_zero (by omega)
      subst hyn
      exact ⟨⟨0, 0, none⟩, [], .inr rfl, flat_nil, fun j v h => by simp at h, fun v h => by simp at h⟩
    · obtain ⟨b', off, rfl, _, hall⟩ := h4 h0
      obtain ⟨news, h1, h2, h3⟩ := flat_of ys off hall
      exact ⟨_, news, .inl rfl, ⟨h1.1, fun i x hx => let ⟨ds, k1, k2⟩ := h1.2 i x hx; ⟨ds, hcv _ _ k1, k2⟩⟩, fun j v hj => by rw [addr_add]; exact h2 j v hj, h3⟩
  obtain ⟨a0, news, had, hfl, hcell, hone⟩ := hsrc
  have hnl : news.length = ys.length * E.size := hfl.1
  subst hyl
  cases ad with
  | none =>
    have hyn : ys = [] := had.resolve_left (by simp)
    subst hyn
    have hn0 : news = [] := List.eq_nil_of_length_eq_zero (by rw [hnl]; simp)
    subst hn0
    have hrun : (Builtin.append_ #[T, T] ty #[u, .slice none ([] : List α).length c]).run P w = .ok u w := by
      rcases hown.2 with ⟨rfl, h0⟩ | ⟨g', cap, cur, rfl, _, _, hnc', _⟩
      · simp [Builtin.append_, run_underlying ht, sizeOf, typeInfo, hi, Builtin.lenOf, Builtin.firstCells]
      · simp [Builtin.append_, run_underlying ht, sizeOf, typeInfo, hi, Builtin.lenOf, Builtin.firstCells, hnc', storeCells]
    refine fin u w [] hrun ?_ (Ch.refl _ _) flat_nil (fun k _ h => h)
    simpa using hown
  | some a1 =>
    have hcell' : ∀ (j : Nat) v, news[j]? = some v → w.cell? (a1.add j) = some v := by
      rcases had with h | h
      · injection h with h
        subst h
        exact hcell
      · subst h
        have hn0 : news = [] := List.eq_nil_of_length_eq_zero (by rw [hnl]; simp)
        subst hn0
        intro j v h
        simp at h
    obtain ⟨v', w', hrun, hown', hch, hsame⟩ := run_append_M (P := P) (ty := ty) w ht hi hz hs hb hzs hs0 hown a1 ys.length c news hnl hcell' hone hm hby hB
    exact fin v' w' news hrun hown' hch hfl hsame
theorem took_append {y : Operand} {ty : TypeId} {ys : List α} {u : Value} {dd : Nat} (hx : evalR R x = u) (hok : (Res.vec B e E xs).ok A u w) (hav : ∀ k, ownsB u k → ∀ o, A k o) (hB : B ≤ w.heap.size) (hy : Rep (eSl E) A w (evalR R y) ys) (ht : P.underlying T = some (.slice e)) (he : ElF P e E.size) (hl : lenOK (xs.length + ys.length) = true) :
    OpR P ⟨some dd, .call ⟨.builtin .append, #[x, y], #[T, T]⟩, ty, p, af, g⟩ R w (Took A true u (.vec B e E (xs ++ ys)) (fun _ => .any) w) :=
  took_append1 hx hok hav hB hy ht he hl (fun _ _ h => h)
theorem madeCells_flat {A : Av} {w : World} {zc : Array Value} {z : α} (hz : E.rep A w z zc.toList) (n : Nat) : Flat E A w (madeCells zc (n * E.size)).toList (List.replicate n z) := by
  have hl : zc.size = E.size := by simpa using E.len hz
  refine ⟨by simp [madeCells], fun i x hx => ?_⟩
  have hi := (List.getElem?_eq_some_iff.1 hx).1
  simp at hi
  have : x = z := by
    rw [List.getElem?_replicate, if_pos hi] at hx
    injection hx with hx
    exact hx.symm
  subst this
  refine ⟨zc.toList, hz, fun j d hj => ?_⟩
  have hjl : j < E.size := by
    have := (List.getElem?_eq_some_iff.1 hj).1
    simp at this
    omega
  have hlt : i * E.size + j < n * E.size := by
    have := Nat.mul_le_mul_right E.size (show i + 1 ≤ n by omega)
    rw [Nat.add_mul] at this
    omega
  simp only [madeCells, Array.getElem?_toList]
  rw [Array.getElem?_map, Array.getElem?_range, if_pos hlt]
  simp only [Option.map_some, hl]
  rw [show (i * E.size + j) % E.size = j by rw [Nat.mul_comm, Nat.mul_add_mod, Nat.mod_eq_of_lt hjl]]
  rw [← hj]
  simp only [Array.getElem?_toList]
  rw [Array.getElem?_eq_getElem (by omega), getElem!_pos zc j (by omega)]
def mkOK (n : Int) : Bool := decide (0 ≤ n) && decide (n ≤ 1048577)
theorem made_make {y : Operand} {k k' : IntKind} {n : Int} {zc : Value} {z : α} (hx : evalR R x = .int k n) (hy : evalR R y = .int k' n) (hn : mkOK n = true) (ht : P.underlying T = some (.slice e)) (he : ElF P e E.size) (hz : ∀ w, (zeroValue e).run P w = .ok zc w) (hzr : ∀ A w, E.rep A w z zc.cells.toList) (hB : B ≤ w.heap.size) :
    OpR P ⟨d, .makeSlice T x y, t, p, af, g⟩ R w (Made A (.vec B e E (List.replicate n.toNat z)) (fun _ => .any) w) := by
  obtain ⟨i, z', b, hi, hz', hs, hb, hzs, hs0, hb4⟩ := he
  simp only [mkOK, Bool.and_eq_true, decide_eq_true_eq] at hn
  have hzz : z' = zc := by
    have := hz w
    simp [zeroValue, typeInfo, hi, hz'] at this
    exact this
  subst hzz
  have hby : (i.bytes : Int) * n ≤ 281474976710656 := by
    have h1 : i.bytes * n.toNat ≤ 4096 * 1048577 := Nat.mul_le_mul (by omega) (by omega)
    have h2 : (i.bytes : Int) * n = ((i.bytes * n.toNat : Nat) : Int) := by
      rw [Int.natCast_mul, Int.toNat_of_nonneg hn.1]
    omega
  have hr := run_make (P := P) w T e i z' ht hi hz' k k' n n hn.1 (Int.le_refl _) hby (by omega)
  have hv : ∀ k, ownsB (.slice (some ⟨w.heap.size, 0, none⟩) n.toNat n.toNat) k → w.heap.size ≤ k := fun k hk => by
    have : w.heap.size = k := hk
    omega
  have hf := Fr.alloc w (.cells (madeCells z'.cells (n.toNat * i.size)) e)
  refine opr_val (v := .slice (some ⟨w.heap.size, 0, none⟩) n.toNat n.toNat) (w' := w.alloc (.cells (madeCells z'.cells (n.toNat * i.size)) e)) (by simp [execOp, hx, hy, hr]) ⟨hf, hv, ⟨(madeCells z'.cells (n.toNat * E.size)).toList, ⟨?_, .inr ⟨w.heap.size, n.toNat, madeCells z'.cells (n.toNat * i.size), by simp, hB, BlkM.of (heap_alloc_new w _), by simp, by unfold maxLen; omega, by simp [madeCells, hs], ?_⟩⟩, madeCells_flat (hzr _ _) _⟩, trivial⟩
  · simp [madeCells]
  · rw [hs]
    simp only [List.length_replicate]
    rw [List.take_of_length_le (by simp [madeCells])]

/-! a row written out -/
theorem fold_lay : ∀ (vs : List Value) (k : Nat) (cells : Array Value) (off : Nat), ((vs.zipIdx k).foldl (fun cs (c, j) => cs.setIfInBounds (off + j) c) cells) = lay cells (off + k) vs
  | [], _, _, _ => rfl
  | v :: vs, k, cells, off => by
    rw [List.zipIdx_cons, List.foldl_cons, fold_lay vs (k + 1)]
    rfl
theorem fill_row {s : Nat} : ∀ (vs : List Value) (k : Nat) (cells : Array Value), (∀ v ∈ vs, v.cells.size = s) → (k + vs.length) * s ≤ cells.size →
    Instr.fill (fun i => some (i * s, s)) cells ((vs.zipIdx k).map fun q => (q.2, q.1)) = some (lay cells (k * s) (vs.flatMap fun v => v.cells.toList))
  | [], _, _, _, _ => rfl
  | v :: vs, k, cells, hv, hl => by
    have h1 := hv v (by simp)
    have h2 : (k + 1) * s ≤ cells.size := Nat.le_trans (Nat.mul_le_mul_right s (by simp only [List.length_cons]; omega)) hl
    rw [Nat.add_mul, Nat.one_mul] at h2
    have hlay : ∀ (a b : List Value) (c : Array Value) (o : Nat), lay (lay c o a) (o + a.length) b = lay c o (a ++ b) := by
      intro a
      induction a with
      | nil => intro b c o; rfl
      | cons x a ih =>
        intro b c o
        rw [List.cons_append, lay, lay, ← ih, List.length_cons]
        congr 1
        omega
    rw [List.zipIdx_cons, List.map_cons]
    unfold Instr.fill
    simp only [h1]
    rw [if_neg (by simp; omega)]
    have hf : (v.cells.zipIdx.foldl (fun cs (x : Value × Nat) => cs.setIfInBounds (k * s + x.2) x.1) cells) = lay cells (k * s) v.cells.toList := by
      have := fold_lay v.cells.toList 0 cells (k * s)
      rw [← Array.foldl_toList, Array.toList_zipIdx]
      exact this
    rw [hf, fill_row vs (k + 1) _ (fun u hu => hv u (by simp [hu])) (by rw [lay_size]; simp only [List.length_cons] at hl; rwa [show k + 1 + vs.length = k + (vs.length + 1) by omega])]
    rw [List.flatMap_cons, ← hlay, Nat.add_mul, Nat.one_mul, Array.length_toList, h1]
theorem run_buildSlice {vs : List Value} {n s : Nat} {z : Value} (ht : P.underlying T = some (.slice e)) (hsz : ∀ w, (sizeOf e).run P w = .ok s w) (hz : ∀ w, (zeroValue e).run P w = .ok z w) (hn : n = vs.length) (hv : ∀ v ∈ vs, v.cells.size = s) (hlim : n * s ≤ 16777216) :
    (Instr.buildSlice T n ((vs.zipIdx).map fun q => (q.2, q.1)).toArray).run P w = .ok (.slice (some ⟨w.heap.size, 0, none⟩) n n) (w.alloc (.cells (vs.flatMap fun v => v.cells.toList).toArray e)) := by
  subst hn
  have hl : (vs.flatMap fun v => v.cells.toList).length = vs.length * s := by
    clear hlim
    induction vs with
    | nil => simp
    | cons v vs ih => rw [List.flatMap_cons, List.length_append, ih (fun u hu => hv u (by simp [hu])), List.length_cons, Nat.add_mul, Nat.one_mul, Array.length_toList, hv v (by simp), Nat.add_comm]
  have key : ∀ (cells : Array Value), cells.size = vs.length * s → Instr.fill (fun i => some (i * s, s)) cells ((vs.zipIdx).map fun q => (q.2, q.1)) = some (vs.flatMap fun v => v.cells.toList).toArray := fun cells hc => by
    rw [fill_row vs 0 cells hv (by rw [hc]; simp)]
    congr 1
    apply Array.ext_getElem?
    intro j
    rw [lay_at _ _ _ _ (by rw [hl, hc]; simp)]
    by_cases hj : j < vs.length * s
    · rw [if_pos (by rw [hl]; omega)]
      simp
    · rw [if_neg (by rw [hl]; omega), Array.getElem?_eq_none (by omega), Array.getElem?_eq_none (by simp only [List.size_toArray]; omega)]
  simp only [Instr.buildSlice, Sem.run_bind, run_underlying ht, Result.andThen_ok, hsz]
  rw [if_neg (by omega)]
  by_cases h0 : vs.length * s = 0
  · have := key ((Array.range 0).map fun _ => default) (by rw [h0]; simp)
    simp [h0, newRow, this]
  · have := key ((Array.range (vs.length * s)).map (z.cells[· % z.cells.size]!)) (by simp)
    simp [h0, hz, this, newRow]
/-- the operands of a row that is written out: one reading each -/
def Row (E : Enc α) (A : Av) (w : World) (R : Reg) : List Operand → List α → Prop
  | [], [] => True
  | o :: os, y :: ys => Rep E A w (evalR R o) y ∧ Row E A w R os ys
  | _, _ => False
theorem Row.vals {A : Av} {w : World} : ∀ (os : List Operand) (ys : List α), Row E A w R os ys → os.length = ys.length ∧ (∀ v ∈ os.map (evalR R), v.cells.size = E.size) ∧ Flat E A w ((os.map (evalR R)).flatMap fun v => v.cells.toList) ys
  | [], [], _ => ⟨rfl, fun v h => by simp at h, flat_nil⟩
  | o :: os, y :: ys, h => by
    obtain ⟨h1, h2, h3⟩ := Row.vals os ys h.2
    have hc := h.1.cells
    refine ⟨by simp [h1], fun v hv => ?_, ?_⟩
    · rw [List.map_cons] at hv
      rcases List.mem_cons.1 hv with h | h
      · subst h
        simpa using E.len hc
      · exact h2 v h
    · rw [List.map_cons, List.flatMap_cons]
      exact flat_app (flat_snoc flat_nil hc) h3
  | [], _ :: _, h => h.elim
  | _ :: _, [], h => h.elim
theorem run_build_op {os : List Operand} {n : Nat} {ys : List α} {z : Value} (hrow : Row E A w R os ys) (ht : P.underlying T = some (.slice e)) (hsz : ∀ w, (sizeOf e).run P w = .ok E.size w) (hz : ∀ w, (zeroValue e).run P w = .ok z w) (hn : n = os.length) (hlim : Nat.ble (n * E.size) 16777216 = true) :
    (execOp (evalR R) ⟨d, .buildSlice T n (os.zipIdx.map fun q => (q.2, q.1)).toArray, t, p, af, g⟩).run P w = .ok (.value (.slice (some ⟨w.heap.size, 0, none⟩) n n)) (w.alloc (.cells ((os.map (evalR R)).flatMap fun v => v.cells.toList).toArray e)) := by
  obtain ⟨h1, h2, h3⟩ := Row.vals os ys hrow
  have hr := run_buildSlice (P := P) (w := w) (n := n) (vs := os.map (evalR R)) ht hsz hz (by rw [List.length_map]; exact hn) h2 (Nat.le_of_ble_eq_true hlim)
  have e1 : ((os.zipIdx.map fun q => (q.2, q.1)).toArray.map fun (q : Nat × Operand) => (q.1, evalR R q.2)) = ((os.map (evalR R)).zipIdx.map fun q => (q.2, q.1)).toArray := by
    simp only [List.map_toArray, List.map_map, List.zipIdx_map]
    rfl
  simp only [execOp, Sem.run_bind]
  rw [show ((os.zipIdx.map fun q => (q.2, q.1)).toArray.map fun (x : Nat × Operand) => match x with | (i, x) => (i, evalR R x)) = ((os.map (evalR R)).zipIdx.map fun q => (q.2, q.1)).toArray from e1, hr]
  rfl
theorem of_build (os : List Operand) {n : Nat} {ys : List α} {z : Value} (hrow : Row E A w R os ys) (ht : P.underlying T = some (.slice e)) (hsz : ∀ w, (sizeOf e).run P w = .ok E.size w) (hz : ∀ w, (zeroValue e).run P w = .ok z w) (hn : n = os.length) (hlim : Nat.ble (n * E.size) 16777216 = true) (hlen : Nat.ble n 16777216 = true) (hA : AvOK A w) :
    OpF P ⟨d, .buildSlice T n (os.zipIdx.map fun q => (q.2, q.1)).toArray, t, p, af, g⟩ R w (.rep (eSl E) A ys) := by
  obtain ⟨h1, h2, h3⟩ := Row.vals os ys hrow
  have hf := Fr.alloc w (.cells ((os.map (evalR R)).flatMap fun v => v.cells.toList).toArray e)
  refine opr_val (run_build_op hrow ht hsz hz hn hlim) ⟨⟨_, rfl, some ⟨w.heap.size, 0, none⟩, n, n, rfl, by omega, Nat.le_refl _, ?_, fun _ => ⟨w.heap.size, 0, rfl, by simp, fun i x hx => ?_⟩⟩, hf⟩
  · have h4 := Nat.le_of_ble_eq_true hlen
    unfold maxLen
    omega
  · obtain ⟨ds, h4, h5⟩ := (h3.stp (hf.stp A)).2 i x hx
    refine ⟨⟨ds, h4, fun j u hj => ?_⟩, fun j _ hA' => ?_⟩
    · rw [(Blk.new w e _).cell]
      have := h5 j u hj
      rw [Nat.zero_add]
      simpa using this
    · have := hA _ _ hA'
      omega
theorem made_build (os : List Operand) {n : Nat} {ys : List α} {z : Value} (hrow : Row E A w R os ys) (ht : P.underlying T = some (.slice e)) (hsz : ∀ w, (sizeOf e).run P w = .ok E.size w) (hz : ∀ w, (zeroValue e).run P w = .ok z w) (hn : n = os.length) (hlim : Nat.ble (n * E.size) 16777216 = true) (hlen : Nat.ble n 16777216 = true) (hB : B ≤ w.heap.size) :
    OpR P ⟨d, .buildSlice T n (os.zipIdx.map fun q => (q.2, q.1)).toArray, t, p, af, g⟩ R w (Made A (.vec B e E ys) (fun _ => .any) w) := by
  obtain ⟨h1, h2, h3⟩ := Row.vals os ys hrow
  have hf := Fr.alloc w (.cells ((os.map (evalR R)).flatMap fun v => v.cells.toList).toArray e)
  have hv : ∀ k, ownsB (.slice (some ⟨w.heap.size, 0, none⟩) n n) k → w.heap.size ≤ k := fun k hk => by
    have : w.heap.size = k := hk
    omega
  have hl := h3.1
  refine opr_val (run_build_op hrow ht hsz hz hn hlim) ⟨hf, hv, ⟨_, ⟨?_, .inr ⟨w.heap.size, n, _, by rw [← h1, ← hn], hB, BlkM.of (heap_alloc_new w _), by omega, ?_, ?_, ?_⟩⟩, h3.stp (hf.stp_add hv)⟩, trivial⟩
  · rw [hl]
  · have h4 := Nat.le_of_ble_eq_true hlen
    unfold maxLen
    omega
  · simp only [List.size_toArray]
    rw [hl, ← h1, ← hn]
  · simp only []
    rw [← hl, List.take_of_length_le (Nat.le_refl _)]
/-- the address of cell k of a row -/
def vptr : Value → Nat → Value
  | .slice (some a) _ _, k => .pointer (some ⟨a.block, a.off + k, none⟩)
  | _, _ => .pointer none
theorem of_indexAddr_vec {ix : Operand} {k : IntKind} {i : Int} {u : Value} {w0 : World} {A0 : Av} {s m : Nat} (hV : Vec E A0 B e w0 u xs) (hx : evalR R x = u) (hi : evalR R ix = .int k i) (hu : P.underlying T = some (.slice e)) (hsz : ∀ w, (sizeOf e).run P w = .ok s w) (hr : inR i xs.length = true) (hm : i.toNat * s = m) :
    OpF P ⟨d, .indexAddr T x ix, t, p, af, g⟩ R w (.raw (vptr u m)) := by
  subst hm
  obtain ⟨ad, cap, rfl, hb⟩ := vec_val hV
  obtain ⟨i0, i1⟩ := inR_iff.1 hr
  obtain ⟨b, rfl, _⟩ := hb (by omega)
  refine opr_val (v := .pointer (some ⟨b, 0 + i.toNat * s, none⟩)) (w' := w) ?_ ⟨rfl, Fr.refl _⟩
  have hin : i < (xs.length : Int) := i1
  simp [execOp, Instr.indexAt, hx, hi, asIntOf, underlying, hu, i0, hin, hsz, addr_add]
theorem of_fieldAddr_vec {u : Value} {w0 : World} {A0 : Av} {m sn kn ft off sz m' : Nat} (hV : Vec E A0 B e w0 u xs) (hn : xs.length ≠ 0) (hx : evalR R x = vptr u m) (hf : FldF P sn kn ft off) (hsz : ∀ w, (sizeOf ft).run P w = .ok sz w) (h0 : sz ≠ 0) (hm : m + off = m') :
    OpF P ⟨d, .fieldAddr sn x kn, t, p, af, g⟩ R w (.raw (vptr u m')) := by
  subst hm
  obtain ⟨ad, cap, rfl, hb⟩ := vec_val hV
  obtain ⟨b, rfl, _⟩ := hb (by omega)
  refine opr_val (v := .pointer (some ⟨b, 0 + m + off, none⟩)) (w' := w) ?_ ⟨?_, Fr.refl _⟩
  · simp [execOp, run_fieldAt (w := w) hf hsz h0 hx]
  · show Value.pointer _ = Value.pointer _
    rw [Nat.add_assoc]
theorem flat_put {cs ds : List Value} {x' : α} {i : Nat} {A : Av} {w : World} (h : Flat E A w cs xs) (hi : i < xs.length) (hd : E.rep A w x' ds) : Flat E A w (cs.take (i * E.size) ++ ds ++ cs.drop (i * E.size + E.size)) (xs.set i x') := by
  have hl := E.len hd
  have h1 := Nat.mul_le_mul_right E.size (show i + 1 ≤ xs.length by omega)
  rw [Nat.add_mul, Nat.one_mul, ← h.1] at h1
  refine ⟨?_, fun j y hy => ?_⟩
  · rw [List.length_append, List.length_append, List.length_take, List.length_drop, hl, List.length_set, ← h.1]
    omega
  · by_cases e : i = j
    · subst e
      rw [List.getElem?_set_self hi] at hy
      injection hy with hy
      subst hy
      refine ⟨ds, hd, fun k d hk => ?_⟩
      have hk' := (List.getElem?_eq_some_iff.1 hk).1
      rw [List.append_assoc, List.getElem?_append_right (by simp; omega), List.getElem?_append_left (by simp; omega)]
      rw [← hk]
      congr 1
      simp
      omega
    · rw [List.getElem?_set_ne e] at hy
      obtain ⟨es, h2, h3⟩ := h.2 j y hy
      refine ⟨es, h2, fun k d hk => ?_⟩
      have hk' := (List.getElem?_eq_some_iff.1 hk).1
      rw [E.len h2] at hk'
      have h4 := h3 k d hk
      rcases Nat.lt_or_ge j i with hj | hj
      · have h5 := Nat.mul_le_mul_right E.size (show j + 1 ≤ i by omega)
        rw [Nat.add_mul, Nat.one_mul] at h5
        rw [List.append_assoc, List.getElem?_append_left (by simp; omega), List.getElem?_take, if_pos (by omega)]
        exact h4
      · have h5 := Nat.mul_le_mul_right E.size (show i + 1 ≤ j by omega)
        rw [Nat.add_mul, Nat.one_mul] at h5
        rw [List.getElem?_append_right (by simp; omega), List.getElem?_drop]
        rw [← h4]
        congr 1
        simp
        omega
/-- a store into element i of a row, at a part of the element -/
theorem took_vstore [Inhabited α] {ad : Operand} {T' : TypeId} {u : Value} {m off : Nat} {i : Int} {s : α → β → α} {y : β} {ys : List α} (hx : Rep F A w (evalR R x) y) (hok : (Res.vec B e E xs).ok A u w) (hav : ∀ k, ownsB u k → ∀ o, A k o) (had : evalR R ad = vptr u m) (hr : inR i xs.length = true) (hm : m = i.toNat * E.size + off)
    (fs : FldS E off F s) (hsz : ∀ w, (sizeOf T').run P w = .ok F.size w) (hs : xs.set i.toNat (s (gtD xs i) y) = ys) : OpR P ⟨none, .store T' ad x, t, p, af, g⟩ R w (Took A false u (.vec B e E ys) (fun _ => .any) w) := by
  subst hs hm
  obtain ⟨cs, hown, hf⟩ := hok
  obtain ⟨ds, hd1, hd2⟩ := hf.2 _ _ (getD_at hr)
  obtain ⟨i0, i1⟩ := inR_iff.1 hr
  have hi : i.toNat < xs.length := by omega
  have hc := hx.cells
  have hcl := F.len hc
  have hle := fs.le
  have hdl := E.len hd1
  rcases hown.2 with ⟨rfl, h0⟩ | ⟨g', cap, cur, rfl, hbg, hg', hnc, hcm, hcs, htk⟩
  · omega
  · have hmul := Nat.mul_le_mul_right E.size (show i.toNat + 1 ≤ xs.length by omega)
    have hmul2 := Nat.mul_le_mul_right E.size hnc
    rw [Nat.add_mul, Nat.one_mul] at hmul
    obtain ⟨w', h1, h2, h3⟩ := run_storeVarM (P := P) (o := i.toNat * E.size + off) hsz (F.oc hc) (by simpa using hcl) hg' (by omega)
    have had' : evalR R ad = .pointer (some ⟨g', i.toNat * E.size + off, none⟩) := by rw [had]; show Value.pointer _ = _; rw [Nat.zero_add]
    refine opr_skip (w' := w') ?_ ?_
    · simp only [execOp, Instr.storeAt, Instr.sureAddr, had']
      simp [h1]
    · have hch : Ch (ownsB (.slice (some ⟨g', 0, none⟩) xs.length cap)) w w' := h2.ch
      have hst := stp_swap_self hav hch
      have hput := fs.put (E.stp hst hd1) (F.stp hst hc)
      refine ⟨_, rfl, hch, fun k _ h => h, hst, ⟨_, ⟨?_, .inr ⟨g', cap, _, by rw [List.length_set], hbg, h3, by rw [List.length_set]; exact hnc, hcm, by rw [lay_size]; exact hcs, rfl⟩⟩, ?_⟩, trivial⟩
      · have hll : (lay cur (i.toNat * E.size + off) (evalR R x).cells.toList).toList.length = cap * E.size := by
          rw [Array.length_toList, lay_size, hcs]
        rw [List.length_take, List.length_set, hll]
        exact Nat.min_eq_left hmul2
      · have hfl := flat_put (hf.stp hst) hi hput
        have hcslen := hf.1
        have hcz : (evalR R x).cells.size = F.size := by simpa using hcl
        have e1 : ((lay cur (i.toNat * E.size + off) (evalR R x).cells.toList).toList.take ((xs.set i.toNat (s (gtD xs i) y)).length * E.size)) = cs.take (i.toNat * E.size) ++ (ds.take off ++ (evalR R x).cells.toList ++ ds.drop (off + F.size)) ++ cs.drop (i.toNat * E.size + E.size) := by
          rw [List.length_set]
          apply List.ext_getElem?
          intro j
          have hcur : ∀ j, j < xs.length * E.size → cur[j]? = cs[j]? := fun j hj => by
            rw [← htk, List.getElem?_take, if_pos hj, Array.getElem?_toList]
          have hds : ∀ j, j < E.size → cs[i.toNat * E.size + j]? = ds[j]? := fun j hj => by
            have : j < ds.length := by omega
            rw [List.getElem?_eq_getElem this]
            exact hd2 j _ (List.getElem?_eq_getElem this)
          by_cases hj : j < xs.length * E.size
          · rw [List.getElem?_take, if_pos hj, Array.getElem?_toList, lay_at _ _ _ _ (by rw [hcl, hcs]; omega), hcl]
            by_cases hj1 : j < i.toNat * E.size
            · rw [if_neg (by omega), hcur j hj, List.append_assoc, List.getElem?_append_left (by simp; omega), List.getElem?_take, if_pos hj1]
            · by_cases hj2 : j < i.toNat * E.size + E.size
              · rw [List.append_assoc, List.getElem?_append_right (by simp; omega), List.getElem?_append_left (by simp [hcz]; omega)]
                have e2 : j - (cs.take (i.toNat * E.size)).length = j - i.toNat * E.size := by
                  simp
                  omega
                rw [e2]
                by_cases hj3 : i.toNat * E.size + off ≤ j ∧ j < i.toNat * E.size + off + F.size
                · rw [if_pos hj3, List.append_assoc, List.getElem?_append_right (by simp; omega), List.getElem?_append_left (by simp [hcz]; omega)]
                  congr 1
                  simp
                  omega
                · rw [if_neg hj3, hcur j hj]
                  have := hds (j - i.toNat * E.size) (by omega)
                  rw [show i.toNat * E.size + (j - i.toNat * E.size) = j by omega] at this
                  rw [this]
                  by_cases hj4 : j < i.toNat * E.size + off
                  · rw [List.append_assoc, List.getElem?_append_left (by simp; omega), List.getElem?_take, if_pos (by omega)]
                  · rw [List.getElem?_append_right (by simp [hcz]; omega), List.getElem?_drop]
                    congr 1
                    simp [hcz]
                    omega
              · rw [if_neg (by omega), hcur j hj, List.getElem?_append_right (by simp [hcz]; omega), List.getElem?_drop]
                congr 1
                simp [hcz]
                omega
          · rw [List.getElem?_take, if_neg hj, List.getElem?_eq_none (by simp [hcz]; omega)]
        rw [e1]
        exact hfl
end
end Go.Proofs.Ytmgiijdejigdhaa
