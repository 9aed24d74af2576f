/- Own texts laid together. No statement of the seat is proved here. -/
import Derived.Test.YtmkgocdgkdglnaaZx2
/- Printed by dec.py: plain functions and the proofs that the code computes them. No statement of the seat is proved here. -/
namespace Go.Proofs.Ytmkgocdgkdglnaa
open Go.RowKit
set_option linter.unusedVariables false
open _root_.Go.Proofs.Try
set_option maxRecDepth 100000
set_option maxHeartbeats 4000000
def M_laws_big (fu : Nat) (p0 : List Int) : Option Bool :=
 some (decide (1048576 < (p0.length : Int)))
theorem M_laws_big_ok {fu : Nat} {A : Av} {p0 : List Int} {r : Bool} (c : M_laws_big fu p0 = some r) {w : World} {v0 : Value} (d : AvOK A w) (h0 : Rep (eSl (eInt .u8)) A w v0 p0) :
 Calls Try.prog 23 #[v0] w fun e w' => ∃ v, e = .returned v ∧ (v = .bool r ∧ Fr w w') := by
 unfold M_laws_big at c
 obtain ⟨w0,hw0,j⟩ := pf w
 rw [fw hw0]
 refine calls_of_HT2 [.tmp 2] Try.func23 Try.ntmps23 (by decide) Z Z (nb Z) ?_
 intro R hR
 have f_v0 := h0
 replace h0 : R 0 = v0 := hR 0 _ Z
 refine HT.su d j (eB false :: []) ?_ ?_
 exact op (fun Q U W H D=> of_assign Z) <| oz
 intro R w m n p d j
 replace h0 := k1 n h0
 replace f_v0 := f_v0.fr m
 refine HT.su d j (eR v0 :: eI (p0.length : Int) :: eB (decide (1048576 < (p0.length : Int))) :: eB (decide (1048576 < (p0.length : Int))) :: []) ?_ ?_
 exact om h0 <| op (fun Q U W H D=> of_len_sl (aT := #[]) ((f_v0.fr W).eq (D.g 0 Z)) Try.underlying46) <| op (fun Q U W H D=> of_gtr (D.g 0 Z) Z) <| oa <| oz
 intro R w m n p d j
 have h2 := p.r 3 Z
 refine HT.ret ?_
 obtain rfl := si c
 exact ⟨.inr Z, [R 2], ⟨Z, N⟩, h2, j⟩
def M_spec_l1New_L0 (fu : Nat) (p0 : List Int) : Nat → Int → Int → Option Int
 | 0, _, _ => none
 | k + 1, y5, y6 =>
 bd ((decide (y6 < (p0.length : Int))) && (decide (y6 < 4000))) fun x7 =>
 bif x7 then (
 ck (i64B (y5 * 131)) <|
 ck (inR y6 p0.length) <|
 ck (i64B ((y5 * 131) + (IntKind.i64.wrap (gtD p0 y6)))) <|
 ck (i64B (((y5 * 131) + (IntKind.i64.wrap (gtD p0 y6))) + 7)) <|
 ck (i64B (y6 + 1)) <|
 M_spec_l1New_L0 fu p0 k (bitI (fun u v => u &&& v) .i64 (((y5 * 131) + (IntKind.i64.wrap (gtD p0 y6))) + 7) 1073741823) (y6 + 1)
 ) else (
 some y5
 )
def M_spec_l1New (fu : Nat) (p0 : List Int) : Option T_spec_l1Cur :=
 ck (i64B (10101 + (p0.length : Int))) <|
 cl true (M_spec_l1New_L0 fu p0 fu (10101 + (p0.length : Int)) 0) fun s4 =>
 some (p0, 0, s4)
set_option linter.unusedSimpArgs false in
theorem M_spec_l1New_ok {fu : Nat} {A0 : Av} {p0 : List Int} {r : T_spec_l1Cur} (c : M_spec_l1New fu p0 = some r) {w : World} {v0 : Value} (d : AvOK A0 w) (h0 : Rep (eSl (eInt .u8)) A0 w v0 p0) :
 Calls Try.prog 50 #[v0] w fun e w' => ∃ v, e = .returned v ∧ (∃ (c0 : Nat) (A1 : Av), GPost A0 (fun _ => False) w [ob (.pointer (some ⟨c0, 0, none⟩)) (.box w.heap.size 110 E_spec_l1Cur r)] A1 w' ∧ (Fact.raw (.pointer (some ⟨c0, 0, none⟩))).ok v w') := by
 unfold M_spec_l1New at c
 obtain ⟨w0,hw0,j,C⟩ := pw d
 have hA00 : AvOK A0 w0 := C
 rw [show GPost A0 (fun _ => False) w = GPost A0 (fun _ => False) w0 from by rw [hw0]]
 rw [show w.heap.size = w0.heap.size from by rw [hw0]]
 obtain ⟨A,hAe,B,d,q⟩ := pa d
 refine calls_of_HT2 [.tmp 2] Try.func50 Try.ntmps50 (by decide) Z Z (nb Z) ?_
 intro R hR
 have f_v0 : Rep (eSl (eInt .u8)) A w v0 p0 := hAe ▸ h0
 replace h0 : R 0 = v0 := hR 0 _ Z
 refine HT.su d j (eA :: []) ?_ ?_
 exact op (fun Q U W H D=> of_assign N) <| oz
 intro R w m n p d j
 replace h0 := k1 n h0
 replace f_v0 := f_v0.fr m
 replace q := q.fr m
 obtain ⟨e1, c⟩ := ck_some c
 refine HT.su d j (eR v0 :: eI (p0.length : Int) :: eI (10101 + (p0.length : Int)) :: eI (10101 + (p0.length : Int)) :: []) ?_ ?_
 exact om h0 <| op (fun Q U W H D=> of_len_sl (aT := #[]) ((f_v0.fr W).eq (D.g 0 Z)) Try.underlying46) <| op (fun Q U W H D=> of_add Z (D.g 0 Z) e1) <| oa <| oz
 intro R w m n p d j
 replace h0 := k1 n h0
 have h3 := p.r 3 Z
 replace f_v0 := f_v0.fr m
 replace q := q.fr m
 refine HT.seq ?_
 refine HT.su d j (eI 0 :: []) ?_ ?_
 exact op (fun Q U W H D=> of_assign Z) <| oz
 intro R w m n p d j
 obtain ⟨h0, h3⟩ := k2 n h0 h3
 have h4 := p.r 0 Z
 replace f_v0 := f_v0.fr m
 replace q := q.fr m
 obtain ⟨rl2, q3, c⟩ := cl_some c
 replace q3 := q3 Z
 refine HT.cut0 (fun R w => ∃ A : Av, ∃ (s4 : Int), rl2 = s4 ∧ AvOK A w ∧ Fr w0 w ∧ (∀ b o, A0 b o → A b o) ∧ IniOK [] A w ∧ R 0 = v0 ∧ R 3 = .int .i64 s4 ∧ Rep (eSl (eInt .u8)) A w v0 p0) ?_ ?_
 refine HT.block ?_
 refine HT.loop (fun k R w => ∃ A : Av, ∃ (y5 : Int) (y6 : Int), M_spec_l1New_L0 fu p0 k y5 y6 = some rl2 ∧ AvOK A w ∧ Fr w0 w ∧ (∀ b o, A0 b o → A b o) ∧ IniOK [] A w ∧ R 0 = v0 ∧ R 3 = .int .i64 y5 ∧ R 4 = .int .i64 y6 ∧ Rep (eSl (eInt .u8)) A w v0 p0) fu ⟨_, _, _, q3, d, j, B, q, h0, h3, h4, f_v0⟩ ?_
 have hr0 := c; clear c q3
 rintro k R w ⟨A, y5, y6, c, d, j, B, q, h0, h3, h4, f_v0⟩
 rcases k with _ | k
 cases (show none = some _ from c)
 rw [M_spec_l1New_L0] at c
 refine HT.seq ?_
 refine HT.seq ?_
 obtain ⟨x7, q8, c⟩ := bd_some c
 refine HT.u d j (eI y6 :: eR v0 :: eI (p0.length : Int) :: eB (decide (y6 < (p0.length : Int))) :: eB (decide (y6 < (p0.length : Int))) :: gI (true && ((decide (y6 < (p0.length : Int))) == true)) y6 :: gB (true && ((decide (y6 < (p0.length : Int))) == true)) (decide (y6 < 4000)) :: eB x7 :: []) ?_ ?_
 exact om h4 <| om h0 <| op (fun Q U W H D=> of_len_sl (aT := #[]) ((f_v0.fr W).eq (D.g 0 Z)) Try.underlying46) <| op (fun Q U W H D=> of_lss (D.g 0 Z) (D.g 1 Z)) <| ov <| gm 4 true h4 <| og 4 true (fun G Q U W H D=> of_lss (D.h 0 G Z) Z) <| op (fun Q U W H D=> of_pick (decide (y6 < (p0.length : Int))) (D.g 0 Z) (fun hc=> by have a1 : Q 14 = .bool (decide (y6 < 4000)) := D 1 _ _ _ Z Z Z Z (g_and Z (beq_of hc)); show _ = Value.bool x7; rw [q8, hc]; exact a1) (fun hc=> by show _ = Value.bool x7; rw [q8, hc]; exact Z)) <| oz
 intro R w m n p d j
 obtain ⟨h0, h3, h4⟩ := k3 n h0 h3 h4
 have h15 := p.r 7 Z
 replace f_v0 := f_v0.fr m
 replace q := q.fr m
 refine HT.cond x7 h15 (fun c9 => ?_) (fun c9 => ?_)
 have c := cnd_t c9 c
 refine HT.skip ?_
 refine HT.seq ?_
 refine HT.block ?_
 obtain ⟨e10,e11,e12,e13,c⟩ := ck4 c
 refine HT.u d j (eI y5 :: eI (y5 * 131) :: eR v0 :: eI y6 :: eF (.qtr (eInt .u8) A (gtD p0 y6)) :: eU (gtD p0 y6) :: eI (IntKind.i64.wrap (gtD p0 y6)) :: eI ((y5 * 131) + (IntKind.i64.wrap (gtD p0 y6))) :: eI (((y5 * 131) + (IntKind.i64.wrap (gtD p0 y6))) + 7) :: eI (bitI (fun u v => u &&& v) .i64 (((y5 * 131) + (IntKind.i64.wrap (gtD p0 y6))) + 7) 1073741823) :: eI (bitI (fun u v => u &&& v) .i64 (((y5 * 131) + (IntKind.i64.wrap (gtD p0 y6))) + 7) 1073741823) :: []) ?_ ?_
 exact om h3 <| op (fun Q U W H D=> of_mul (D.g 0 Z) Z e10) <| om h0 <| om h4 <| op (fun Q U W H D=> of_indexAddr ((f_v0.fr W).eq (D.g 0 Z)) (D.g 1 Z) Try.underlying46 Try.sizeOf5 e11) <| op (fun Q U W H D=> OpF.int (of_load (QRep.ptr (D.g 0 Z)) Try.isAgg5 Try.sizeOf5)) <| op (fun Q U W H D=> of_conv_int (D.g 0 Z) Try.underlying5 Try.underlying3) <| op (fun Q U W H D=> of_add (D.g 0 Z) (D.g 1 Z) e12) <| op (fun Q U W H D=> of_add (D.g 0 Z) Z e13) <| op (fun Q U W H D=> of_and (D.g 0 Z) Z) <| oa <| oz
 intro R w m n p d j
 obtain ⟨h0, h4⟩ := k2 n h0 h4
 have h3 := p.r 10 Z
 replace f_v0 := f_v0.fr m
 replace q := q.fr m
 obtain ⟨e14, c⟩ := ck_some c
 refine HT.u d j (eI y6 :: eI (y6 + 1) :: eI (y6 + 1) :: []) ?_ ?_
 exact om h4 <| op (fun Q U W H D=> of_add (D.g 0 Z) Z e14) <| oa <| oz
 intro R w m n p d j
 obtain ⟨h0, h3⟩ := k2 n h0 h3
 have h4 := p.r 2 Z
 replace f_v0 := f_v0.fr m
 replace q := q.fr m
 exact ei k (And.intro (Nat.lt_succ_self k) ⟨_, _, _, c, d, j, B, q, h0, h3, h4, f_v0⟩)
 have c := cnd_f c9 c
 refine HT.exit ?_
 obtain rfl := si c
 exact ei _ ⟨_, Z, d, j, B, q, h0, h3, f_v0⟩
 rintro R w ⟨A, s4, es, d, j, B, q, h0, h3, f_v0⟩
 obtain rfl := es.symm
 refine HT.seq ?_
 refine SG.of ?_
 refine SG.textR [] (rR v0 :: rI s4 :: (rF fun A => .rep E_spec_l1Cur A (p0, 0, s4)) :: ⟨_, true, [], some (.box w0.heap.size 110 E_spec_l1Cur (p0, 0, s4)), true, fun A => .any⟩ :: []) 4 Z Z Z (by kernel_rfl) (by kernel_rfl) (Wf.mk' (by kernel_rfl) (ur (ur (up (ua (UAll.nil))))) (by kernel_rfl) (by kernel_rfl)) q d (N) ?_ ?_
 exact rm h0 <| rm h3 <| rp (fun V Q U O D=> by have a1 : Q 29 = .int .i64 s4 := D.g 1 Z; obtain ⟨c15a, c15n, c15c, c15, c15r⟩ := rep_sl_val ((f_v0.stp O.stp).eq (D.g 0 Z)); exact of_build_raw (v := .agg #[.slice c15a c15n c15c, .int .i64 0, .int .i64 s4]) (by simp [execOp, Instr.build, evalR, c15, a1, underlying, Try.underlying110, Try.zeroValue110, Try.sizeOf3, Try.sizeOf46, go_sem, Instr.fill]) ⟨_, Z, rep_pr c15r (rep_pr rep1_int rep1_int)⟩) <| rc (OblR.made _ Z Z Z Z fun V Q U O D=> by have a0 : Rep E_spec_l1Cur V U (Q 30) (p0, 0, s4) := D.g 0 Z; exact made_box a0 (Nat.le_trans j.size O.ch.size)) <| rz
 intro done ρ σ A R w y s
 obtain ⟨b31_15, e_b31_15⟩ := s.boxv y 3 Z Z
 have h31 := s.ov y 3 3 e_b31_15
 obtain ⟨B,j,d⟩ := s.s B C j q N
 replace q := s.left y [(3, ob (.pointer (some ⟨b31_15, 0, none⟩)) (.box w0.heap.size 110 E_spec_l1Cur (p0, 0, s4)))] ⟨Z, Z, e_b31_15, Z, Z, N⟩
 refine SG.textR [ob (.pointer (some ⟨b31_15, 0, none⟩)) (.box w0.heap.size 110 E_spec_l1Cur (p0, 0, s4))] (rA :: rA :: rA :: rR (.pointer (some ⟨b31_15, 0, none⟩)) :: rR (.pointer (some ⟨b31_15, 0, none⟩)) :: []) 5 Z Z Z (by kernel_rfl) (by kernel_rfl) (Wf.mk' (by kernel_rfl) (ua (ua (ua (ur (ur (UAll.nil)))))) (by kernel_rfl) (by kernel_rfl)) q d (⟨⟨Z, Z, Z, N⟩, ⟨⟨Z, Z, Z, N⟩, ⟨⟨Z, Z, Z, N⟩, ⟨⟨Z, Z, Z, h31⟩, N⟩⟩⟩⟩) ?_ ?_
 exact ra <| rz
 intro done ρ σ A R w y s
 have z17 := s.inivR 0 Z
 have h2 := s.r y 4 Z
 obtain ⟨B,j,d⟩ := s.s B C j q ⟨Z, N⟩
 replace q := s.left y [(0, ob (.pointer (some ⟨b31_15, 0, none⟩)) (.box w0.heap.size 110 E_spec_l1Cur (p0, 0, s4)))] ⟨Z, Z, z17, Z, Z, N⟩
 refine SG.fin Z ?_
 refine HT.ret ?_
 obtain rfl := si c
 obtain ⟨A1, hA1, hG1⟩ := GPost.of q d B (fun k hk => .inl (q.ge (⟨Z, N⟩) k hk)) (j.ch (fun _ => False))
 exact ⟨.inr Z, [R 2], ⟨Z, N⟩, b31_15, A1, hG1, h2⟩
def M_spec_l1Byte (fu : Nat) (p0 : T_spec_l1Cur) : Option (Int × T_spec_l1Cur) :=
 ck (decide (0 ≤ 33)) <|
 ck (decide (0 ≤ 45)) <|
 bif (decide ((p0.1, p0.2.1, (IntKind.i64.wrap ((IntKind.i64.wrap (p0.2.2 * 6364136223846793005)) + 1442695040888963407))).2.1 < ((p0.1, p0.2.1, (IntKind.i64.wrap ((IntKind.i64.wrap (p0.2.2 * 6364136223846793005)) + 1442695040888963407))).1.length : Int))) then (
 ck (inR (p0.1, p0.2.1, (IntKind.i64.wrap ((IntKind.i64.wrap (p0.2.2 * 6364136223846793005)) + 1442695040888963407))).2.1 (p0.1, p0.2.1, (IntKind.i64.wrap ((IntKind.i64.wrap (p0.2.2 * 6364136223846793005)) + 1442695040888963407))).1.length) <|
 some ((bitI (fun u v => u &&& v) .i64 (IntKind.i64.wrap ((bitI (fun u v => u &&& v) .i64 (bitI (fun u v => u ^^^ v) .i64 ((p0.1, p0.2.1, (IntKind.i64.wrap ((IntKind.i64.wrap (p0.2.2 * 6364136223846793005)) + 1442695040888963407))).2.2 / 2 ^ min (33 : Int).toNat 64) ((p0.1, p0.2.1, (IntKind.i64.wrap ((IntKind.i64.wrap (p0.2.2 * 6364136223846793005)) + 1442695040888963407))).2.2 / 2 ^ min (45 : Int).toNat 64)) 255) + (IntKind.i64.wrap (gtD (p0.1, p0.2.1, (IntKind.i64.wrap ((IntKind.i64.wrap (p0.2.2 * 6364136223846793005)) + 1442695040888963407))).1 (p0.1, p0.2.1, (IntKind.i64.wrap ((IntKind.i64.wrap (p0.2.2 * 6364136223846793005)) + 1442695040888963407))).2.1)))) 255), ((p0.1, p0.2.1, (IntKind.i64.wrap ((IntKind.i64.wrap (p0.2.2 * 6364136223846793005)) + 1442695040888963407))).1, (IntKind.i64.wrap ((p0.1, p0.2.1, (IntKind.i64.wrap ((IntKind.i64.wrap (p0.2.2 * 6364136223846793005)) + 1442695040888963407))).2.1 + 1)), (p0.1, p0.2.1, (IntKind.i64.wrap ((IntKind.i64.wrap (p0.2.2 * 6364136223846793005)) + 1442695040888963407))).2.2))
 ) else (
 some ((bitI (fun u v => u &&& v) .i64 (bitI (fun u v => u ^^^ v) .i64 ((p0.1, p0.2.1, (IntKind.i64.wrap ((IntKind.i64.wrap (p0.2.2 * 6364136223846793005)) + 1442695040888963407))).2.2 / 2 ^ min (33 : Int).toNat 64) ((p0.1, p0.2.1, (IntKind.i64.wrap ((IntKind.i64.wrap (p0.2.2 * 6364136223846793005)) + 1442695040888963407))).2.2 / 2 ^ min (45 : Int).toNat 64)) 255), (p0.1, p0.2.1, (IntKind.i64.wrap ((IntKind.i64.wrap (p0.2.2 * 6364136223846793005)) + 1442695040888963407))))
 )
theorem M_spec_l1Byte_ok {fu : Nat} {Aq : Av} {p0 : T_spec_l1Cur} {r : Int × T_spec_l1Cur} (c : M_spec_l1Byte fu p0 = some r) {w : World} {v0 : Value} {b0 B0 : Nat} (d : AvOK Aq w) (h0 : v0 = .pointer (some ⟨b0, 0, none⟩)) (hO0 : IniOK [ob (.pointer (some ⟨b0, 0, none⟩)) (.box B0 110 E_spec_l1Cur p0)] Aq w) :
 Calls Try.prog 88 #[v0] w fun e w' => ∃ v, e = .returned v ∧ (∃ (A1 : Av), GPost (subS Aq (ownsB (.pointer (some ⟨b0, 0, none⟩)))) (ownsB (.pointer (some ⟨b0, 0, none⟩))) w [ob (.pointer (some ⟨b0, 0, none⟩)) (.box B0 110 E_spec_l1Cur r.2)] A1 w' ∧ (Fact.raw (.int .i64 r.1)).ok v w') := by
 unfold M_spec_l1Byte at c
 obtain ⟨w0, hw0⟩ : ∃ w0, w0 = w := ⟨_, Z⟩
 have j : Ch (ownsB (.pointer (some ⟨b0, 0, none⟩))) w0 w := hw0 ▸ Ch.refl _ _
 obtain ⟨A0, hA0e⟩ : ∃ A0, A0 = subS Aq (ownsB (.pointer (some ⟨b0, 0, none⟩))) := ⟨_, Z⟩
 have C : ∀ b o, A0 b o → b < w0.heap.size := fun b o h => hw0 ▸ d b o (hA0e ▸ h : subS Aq _ b o).1
 have K : ∀ b o, A0 b o → ¬ (ownsB (.pointer (some ⟨b0, 0, none⟩))) b := fun b o h => (hA0e ▸ h : subS Aq _ b o).2
 have hA00 : AvOK A0 w0 := C
 rw [show GPost (subS Aq (ownsB (.pointer (some ⟨b0, 0, none⟩)))) (ownsB (.pointer (some ⟨b0, 0, none⟩))) w = GPost A0 (ownsB (.pointer (some ⟨b0, 0, none⟩))) w0 from by rw [hA0e, hw0]]
 obtain ⟨A, hAe⟩ : ∃ A, A = Aq := ⟨_, Z⟩
 have B : ∀ b o, A0 b o → A b o := fun b o h => hAe ▸ (hA0e ▸ h : subS Aq _ b o).1
 replace d : AvOK A w := hAe ▸ d
 have q : IniOK [ob (.pointer (some ⟨b0, 0, none⟩)) (.box B0 110 E_spec_l1Cur p0)] A w := hAe ▸ hO0
 clear hA0e hO0
 refine calls_of_HT2 [.tmp 2] Try.func88 Try.ntmps88 (by decide) Z Z (nb Z) ?_
 intro R hR
 replace h0 : R 0 = .pointer (some ⟨b0, 0, none⟩) := (hR 0 _ Z).trans h0
 refine HT.seq ?_
 refine HT.t (eI 0 :: []) ?_ ?_
 exact op (fun Q U W H D=> of_assign Z) <| oz
 intro R w m n p
 replace h0 := k1 n h0
 replace q := q.fr m
 replace d := d.fr m.size
 replace j := j.tr (m.ch noB) fun _ h => False.elim h
 refine HT.sx [ob (.pointer (some ⟨b0, 0, none⟩)) (.box B0 110 E_spec_l1Cur p0)] (rR (.pointer (some ⟨b0, 0, none⟩)) :: rR (.pointer (some ⟨b0, 0, none⟩)) :: rR (.pointer (some ⟨b0, 0, none⟩)) :: rR (.pointer (some ⟨b0, 2, none⟩)) :: rI p0.2.2 :: rI (IntKind.i64.wrap (p0.2.2 * 6364136223846793005)) :: rI (IntKind.i64.wrap ((IntKind.i64.wrap (p0.2.2 * 6364136223846793005)) + 1442695040888963407)) :: rR (.pointer (some ⟨b0, 0, none⟩)) :: rR (.pointer (some ⟨b0, 2, none⟩)) :: ⟨_, true, [0], some (.box B0 110 E_spec_l1Cur (p0.1, p0.2.1, (IntKind.i64.wrap ((IntKind.i64.wrap (p0.2.2 * 6364136223846793005)) + 1442695040888963407)))), false, fun A => .any⟩ :: []) (ur (ur (ur (ur (ur (ur (ur (ur (ur (ua (UAll.nil))))))))))) q d ?_ ?_
 exact rm h0 <| rm h0 <| rp (fun V Q U O D=> of_nilCheck (D.g 0 Z)) <| rp (fun V Q U O D=> of_fieldAddr_raw (D.g 0 Z) ff_110_2 Try.sizeOf3 (by decide) Z) <| rp (fun V Q U O D=> OpF.int (of_load_box (O.rd 0 _ Z Z) (D.g 0 Z) fl_spec_l1Cur_2 Z Try.isAgg3 Try.sizeOf3)) <| rp (fun V Q U O D=> of_mul_w (D.g 0 Z) Z) <| rp (fun V Q U O D=> of_add_w (D.g 0 Z) Z) <| rp (fun V Q U O D=> of_nilCheck (D.g 0 Z)) <| rp (fun V Q U O D=> of_fieldAddr_raw (D.g 0 Z) ff_110_2 Try.sizeOf3 (by decide) Z) <| rc (OblR.took 0 _ _ Z Z Z Z Z fun V Q U O D u X Y J L M=> by have a0 : Q 12 = (.pointer (some ⟨b0, 2, none⟩)) := D.g 0 Z; have a1 : Q 10 = .int .i64 (IntKind.i64.wrap ((IntKind.i64.wrap (p0.2.2 * 6364136223846793005)) + 1442695040888963407)) := D.g 1 Z; exact took_store (rep_int.eq a1) a0 (J _ Z) X Y fs_spec_l1Cur_2 Try.sizeOf3 Z) <| rz
 intro done ρ σ A R w y s
 replace h0 := k1 s.rg h0
 have z1 := s.inivR 0 Z
 have z2 := s.on y 10 9 Z Z Z Z Z z1
 replace B := s.lowK B C K (q.geK (⟨.inr (fun k h => .inr h), N⟩))
 replace j : Ch (ownsB (.pointer (some ⟨b0, 0, none⟩))) w0 w := j.tr s.ch (q.geK (⟨.inr (fun k h => .inr h), N⟩))
 replace q := s.left y [(10, ob (.pointer (some ⟨b0, 0, none⟩)) (.box B0 110 E_spec_l1Cur (p0.1, p0.2.1, (IntKind.i64.wrap ((IntKind.i64.wrap (p0.2.2 * 6364136223846793005)) + 1442695040888963407)))))] ⟨Z, Z, z2, Z, Z, N⟩
 replace d := s.avok
 obtain ⟨Yg2, g_Yg2⟩ : ∃ z : T_spec_l1Cur, z = (p0.1, p0.2.1, (IntKind.i64.wrap ((IntKind.i64.wrap (p0.2.2 * 6364136223846793005)) + 1442695040888963407))) := ⟨_, Z⟩
 rw [← g_Yg2] at q
 try rw [← g_Yg2] at c
 refine HT.seq ?_
 obtain ⟨e4,e5,c⟩ := ck2 c
 refine HT.draw (by kernel_rfl) (l := eR (.pointer (some ⟨b0, 0, none⟩)) :: eR (.pointer (some ⟨b0, 0, none⟩)) :: eR (.pointer (some ⟨b0, 2, none⟩)) :: eI Yg2.2.2 :: eI (Yg2.2.2 / 2 ^ min (33 : Int).toNat 64) :: eR (.pointer (some ⟨b0, 0, none⟩)) :: eR (.pointer (some ⟨b0, 0, none⟩)) :: eR (.pointer (some ⟨b0, 2, none⟩)) :: eI Yg2.2.2 :: eI (Yg2.2.2 / 2 ^ min (45 : Int).toNat 64) :: eI (bitI (fun u v => u ^^^ v) .i64 (Yg2.2.2 / 2 ^ min (33 : Int).toNat 64) (Yg2.2.2 / 2 ^ min (45 : Int).toNat 64)) :: eI (bitI (fun u v => u &&& v) .i64 (bitI (fun u v => u ^^^ v) .i64 (Yg2.2.2 / 2 ^ min (33 : Int).toNat 64) (Yg2.2.2 / 2 ^ min (45 : Int).toNat 64)) 255) :: eI (bitI (fun u v => u &&& v) .i64 (bitI (fun u v => u ^^^ v) .i64 (Yg2.2.2 / 2 ^ min (33 : Int).toNat 64) (Yg2.2.2 / 2 ^ min (45 : Int).toNat 64)) 255) :: []) (tl := []) (by kernel_rfl) (by kernel_rfl) (by kernel_rfl) (by kernel_rfl) ?_ ?_
 exact om h0 <| op (fun Q U W H D=> of_nilCheck (D.g 0 Z)) <| op (fun Q U W H D=> of_fieldAddr_raw (D.g 0 Z) ff_110_2 Try.sizeOf3 (by decide) Z) <| op (fun Q U W H D=> OpF.int (of_load_box ((q.fr W).ok 0 _ Z).1 (D.g 0 Z) fl_spec_l1Cur_2 Z Try.isAgg3 Try.sizeOf3)) <| op (fun Q U W H D=> of_shr (D.g 0 Z) Z e4) <| om h0 <| op (fun Q U W H D=> of_nilCheck (D.g 0 Z)) <| op (fun Q U W H D=> of_fieldAddr_raw (D.g 0 Z) ff_110_2 Try.sizeOf3 (by decide) Z) <| op (fun Q U W H D=> OpF.int (of_load_box ((q.fr W).ok 0 _ Z).1 (D.g 0 Z) fl_spec_l1Cur_2 Z Try.isAgg3 Try.sizeOf3)) <| op (fun Q U W H D=> of_shr (D.g 0 Z) Z e5) <| op (fun Q U W H D=> of_xor (D.g 0 Z) (D.g 1 Z)) <| op (fun Q U W H D=> of_and (D.g 0 Z) Z) <| oa <| oz
 intro R w m n p
 replace h0 := k1 n h0
 have h3 := p.r 12 Z
 replace q := q.fr m
 replace d := d.fr m.size
 replace j := j.tr (m.ch noB) fun _ h => False.elim h
 refine HT.seq ?_
 refine HT.seq ?_
 refine HT.draw (by kernel_rfl) (l := eR (.pointer (some ⟨b0, 0, none⟩)) :: eR (.pointer (some ⟨b0, 0, none⟩)) :: eR (.pointer (some ⟨b0, 1, none⟩)) :: eI Yg2.2.1 :: eR (.pointer (some ⟨b0, 0, none⟩)) :: eR (.pointer (some ⟨b0, 0, none⟩)) :: eR (.pointer (some ⟨b0, 0, none⟩)) :: eF (.rep (eSl (eInt .u8)) A Yg2.1) :: eI (Yg2.1.length : Int) :: eB (decide (Yg2.2.1 < (Yg2.1.length : Int))) :: []) (tl := []) (by kernel_rfl) (by kernel_rfl) (by kernel_rfl) (by kernel_rfl) ?_ ?_
 exact om h0 <| op (fun Q U W H D=> of_nilCheck (D.g 0 Z)) <| op (fun Q U W H D=> of_fieldAddr_raw (D.g 0 Z) ff_110_1 Try.sizeOf3 (by decide) Z) <| op (fun Q U W H D=> OpF.int (of_load_box ((q.fr W).ok 0 _ Z).1 (D.g 0 Z) fl_spec_l1Cur_1 Z Try.isAgg3 Try.sizeOf3)) <| om h0 <| op (fun Q U W H D=> of_nilCheck (D.g 0 Z)) <| op (fun Q U W H D=> of_fieldAddr_raw (D.g 0 Z) ff_110_0 Try.sizeOf46 (by decide) Z) <| op (fun Q U W H D=> (of_load_box ((q.fr W).ok 0 _ Z).1 (D.g 0 Z) fl_spec_l1Cur_0 Z Try.isAgg46 Try.sizeOf46)) <| op (fun Q U W H D=> of_len_sl (aT := #[]) (D.g 0 Z) Try.underlying46) <| op (fun Q U W H D=> of_lss (D.g 0 Z) (D.g 1 Z)) <| oz
 intro R w m n p
 obtain ⟨h0, h3⟩ := k2 n h0 h3
 have h34 := p.r 9 Z
 replace q := q.fr m
 replace d := d.fr m.size
 replace j := j.tr (m.ch noB) fun _ h => False.elim h
 refine HT.cond (decide (Yg2.2.1 < (Yg2.1.length : Int))) h34 (fun c6 => ?_) (fun c6 => ?_)
 have c := cnd_t c6 c
 refine HT.seq ?_
 obtain ⟨e7, c⟩ := ck_some c
 refine HT.draw (by kernel_rfl) (l := eI (bitI (fun u v => u &&& v) .i64 (bitI (fun u v => u ^^^ v) .i64 (Yg2.2.2 / 2 ^ min (33 : Int).toNat 64) (Yg2.2.2 / 2 ^ min (45 : Int).toNat 64)) 255) :: eR (.pointer (some ⟨b0, 0, none⟩)) :: eR (.pointer (some ⟨b0, 0, none⟩)) :: eR (.pointer (some ⟨b0, 0, none⟩)) :: eF (.rep (eSl (eInt .u8)) A Yg2.1) :: eR (.pointer (some ⟨b0, 0, none⟩)) :: eR (.pointer (some ⟨b0, 0, none⟩)) :: eR (.pointer (some ⟨b0, 1, none⟩)) :: eI Yg2.2.1 :: eF (.qtr (eInt .u8) A (gtD Yg2.1 Yg2.2.1)) :: eU (gtD Yg2.1 Yg2.2.1) :: eI (IntKind.i64.wrap (gtD Yg2.1 Yg2.2.1)) :: eI (IntKind.i64.wrap ((bitI (fun u v => u &&& v) .i64 (bitI (fun u v => u ^^^ v) .i64 (Yg2.2.2 / 2 ^ min (33 : Int).toNat 64) (Yg2.2.2 / 2 ^ min (45 : Int).toNat 64)) 255) + (IntKind.i64.wrap (gtD Yg2.1 Yg2.2.1)))) :: eI (bitI (fun u v => u &&& v) .i64 (IntKind.i64.wrap ((bitI (fun u v => u &&& v) .i64 (bitI (fun u v => u ^^^ v) .i64 (Yg2.2.2 / 2 ^ min (33 : Int).toNat 64) (Yg2.2.2 / 2 ^ min (45 : Int).toNat 64)) 255) + (IntKind.i64.wrap (gtD Yg2.1 Yg2.2.1)))) 255) :: eI (bitI (fun u v => u &&& v) .i64 (IntKind.i64.wrap ((bitI (fun u v => u &&& v) .i64 (bitI (fun u v => u ^^^ v) .i64 (Yg2.2.2 / 2 ^ min (33 : Int).toNat 64) (Yg2.2.2 / 2 ^ min (45 : Int).toNat 64)) 255) + (IntKind.i64.wrap (gtD Yg2.1 Yg2.2.1)))) 255) :: []) (tl := []) (by kernel_rfl) (by kernel_rfl) (by kernel_rfl) (by kernel_rfl) ?_ ?_
 exact om h3 <| om h0 <| op (fun Q U W H D=> of_nilCheck (D.g 0 Z)) <| op (fun Q U W H D=> of_fieldAddr_raw (D.g 0 Z) ff_110_0 Try.sizeOf46 (by decide) Z) <| op (fun Q U W H D=> (of_load_box ((q.fr W).ok 0 _ Z).1 (D.g 0 Z) fl_spec_l1Cur_0 Z Try.isAgg46 Try.sizeOf46)) <| om h0 <| op (fun Q U W H D=> of_nilCheck (D.g 0 Z)) <| op (fun Q U W H D=> of_fieldAddr_raw (D.g 0 Z) ff_110_1 Try.sizeOf3 (by decide) Z) <| op (fun Q U W H D=> OpF.int (of_load_box ((q.fr W).ok 0 _ Z).1 (D.g 0 Z) fl_spec_l1Cur_1 Z Try.isAgg3 Try.sizeOf3)) <| op (fun Q U W H D=> of_indexAddr (D.g 0 Z) (D.g 1 Z) Try.underlying46 Try.sizeOf5 e7) <| op (fun Q U W H D=> OpF.int (of_load (QRep.ptr (D.g 0 Z)) Try.isAgg5 Try.sizeOf5)) <| op (fun Q U W H D=> of_conv_int (D.g 0 Z) Try.underlying5 Try.underlying3) <| op (fun Q U W H D=> of_add_w (D.g 0 Z) (D.g 1 Z)) <| op (fun Q U W H D=> of_and (D.g 0 Z) Z) <| oa <| oz
 intro R w m n p
 replace h0 := k1 n h0
 have h3 := p.r 14 Z
 replace q := q.fr m
 replace d := d.fr m.size
 replace j := j.tr (m.ch noB) fun _ h => False.elim h
 refine HT.x [ob (.pointer (some ⟨b0, 0, none⟩)) (.box B0 110 E_spec_l1Cur Yg2)] (rR (.pointer (some ⟨b0, 0, none⟩)) :: rR (.pointer (some ⟨b0, 0, none⟩)) :: rR (.pointer (some ⟨b0, 0, none⟩)) :: rR (.pointer (some ⟨b0, 1, none⟩)) :: rI Yg2.2.1 :: rI (IntKind.i64.wrap (Yg2.2.1 + 1)) :: rR (.pointer (some ⟨b0, 0, none⟩)) :: rR (.pointer (some ⟨b0, 1, none⟩)) :: ⟨_, true, [0], some (.box B0 110 E_spec_l1Cur (Yg2.1, (IntKind.i64.wrap (Yg2.2.1 + 1)), Yg2.2.2)), false, fun A => .any⟩ :: []) (ur (ur (ur (ur (ur (ur (ur (ur (ua (UAll.nil)))))))))) q d ?_ ?_
 exact rm h0 <| rm h0 <| rp (fun V Q U O D=> of_nilCheck (D.g 0 Z)) <| rp (fun V Q U O D=> of_fieldAddr_raw (D.g 0 Z) ff_110_1 Try.sizeOf3 (by decide) Z) <| rp (fun V Q U O D=> OpF.int (of_load_box (O.rd 0 _ Z Z) (D.g 0 Z) fl_spec_l1Cur_1 Z Try.isAgg3 Try.sizeOf3)) <| rp (fun V Q U O D=> of_add_w (D.g 0 Z) Z) <| rp (fun V Q U O D=> of_nilCheck (D.g 0 Z)) <| rp (fun V Q U O D=> of_fieldAddr_raw (D.g 0 Z) ff_110_1 Try.sizeOf3 (by decide) Z) <| rc (OblR.took 0 _ _ Z Z Z Z Z fun V Q U O D u X Y J L M=> by have a0 : Q 56 = (.pointer (some ⟨b0, 1, none⟩)) := D.g 0 Z; have a1 : Q 54 = .int .i64 (IntKind.i64.wrap (Yg2.2.1 + 1)) := D.g 1 Z; exact took_store (rep_int.eq a1) a0 (J _ Z) X Y fs_spec_l1Cur_1 Try.sizeOf3 Z) <| rz
 intro done ρ σ A R w y s
 replace h3 := k1 s.rg h3
 have z8 := s.inivR 0 Z
 have z9 := s.on y 9 8 Z Z Z Z Z z8
 replace B := s.lowK B C K (q.geK (⟨.inr (fun k h => .inr h), N⟩))
 replace j : Ch (ownsB (.pointer (some ⟨b0, 0, none⟩))) w0 w := j.tr s.ch (q.geK (⟨.inr (fun k h => .inr h), N⟩))
 replace q := s.left y [(9, ob (.pointer (some ⟨b0, 0, none⟩)) (.box B0 110 E_spec_l1Cur (Yg2.1, (IntKind.i64.wrap (Yg2.2.1 + 1)), Yg2.2.2)))] ⟨Z, Z, z9, Z, Z, N⟩
 replace d := s.avok
 refine HT.seq ?_
 refine HT.t (eI (bitI (fun u v => u &&& v) .i64 (IntKind.i64.wrap ((bitI (fun u v => u &&& v) .i64 (bitI (fun u v => u ^^^ v) .i64 (Yg2.2.2 / 2 ^ min (33 : Int).toNat 64) (Yg2.2.2 / 2 ^ min (45 : Int).toNat 64)) 255) + (IntKind.i64.wrap (gtD Yg2.1 Yg2.2.1)))) 255) :: eI (bitI (fun u v => u &&& v) .i64 (IntKind.i64.wrap ((bitI (fun u v => u &&& v) .i64 (bitI (fun u v => u ^^^ v) .i64 (Yg2.2.2 / 2 ^ min (33 : Int).toNat 64) (Yg2.2.2 / 2 ^ min (45 : Int).toNat 64)) 255) + (IntKind.i64.wrap (gtD Yg2.1 Yg2.2.1)))) 255) :: []) ?_ ?_
 exact om h3 <| oa <| oz
 intro R w m n p
 have h2 := p.r 1 Z
 replace q := q.fr m
 replace d := d.fr m.size
 replace j := j.tr (m.ch noB) fun _ h => False.elim h
 refine HT.ret ?_
 obtain rfl := si c
 obtain ⟨A1, hA1, hG1⟩ := GPost.of q d B (q.geK (⟨.inr (fun k h => .inr h), N⟩)) j
 exact ⟨.inr Z, [R 2], ⟨Z, N⟩, A1, hG1, h2⟩
 have c := cnd_f c6 c
 refine HT.skip ?_
 refine HT.seq ?_
 refine HT.t (eI (bitI (fun u v => u &&& v) .i64 (bitI (fun u v => u ^^^ v) .i64 (Yg2.2.2 / 2 ^ min (33 : Int).toNat 64) (Yg2.2.2 / 2 ^ min (45 : Int).toNat 64)) 255) :: eI (bitI (fun u v => u &&& v) .i64 (bitI (fun u v => u ^^^ v) .i64 (Yg2.2.2 / 2 ^ min (33 : Int).toNat 64) (Yg2.2.2 / 2 ^ min (45 : Int).toNat 64)) 255) :: []) ?_ ?_
 exact om h3 <| oa <| oz
 intro R w m n p
 have h2 := p.r 1 Z
 replace q := q.fr m
 replace d := d.fr m.size
 replace j := j.tr (m.ch noB) fun _ h => False.elim h
 refine HT.ret ?_
 obtain rfl := si c
 obtain ⟨A1, hA1, hG1⟩ := GPost.of q d B (q.geK (⟨.inr (fun k h => .inr h), N⟩)) j
 exact ⟨.inr Z, [R 2], ⟨Z, N⟩, A1, hG1, h2⟩
def M_spec_l1Below (fu : Nat) (p0 : T_spec_l1Cur) (p1 : Int) : Option (Int × T_spec_l1Cur) :=
 bif (decide (p1 ≤ 0)) then (
 some (0, p0)
 ) else (
 bif (decide (p1 ≤ 256)) then (
 cl true (M_spec_l1Byte fu p0) fun x4 =>
 ck (p1 != 0) <|
 some ((x4.1.tmod p1), x4.2)
 ) else (
 cl true (M_spec_l1Byte fu p0) fun x9 =>
 cl true (M_spec_l1Byte fu x9.2) fun x13 =>
 cl true (M_spec_l1Byte fu x13.2) fun x17 =>
 cl true (M_spec_l1Byte fu x17.2) fun x21 =>
 ck (i64B (x9.1 * 16777216)) <|
 ck (i64B (x13.1 * 65536)) <|
 ck (i64B ((x9.1 * 16777216) + (x13.1 * 65536))) <|
 ck (i64B (x17.1 * 256)) <|
 ck (i64B (((x9.1 * 16777216) + (x13.1 * 65536)) + (x17.1 * 256))) <|
 ck (i64B ((((x9.1 * 16777216) + (x13.1 * 65536)) + (x17.1 * 256)) + x21.1)) <|
 ck (p1 != 0) <|
 some ((((((x9.1 * 16777216) + (x13.1 * 65536)) + (x17.1 * 256)) + x21.1).tmod p1), x21.2)
 )
 )
theorem M_spec_l1Below_ok {fu : Nat} {Aq : Av} {p0 : T_spec_l1Cur} {p1 : Int} {r : Int × T_spec_l1Cur} (c : M_spec_l1Below fu p0 p1 = some r) {w : World} {v0 : Value} {v1 : Value} {b0 B0 : Nat} (d : AvOK Aq w) (h0 : v0 = .pointer (some ⟨b0, 0, none⟩)) (hO0 : IniOK [ob (.pointer (some ⟨b0, 0, none⟩)) (.box B0 110 E_spec_l1Cur p0)] Aq w) (h1 : v1 = .int .i64 p1) :
 Calls Try.prog 55 #[v0, v1] w fun e w' => ∃ v, e = .returned v ∧ (∃ (A1 : Av), GPost (subS Aq (ownsB (.pointer (some ⟨b0, 0, none⟩)))) (ownsB (.pointer (some ⟨b0, 0, none⟩))) w [ob (.pointer (some ⟨b0, 0, none⟩)) (.box B0 110 E_spec_l1Cur r.2)] A1 w' ∧ (Fact.raw (.int .i64 r.1)).ok v w') := by
 unfold M_spec_l1Below at c
 obtain ⟨w0, hw0⟩ : ∃ w0, w0 = w := ⟨_, Z⟩
 have j : Ch (ownsB (.pointer (some ⟨b0, 0, none⟩))) w0 w := hw0 ▸ Ch.refl _ _
 obtain ⟨A0, hA0e⟩ : ∃ A0, A0 = subS Aq (ownsB (.pointer (some ⟨b0, 0, none⟩))) := ⟨_, Z⟩
 have C : ∀ b o, A0 b o → b < w0.heap.size := fun b o h => hw0 ▸ d b o (hA0e ▸ h : subS Aq _ b o).1
 have K : ∀ b o, A0 b o → ¬ (ownsB (.pointer (some ⟨b0, 0, none⟩))) b := fun b o h => (hA0e ▸ h : subS Aq _ b o).2
 have hA00 : AvOK A0 w0 := C
 rw [show GPost (subS Aq (ownsB (.pointer (some ⟨b0, 0, none⟩)))) (ownsB (.pointer (some ⟨b0, 0, none⟩))) w = GPost A0 (ownsB (.pointer (some ⟨b0, 0, none⟩))) w0 from by rw [hA0e, hw0]]
 obtain ⟨A, hAe⟩ : ∃ A, A = Aq := ⟨_, Z⟩
 have B : ∀ b o, A0 b o → A b o := fun b o h => hAe ▸ (hA0e ▸ h : subS Aq _ b o).1
 replace d : AvOK A w := hAe ▸ d
 have q : IniOK [ob (.pointer (some ⟨b0, 0, none⟩)) (.box B0 110 E_spec_l1Cur p0)] A w := hAe ▸ hO0
 clear hA0e hO0
 refine calls_of_HT2 [.tmp 4] Try.func55 Try.ntmps55 (by decide) Z Z (nb Z) ?_
 intro R hR
 replace h0 : R 0 = .pointer (some ⟨b0, 0, none⟩) := (hR 0 _ Z).trans h0
 replace h1 : R 1 = .int .i64 p1 := (hR 1 _ Z).trans h1
 refine HT.seq ?_
 refine HT.t (eI 0 :: []) ?_ ?_
 exact op (fun Q U W H D=> of_assign Z) <| oz
 intro R w m n p
 obtain ⟨h0, h1⟩ := k2 n h0 h1
 replace q := q.fr m
 replace d := d.fr m.size
 replace j := j.tr (m.ch noB) fun _ h => False.elim h
 refine HT.seq ?_
 refine HT.seq ?_
 refine HT.t (eI p1 :: eB (decide (p1 ≤ 0)) :: []) ?_ ?_
 exact om h1 <| op (fun Q U W H D=> of_leq (D.g 0 Z) Z) <| oz
 intro R w m n p
 obtain ⟨h0, h1⟩ := k2 n h0 h1
 have h10 := p.r 1 Z
 replace q := q.fr m
 replace d := d.fr m.size
 replace j := j.tr (m.ch noB) fun _ h => False.elim h
 refine HT.cond (decide (p1 ≤ 0)) h10 (fun c1 => ?_) (fun c1 => ?_)
 have c := cnd_t c1 c
 refine HT.seq ?_
 refine HT.t (eI 0 :: []) ?_ ?_
 exact op (fun Q U W H D=> of_assign Z) <| oz
 intro R w m n p
 have h4 := p.r 0 Z
 replace q := q.fr m
 replace d := d.fr m.size
 replace j := j.tr (m.ch noB) fun _ h => False.elim h
 refine HT.ret ?_
 obtain rfl := si c
 obtain ⟨A1, hA1, hG1⟩ := GPost.of q d B (q.geK (⟨.inr (fun k h => .inr h), N⟩)) j
 exact ⟨.inr Z, [R 4], ⟨Z, N⟩, A1, hG1, h4⟩
 have c := cnd_f c1 c
 refine HT.skip ?_
 refine HT.seq ?_
 refine HT.seq ?_
 refine HT.t (eI p1 :: eB (decide (p1 ≤ 256)) :: []) ?_ ?_
 exact om h1 <| op (fun Q U W H D=> of_leq (D.g 0 Z) Z) <| oz
 intro R w m n p
 obtain ⟨h0, h1⟩ := k2 n h0 h1
 have h12 := p.r 1 Z
 replace q := q.fr m
 replace d := d.fr m.size
 replace j := j.tr (m.ch noB) fun _ h => False.elim h
 refine HT.cond (decide (p1 ≤ 256)) h12 (fun c2 => ?_) (fun c2 => ?_)
 have c := cnd_t c2 c
 refine HT.seq ?_
 refine SG.of ?_
 refine SG.textR [ob (.pointer (some ⟨b0, 0, none⟩)) (.box B0 110 E_spec_l1Cur p0)] (rR (.pointer (some ⟨b0, 0, none⟩)) :: []) 1 Z Z Z (by kernel_rfl) (by kernel_rfl) (Wf.mk' (by kernel_rfl) (ur (UAll.nil)) (by kernel_rfl) (by kernel_rfl)) q d (N) ?_ ?_
 exact rm h0 <| rz
 intro done ρ σ A R w y s
 replace h1 := k1 s.rg h1
 have z3 := s.inivR 0 Z
 have h13 := s.r y 0 Z
 replace B := s.lowK B C K (q.geK (⟨.inr (fun k h => .inr h), N⟩))
 replace j : Ch (ownsB (.pointer (some ⟨b0, 0, none⟩))) w0 w := j.tr s.ch (q.geK (⟨.inr (fun k h => .inr h), N⟩))
 replace q := s.left y [(0, ob (.pointer (some ⟨b0, 0, none⟩)) (.box B0 110 E_spec_l1Cur p0))] ⟨Z, Z, z3, Z, Z, N⟩
 replace d := s.avok
 obtain ⟨x4, q5, c⟩ := cl_some c
 have hFz : w0.heap.size ≤ w.heap.size := j.size
 refine SG.op 14 Z Z Z Z (call_run Try.call88 (M_spec_l1Byte_ok (q5 Z) d h13 (q.sub [(0, ob (.pointer (some ⟨b0, 0, none⟩)) (.box B0 110 E_spec_l1Cur p0))] ⟨Z, Z, N⟩))) ?_
 rintro v_ w ⟨A, hG1, hv⟩ R n hd
 have hst := stp_call d hG1 (q.ok 0 _ Z).2
 replace B : ∀ b o, A0 b o → A b o := low_callK B C K (q.geK (⟨.inr (fun k h => .inr h), N⟩)) 0 Z hG1
 replace j : Ch (ownsB (.pointer (some ⟨b0, 0, none⟩))) w0 w := j.tr hG1.ch (fun k hk => (q.geK (⟨.inr (fun k h => .inr h), N⟩)) k ⟨0, _, Z, hk⟩)
 replace q := GPost.next q d 0 Z hG1
 replace d := hG1.avok
 replace q : IniOK [ob (.pointer (some ⟨b0, 0, none⟩)) (.box B0 110 E_spec_l1Cur x4.2)] A w := q
 replace h1 := (n 1 Z).trans h1
 replace h13 := (n 13 Z).trans h13
 have h14 : R 14 = .int .i64 x4.1 := hd.trans hv
 clear hFz hG1 hv n hd
 obtain ⟨e6, c⟩ := ck_some c
 refine SG.textR [ob (.pointer (some ⟨b0, 0, none⟩)) (.box B0 110 E_spec_l1Cur x4.2)] (rR (.pointer (some ⟨b0, 0, none⟩)) :: rI x4.1 :: rI p1 :: rI (x4.1.tmod p1) :: rI (x4.1.tmod p1) :: []) 5 Z Z Z (by kernel_rfl) (by kernel_rfl) (Wf.mk' (by kernel_rfl) (ur (ur (ur (ur (ur (UAll.nil)))))) (by kernel_rfl) (by kernel_rfl)) q d (⟨⟨Z, Z, Z, h13⟩, ⟨⟨Z, Z, Z, h14⟩, N⟩⟩) ?_ ?_
 exact rm h1 <| rp (fun V Q U O D=> of_rem (D.g 0 Z) (D.g 1 Z) e6) <| ra <| rz
 intro done ρ σ A R w y s
 have z7 := s.inivR 0 Z
 have h4 := s.r y 4 Z
 replace B := s.lowK B C K (q.geK (⟨.inr (fun k h => .inr h), N⟩))
 replace j : Ch (ownsB (.pointer (some ⟨b0, 0, none⟩))) w0 w := j.tr s.ch (q.geK (⟨.inr (fun k h => .inr h), N⟩))
 replace q := s.left y [(0, ob (.pointer (some ⟨b0, 0, none⟩)) (.box B0 110 E_spec_l1Cur x4.2))] ⟨Z, Z, z7, Z, Z, N⟩
 replace d := s.avok
 refine SG.fin Z ?_
 refine HT.ret ?_
 obtain rfl := si c
 obtain ⟨A1, hA1, hG1⟩ := GPost.of q d B (q.geK (⟨.inr (fun k h => .inr h), N⟩)) j
 exact ⟨.inr Z, [R 4], ⟨Z, N⟩, A1, hG1, h4⟩
 have c := cnd_f c2 c
 refine HT.skip ?_
 refine HT.seq ?_
 refine SG.of ?_
 refine SG.textR [ob (.pointer (some ⟨b0, 0, none⟩)) (.box B0 110 E_spec_l1Cur p0)] (rR (.pointer (some ⟨b0, 0, none⟩)) :: []) 1 Z Z Z (by kernel_rfl) (by kernel_rfl) (Wf.mk' (by kernel_rfl) (ur (UAll.nil)) (by kernel_rfl) (by kernel_rfl)) q d (N) ?_ ?_
 exact rm h0 <| rz
 intro done ρ σ A R w y s
 obtain ⟨h0, h1⟩ := k2 s.rg h0 h1
 have z8 := s.inivR 0 Z
 have h17 := s.r y 0 Z
 replace B := s.lowK B C K (q.geK (⟨.inr (fun k h => .inr h), N⟩))
 replace j : Ch (ownsB (.pointer (some ⟨b0, 0, none⟩))) w0 w := j.tr s.ch (q.geK (⟨.inr (fun k h => .inr h), N⟩))
 replace q := s.left y [(0, ob (.pointer (some ⟨b0, 0, none⟩)) (.box B0 110 E_spec_l1Cur p0))] ⟨Z, Z, z8, Z, Z, N⟩
 replace d := s.avok
 obtain ⟨x9, q10, c⟩ := cl_some c
 have hFz : w0.heap.size ≤ w.heap.size := j.size
 refine SG.op 18 Z Z Z Z (call_run Try.call88 (M_spec_l1Byte_ok (q10 Z) d h17 (q.sub [(0, ob (.pointer (some ⟨b0, 0, none⟩)) (.box B0 110 E_spec_l1Cur p0))] ⟨Z, Z, N⟩))) ?_
 rintro v_ w ⟨A, hG1, hv⟩ R n hd
 have hst := stp_call d hG1 (q.ok 0 _ Z).2
 replace B : ∀ b o, A0 b o → A b o := low_callK B C K (q.geK (⟨.inr (fun k h => .inr h), N⟩)) 0 Z hG1
 replace j : Ch (ownsB (.pointer (some ⟨b0, 0, none⟩))) w0 w := j.tr hG1.ch (fun k hk => (q.geK (⟨.inr (fun k h => .inr h), N⟩)) k ⟨0, _, Z, hk⟩)
 replace q := GPost.next q d 0 Z hG1
 replace d := hG1.avok
 replace q : IniOK [ob (.pointer (some ⟨b0, 0, none⟩)) (.box B0 110 E_spec_l1Cur x9.2)] A w := q
 replace h0 := (n 0 Z).trans h0
 replace h1 := (n 1 Z).trans h1
 replace h17 := (n 17 Z).trans h17
 have h18 : R 18 = .int .i64 x9.1 := hd.trans hv
 clear hFz hG1 hv n hd
 refine SG.textR [ob (.pointer (some ⟨b0, 0, none⟩)) (.box B0 110 E_spec_l1Cur x9.2)] (rR (.pointer (some ⟨b0, 0, none⟩)) :: rI x9.1 :: rI x9.1 :: []) 3 Z Z Z (by kernel_rfl) (by kernel_rfl) (Wf.mk' (by kernel_rfl) (ur (ur (ur (UAll.nil)))) (by kernel_rfl) (by kernel_rfl)) q d (⟨⟨Z, Z, Z, h17⟩, ⟨⟨Z, Z, Z, h18⟩, N⟩⟩) ?_ ?_
 exact ra <| rz
 intro done ρ σ A R w y s
 obtain ⟨h0, h1⟩ := k2 s.rg h0 h1
 have z11 := s.inivR 0 Z
 have h5 := s.r y 2 Z
 replace B := s.lowK B C K (q.geK (⟨.inr (fun k h => .inr h), N⟩))
 replace j : Ch (ownsB (.pointer (some ⟨b0, 0, none⟩))) w0 w := j.tr s.ch (q.geK (⟨.inr (fun k h => .inr h), N⟩))
 replace q := s.left y [(0, ob (.pointer (some ⟨b0, 0, none⟩)) (.box B0 110 E_spec_l1Cur x9.2))] ⟨Z, Z, z11, Z, Z, N⟩
 replace d := s.avok
 refine SG.fin Z ?_
 refine HT.seq ?_
 refine SG.of ?_
 refine SG.textR [ob (.pointer (some ⟨b0, 0, none⟩)) (.box B0 110 E_spec_l1Cur x9.2)] (rR (.pointer (some ⟨b0, 0, none⟩)) :: []) 1 Z Z Z (by kernel_rfl) (by kernel_rfl) (Wf.mk' (by kernel_rfl) (ur (UAll.nil)) (by kernel_rfl) (by kernel_rfl)) q d (N) ?_ ?_
 exact rm h0 <| rz
 intro done ρ σ A R w y s
 obtain ⟨h0, h1, h5⟩ := k3 s.rg h0 h1 h5
 have z12 := s.inivR 0 Z
 have h19 := s.r y 0 Z
 replace B := s.lowK B C K (q.geK (⟨.inr (fun k h => .inr h), N⟩))
 replace j : Ch (ownsB (.pointer (some ⟨b0, 0, none⟩))) w0 w := j.tr s.ch (q.geK (⟨.inr (fun k h => .inr h), N⟩))
 replace q := s.left y [(0, ob (.pointer (some ⟨b0, 0, none⟩)) (.box B0 110 E_spec_l1Cur x9.2))] ⟨Z, Z, z12, Z, Z, N⟩
 replace d := s.avok
 obtain ⟨x13, q14, c⟩ := cl_some c
 have hFz : w0.heap.size ≤ w.heap.size := j.size
 refine SG.op 20 Z Z Z Z (call_run Try.call88 (M_spec_l1Byte_ok (q14 Z) d h19 (q.sub [(0, ob (.pointer (some ⟨b0, 0, none⟩)) (.box B0 110 E_spec_l1Cur x9.2))] ⟨Z, Z, N⟩))) ?_
 rintro v_ w ⟨A, hG1, hv⟩ R n hd
 have hst := stp_call d hG1 (q.ok 0 _ Z).2
 replace B : ∀ b o, A0 b o → A b o := low_callK B C K (q.geK (⟨.inr (fun k h => .inr h), N⟩)) 0 Z hG1
 replace j : Ch (ownsB (.pointer (some ⟨b0, 0, none⟩))) w0 w := j.tr hG1.ch (fun k hk => (q.geK (⟨.inr (fun k h => .inr h), N⟩)) k ⟨0, _, Z, hk⟩)
 replace q := GPost.next q d 0 Z hG1
 replace d := hG1.avok
 replace q : IniOK [ob (.pointer (some ⟨b0, 0, none⟩)) (.box B0 110 E_spec_l1Cur x13.2)] A w := q
 replace h0 := (n 0 Z).trans h0
 replace h1 := (n 1 Z).trans h1
 replace h5 := (n 5 Z).trans h5
 replace h19 := (n 19 Z).trans h19
 have h20 : R 20 = .int .i64 x13.1 := hd.trans hv
 clear hFz hG1 hv n hd
 refine SG.textR [ob (.pointer (some ⟨b0, 0, none⟩)) (.box B0 110 E_spec_l1Cur x13.2)] (rR (.pointer (some ⟨b0, 0, none⟩)) :: rI x13.1 :: rI x13.1 :: []) 3 Z Z Z (by kernel_rfl) (by kernel_rfl) (Wf.mk' (by kernel_rfl) (ur (ur (ur (UAll.nil)))) (by kernel_rfl) (by kernel_rfl)) q d (⟨⟨Z, Z, Z, h19⟩, ⟨⟨Z, Z, Z, h20⟩, N⟩⟩) ?_ ?_
 exact ra <| rz
 intro done ρ σ A R w y s
 obtain ⟨h0, h1, h5⟩ := k3 s.rg h0 h1 h5
 have z15 := s.inivR 0 Z
 have h6 := s.r y 2 Z
 replace B := s.lowK B C K (q.geK (⟨.inr (fun k h => .inr h), N⟩))
 replace j : Ch (ownsB (.pointer (some ⟨b0, 0, none⟩))) w0 w := j.tr s.ch (q.geK (⟨.inr (fun k h => .inr h), N⟩))
 replace q := s.left y [(0, ob (.pointer (some ⟨b0, 0, none⟩)) (.box B0 110 E_spec_l1Cur x13.2))] ⟨Z, Z, z15, Z, Z, N⟩
 replace d := s.avok
 refine SG.fin Z ?_
 refine HT.seq ?_
 refine SG.of ?_
 refine SG.textR [ob (.pointer (some ⟨b0, 0, none⟩)) (.box B0 110 E_spec_l1Cur x13.2)] (rR (.pointer (some ⟨b0, 0, none⟩)) :: []) 1 Z Z Z (by kernel_rfl) (by kernel_rfl) (Wf.mk' (by kernel_rfl) (ur (UAll.nil)) (by kernel_rfl) (by kernel_rfl)) q d (N) ?_ ?_
 exact rm h0 <| rz
 intro done ρ σ A R w y s
 obtain ⟨h0, h1, h5, h6⟩ := k4 s.rg h0 h1 h5 h6
 have z16 := s.inivR 0 Z
 have h21 := s.r y 0 Z
 replace B := s.lowK B C K (q.geK (⟨.inr (fun k h => .inr h), N⟩))
 replace j : Ch (ownsB (.pointer (some ⟨b0, 0, none⟩))) w0 w := j.tr s.ch (q.geK (⟨.inr (fun k h => .inr h), N⟩))
 replace q := s.left y [(0, ob (.pointer (some ⟨b0, 0, none⟩)) (.box B0 110 E_spec_l1Cur x13.2))] ⟨Z, Z, z16, Z, Z, N⟩
 replace d := s.avok
 obtain ⟨x17, q18, c⟩ := cl_some c
 have hFz : w0.heap.size ≤ w.heap.size := j.size
 refine SG.op 22 Z Z Z Z (call_run Try.call88 (M_spec_l1Byte_ok (q18 Z) d h21 (q.sub [(0, ob (.pointer (some ⟨b0, 0, none⟩)) (.box B0 110 E_spec_l1Cur x13.2))] ⟨Z, Z, N⟩))) ?_
 rintro v_ w ⟨A, hG1, hv⟩ R n hd
 have hst := stp_call d hG1 (q.ok 0 _ Z).2
 replace B : ∀ b o, A0 b o → A b o := low_callK B C K (q.geK (⟨.inr (fun k h => .inr h), N⟩)) 0 Z hG1
 replace j : Ch (ownsB (.pointer (some ⟨b0, 0, none⟩))) w0 w := j.tr hG1.ch (fun k hk => (q.geK (⟨.inr (fun k h => .inr h), N⟩)) k ⟨0, _, Z, hk⟩)
 replace q := GPost.next q d 0 Z hG1
 replace d := hG1.avok
 replace q : IniOK [ob (.pointer (some ⟨b0, 0, none⟩)) (.box B0 110 E_spec_l1Cur x17.2)] A w := q
 replace h0 := (n 0 Z).trans h0
 replace h1 := (n 1 Z).trans h1
 replace h5 := (n 5 Z).trans h5
 replace h6 := (n 6 Z).trans h6
 replace h21 := (n 21 Z).trans h21
 have h22 : R 22 = .int .i64 x17.1 := hd.trans hv
 clear hFz hG1 hv n hd
 refine SG.textR [ob (.pointer (some ⟨b0, 0, none⟩)) (.box B0 110 E_spec_l1Cur x17.2)] (rR (.pointer (some ⟨b0, 0, none⟩)) :: rI x17.1 :: rI x17.1 :: []) 3 Z Z Z (by kernel_rfl) (by kernel_rfl) (Wf.mk' (by kernel_rfl) (ur (ur (ur (UAll.nil)))) (by kernel_rfl) (by kernel_rfl)) q d (⟨⟨Z, Z, Z, h21⟩, ⟨⟨Z, Z, Z, h22⟩, N⟩⟩) ?_ ?_
 exact ra <| rz
 intro done ρ σ A R w y s
 obtain ⟨h0, h1, h5, h6⟩ := k4 s.rg h0 h1 h5 h6
 have z19 := s.inivR 0 Z
 have h7 := s.r y 2 Z
 replace B := s.lowK B C K (q.geK (⟨.inr (fun k h => .inr h), N⟩))
 replace j : Ch (ownsB (.pointer (some ⟨b0, 0, none⟩))) w0 w := j.tr s.ch (q.geK (⟨.inr (fun k h => .inr h), N⟩))
 replace q := s.left y [(0, ob (.pointer (some ⟨b0, 0, none⟩)) (.box B0 110 E_spec_l1Cur x17.2))] ⟨Z, Z, z19, Z, Z, N⟩
 replace d := s.avok
 refine SG.fin Z ?_
 refine HT.seq ?_
 refine SG.of ?_
 refine SG.textR [ob (.pointer (some ⟨b0, 0, none⟩)) (.box B0 110 E_spec_l1Cur x17.2)] (rR (.pointer (some ⟨b0, 0, none⟩)) :: []) 1 Z Z Z (by kernel_rfl) (by kernel_rfl) (Wf.mk' (by kernel_rfl) (ur (UAll.nil)) (by kernel_rfl) (by kernel_rfl)) q d (N) ?_ ?_
 exact rm h0 <| rz
 intro done ρ σ A R w y s
 obtain ⟨h1, h5, h6, h7⟩ := k4 s.rg h1 h5 h6 h7
 have z20 := s.inivR 0 Z
 have h23 := s.r y 0 Z
 replace B := s.lowK B C K (q.geK (⟨.inr (fun k h => .inr h), N⟩))
 replace j : Ch (ownsB (.pointer (some ⟨b0, 0, none⟩))) w0 w := j.tr s.ch (q.geK (⟨.inr (fun k h => .inr h), N⟩))
 replace q := s.left y [(0, ob (.pointer (some ⟨b0, 0, none⟩)) (.box B0 110 E_spec_l1Cur x17.2))] ⟨Z, Z, z20, Z, Z, N⟩
 replace d := s.avok
 obtain ⟨x21, q22, c⟩ := cl_some c
 have hFz : w0.heap.size ≤ w.heap.size := j.size
 refine SG.op 24 Z Z Z Z (call_run Try.call88 (M_spec_l1Byte_ok (q22 Z) d h23 (q.sub [(0, ob (.pointer (some ⟨b0, 0, none⟩)) (.box B0 110 E_spec_l1Cur x17.2))] ⟨Z, Z, N⟩))) ?_
 rintro v_ w ⟨A, hG1, hv⟩ R n hd
 have hst := stp_call d hG1 (q.ok 0 _ Z).2
 replace B : ∀ b o, A0 b o → A b o := low_callK B C K (q.geK (⟨.inr (fun k h => .inr h), N⟩)) 0 Z hG1
 replace j : Ch (ownsB (.pointer (some ⟨b0, 0, none⟩))) w0 w := j.tr hG1.ch (fun k hk => (q.geK (⟨.inr (fun k h => .inr h), N⟩)) k ⟨0, _, Z, hk⟩)
 replace q := GPost.next q d 0 Z hG1
 replace d := hG1.avok
 replace q : IniOK [ob (.pointer (some ⟨b0, 0, none⟩)) (.box B0 110 E_spec_l1Cur x21.2)] A w := q
 replace h1 := (n 1 Z).trans h1
 replace h5 := (n 5 Z).trans h5
 replace h6 := (n 6 Z).trans h6
 replace h7 := (n 7 Z).trans h7
 replace h23 := (n 23 Z).trans h23
 have h24 : R 24 = .int .i64 x21.1 := hd.trans hv
 clear hFz hG1 hv n hd
 refine SG.textR [ob (.pointer (some ⟨b0, 0, none⟩)) (.box B0 110 E_spec_l1Cur x21.2)] (rR (.pointer (some ⟨b0, 0, none⟩)) :: rI x21.1 :: rI x21.1 :: []) 3 Z Z Z (by kernel_rfl) (by kernel_rfl) (Wf.mk' (by kernel_rfl) (ur (ur (ur (UAll.nil)))) (by kernel_rfl) (by kernel_rfl)) q d (⟨⟨Z, Z, Z, h23⟩, ⟨⟨Z, Z, Z, h24⟩, N⟩⟩) ?_ ?_
 exact ra <| rz
 intro done ρ σ A R w y s
 obtain ⟨h1, h5, h6, h7⟩ := k4 s.rg h1 h5 h6 h7
 have z23 := s.inivR 0 Z
 have h8 := s.r y 2 Z
 replace B := s.lowK B C K (q.geK (⟨.inr (fun k h => .inr h), N⟩))
 replace j : Ch (ownsB (.pointer (some ⟨b0, 0, none⟩))) w0 w := j.tr s.ch (q.geK (⟨.inr (fun k h => .inr h), N⟩))
 replace q := s.left y [(0, ob (.pointer (some ⟨b0, 0, none⟩)) (.box B0 110 E_spec_l1Cur x21.2))] ⟨Z, Z, z23, Z, Z, N⟩
 replace d := s.avok
 refine SG.fin Z ?_
 refine HT.seq ?_
 obtain ⟨e24,e25,e26,e27,c⟩ := ck4 c
 obtain ⟨e28,e29,e30,c⟩ := ck3 c
 refine HT.t (eI x9.1 :: eI (x9.1 * 16777216) :: eI x13.1 :: eI (x13.1 * 65536) :: eI ((x9.1 * 16777216) + (x13.1 * 65536)) :: eI x17.1 :: eI (x17.1 * 256) :: eI (((x9.1 * 16777216) + (x13.1 * 65536)) + (x17.1 * 256)) :: eI x21.1 :: eI ((((x9.1 * 16777216) + (x13.1 * 65536)) + (x17.1 * 256)) + x21.1) :: eI p1 :: eI (((((x9.1 * 16777216) + (x13.1 * 65536)) + (x17.1 * 256)) + x21.1).tmod p1) :: eI (((((x9.1 * 16777216) + (x13.1 * 65536)) + (x17.1 * 256)) + x21.1).tmod p1) :: []) ?_ ?_
 exact om h5 <| op (fun Q U W H D=> of_mul (D.g 0 Z) Z e24) <| om h6 <| op (fun Q U W H D=> of_mul (D.g 0 Z) Z e25) <| op (fun Q U W H D=> of_add (D.g 0 Z) (D.g 1 Z) e26) <| om h7 <| op (fun Q U W H D=> of_mul (D.g 0 Z) Z e27) <| op (fun Q U W H D=> of_add (D.g 0 Z) (D.g 1 Z) e28) <| om h8 <| op (fun Q U W H D=> of_add (D.g 0 Z) (D.g 1 Z) e29) <| om h1 <| op (fun Q U W H D=> of_rem (D.g 0 Z) (D.g 1 Z) e30) <| oa <| oz
 intro R w m n p
 have h4 := p.r 12 Z
 replace q := q.fr m
 replace d := d.fr m.size
 replace j := j.tr (m.ch noB) fun _ h => False.elim h
 refine HT.ret ?_
 obtain rfl := si c
 obtain ⟨A1, hA1, hG1⟩ := GPost.of q d B (q.geK (⟨.inr (fun k h => .inr h), N⟩)) j
 exact ⟨.inr Z, [R 4], ⟨Z, N⟩, A1, hG1, h4⟩
def M_spec_l1Once (fu : Nat) (p0 : T_spec_l1Cur) (p1 : Int) : Option (Bool × T_spec_l1Cur) :=
 cl true (M_spec_l1Below fu p0 p1) fun x2 =>
 some ((x2.1 == 0), x2.2)
theorem M_spec_l1Once_ok {fu : Nat} {Aq : Av} {p0 : T_spec_l1Cur} {p1 : Int} {r : Bool × T_spec_l1Cur} (c : M_spec_l1Once fu p0 p1 = some r) {w : World} {v0 : Value} {v1 : Value} {b0 B0 : Nat} (d : AvOK Aq w) (h0 : v0 = .pointer (some ⟨b0, 0, none⟩)) (hO0 : IniOK [ob (.pointer (some ⟨b0, 0, none⟩)) (.box B0 110 E_spec_l1Cur p0)] Aq w) (h1 : v1 = .int .i64 p1) :
 Calls Try.prog 101 #[v0, v1] w fun e w' => ∃ v, e = .returned v ∧ (∃ (A1 : Av), GPost (subS Aq (ownsB (.pointer (some ⟨b0, 0, none⟩)))) (ownsB (.pointer (some ⟨b0, 0, none⟩))) w [ob (.pointer (some ⟨b0, 0, none⟩)) (.box B0 110 E_spec_l1Cur r.2)] A1 w' ∧ (Fact.raw (.bool r.1)).ok v w') := by
 unfold M_spec_l1Once at c
 obtain ⟨w0, hw0⟩ : ∃ w0, w0 = w := ⟨_, Z⟩
 have j : Ch (ownsB (.pointer (some ⟨b0, 0, none⟩))) w0 w := hw0 ▸ Ch.refl _ _
 obtain ⟨A0, hA0e⟩ : ∃ A0, A0 = subS Aq (ownsB (.pointer (some ⟨b0, 0, none⟩))) := ⟨_, Z⟩
 have C : ∀ b o, A0 b o → b < w0.heap.size := fun b o h => hw0 ▸ d b o (hA0e ▸ h : subS Aq _ b o).1
 have K : ∀ b o, A0 b o → ¬ (ownsB (.pointer (some ⟨b0, 0, none⟩))) b := fun b o h => (hA0e ▸ h : subS Aq _ b o).2
 have hA00 : AvOK A0 w0 := C
 rw [show GPost (subS Aq (ownsB (.pointer (some ⟨b0, 0, none⟩)))) (ownsB (.pointer (some ⟨b0, 0, none⟩))) w = GPost A0 (ownsB (.pointer (some ⟨b0, 0, none⟩))) w0 from by rw [hA0e, hw0]]
 obtain ⟨A, hAe⟩ : ∃ A, A = Aq := ⟨_, Z⟩
 have B : ∀ b o, A0 b o → A b o := fun b o h => hAe ▸ (hA0e ▸ h : subS Aq _ b o).1
 replace d : AvOK A w := hAe ▸ d
 have q : IniOK [ob (.pointer (some ⟨b0, 0, none⟩)) (.box B0 110 E_spec_l1Cur p0)] A w := hAe ▸ hO0
 clear hA0e hO0
 refine calls_of_HT2 [.tmp 4] Try.func101 Try.ntmps101 (by decide) Z Z (nb Z) ?_
 intro R hR
 replace h0 : R 0 = .pointer (some ⟨b0, 0, none⟩) := (hR 0 _ Z).trans h0
 replace h1 : R 1 = .int .i64 p1 := (hR 1 _ Z).trans h1
 refine HT.seq ?_
 refine HT.t (eB false :: []) ?_ ?_
 exact op (fun Q U W H D=> of_assign Z) <| oz
 intro R w m n p
 obtain ⟨h0, h1⟩ := k2 n h0 h1
 replace q := q.fr m
 replace d := d.fr m.size
 replace j := j.tr (m.ch noB) fun _ h => False.elim h
 refine HT.seq ?_
 refine SG.of ?_
 refine SG.textR [ob (.pointer (some ⟨b0, 0, none⟩)) (.box B0 110 E_spec_l1Cur p0)] (rR (.pointer (some ⟨b0, 0, none⟩)) :: rI p1 :: []) 2 Z Z Z (by kernel_rfl) (by kernel_rfl) (Wf.mk' (by kernel_rfl) (ur (ur (UAll.nil))) (by kernel_rfl) (by kernel_rfl)) q d (N) ?_ ?_
 exact rm h0 <| rm h1 <| rz
 intro done ρ σ A R w y s
 have z1 := s.inivR 0 Z
 have h5 := s.r y 0 Z
 have h6 := s.r y 1 Z
 replace B := s.lowK B C K (q.geK (⟨.inr (fun k h => .inr h), N⟩))
 replace j : Ch (ownsB (.pointer (some ⟨b0, 0, none⟩))) w0 w := j.tr s.ch (q.geK (⟨.inr (fun k h => .inr h), N⟩))
 replace q := s.left y [(0, ob (.pointer (some ⟨b0, 0, none⟩)) (.box B0 110 E_spec_l1Cur p0))] ⟨Z, Z, z1, Z, Z, N⟩
 replace d := s.avok
 obtain ⟨x2, q3, c⟩ := cl_some c
 have hFz : w0.heap.size ≤ w.heap.size := j.size
 refine SG.op 7 Z Z Z Z (call_run Try.call55 (M_spec_l1Below_ok (q3 Z) d h5 (q.sub [(0, ob (.pointer (some ⟨b0, 0, none⟩)) (.box B0 110 E_spec_l1Cur p0))] ⟨Z, Z, N⟩) h6)) ?_
 rintro v_ w ⟨A, hG1, hv⟩ R n hd
 have hst := stp_call d hG1 (q.ok 0 _ Z).2
 replace B : ∀ b o, A0 b o → A b o := low_callK B C K (q.geK (⟨.inr (fun k h => .inr h), N⟩)) 0 Z hG1
 replace j : Ch (ownsB (.pointer (some ⟨b0, 0, none⟩))) w0 w := j.tr hG1.ch (fun k hk => (q.geK (⟨.inr (fun k h => .inr h), N⟩)) k ⟨0, _, Z, hk⟩)
 replace q := GPost.next q d 0 Z hG1
 replace d := hG1.avok
 replace q : IniOK [ob (.pointer (some ⟨b0, 0, none⟩)) (.box B0 110 E_spec_l1Cur x2.2)] A w := q
 replace h5 := (n 5 Z).trans h5
 replace h6 := (n 6 Z).trans h6
 have h7 : R 7 = .int .i64 x2.1 := hd.trans hv
 clear hFz hG1 hv n hd
 refine SG.textR [ob (.pointer (some ⟨b0, 0, none⟩)) (.box B0 110 E_spec_l1Cur x2.2)] (rR (.pointer (some ⟨b0, 0, none⟩)) :: rI p1 :: rI x2.1 :: rB (x2.1 == 0) :: rB (x2.1 == 0) :: []) 5 Z Z Z (by kernel_rfl) (by kernel_rfl) (Wf.mk' (by kernel_rfl) (ur (ur (ur (ur (ur (UAll.nil)))))) (by kernel_rfl) (by kernel_rfl)) q d (⟨⟨Z, Z, Z, h5⟩, ⟨⟨Z, Z, Z, h6⟩, ⟨⟨Z, Z, Z, h7⟩, N⟩⟩⟩) ?_ ?_
 exact rp (fun V Q U O D=> of_eql (D.g 0 Z) Z) <| ra <| rz
 intro done ρ σ A R w y s
 have z4 := s.inivR 0 Z
 have h4 := s.r y 4 Z
 replace B := s.lowK B C K (q.geK (⟨.inr (fun k h => .inr h), N⟩))
 replace j : Ch (ownsB (.pointer (some ⟨b0, 0, none⟩))) w0 w := j.tr s.ch (q.geK (⟨.inr (fun k h => .inr h), N⟩))
 replace q := s.left y [(0, ob (.pointer (some ⟨b0, 0, none⟩)) (.box B0 110 E_spec_l1Cur x2.2))] ⟨Z, Z, z4, Z, Z, N⟩
 replace d := s.avok
 refine SG.fin Z ?_
 refine HT.ret ?_
 obtain rfl := si c
 obtain ⟨A1, hA1, hG1⟩ := GPost.of q d B (q.geK (⟨.inr (fun k h => .inr h), N⟩)) j
 exact ⟨.inr Z, [R 4], ⟨Z, N⟩, A1, hG1, h4⟩
def M_spec_l1Pick (fu : Nat) (p0 : T_spec_l1Cur) (p1 : List (List UInt8)) : Option ((List UInt8) × T_spec_l1Cur) :=
 cl true (M_spec_l1Below fu p0 (p1.length : Int)) fun x2 =>
 ck (inR x2.1 p1.length) <|
 some ((gtD p1 x2.1), x2.2)
theorem M_spec_l1Pick_ok {fu : Nat} {Aq : Av} {p0 : T_spec_l1Cur} {p1 : List (List UInt8)} {r : (List UInt8) × T_spec_l1Cur} (c : M_spec_l1Pick fu p0 p1 = some r) {w : World} {v0 : Value} {v1 : Value} {b0 B0 : Nat} (d : AvOK Aq w) (h0 : v0 = .pointer (some ⟨b0, 0, none⟩)) (hO0 : IniOK [ob (.pointer (some ⟨b0, 0, none⟩)) (.box B0 110 E_spec_l1Cur p0)] Aq w) (h1 : Rep (eSl eStr) Aq w v1 p1) :
 Calls Try.prog 130 #[v0, v1] w fun e w' => ∃ v, e = .returned v ∧ (∃ (A1 : Av), GPost (subS Aq (ownsB (.pointer (some ⟨b0, 0, none⟩)))) (ownsB (.pointer (some ⟨b0, 0, none⟩))) w [ob (.pointer (some ⟨b0, 0, none⟩)) (.box B0 110 E_spec_l1Cur r.2)] A1 w' ∧ (Fact.rep eStr A1 r.1).ok v w') := by
 unfold M_spec_l1Pick at c
 obtain ⟨w0, hw0⟩ : ∃ w0, w0 = w := ⟨_, Z⟩
 have j : Ch (ownsB (.pointer (some ⟨b0, 0, none⟩))) w0 w := hw0 ▸ Ch.refl _ _
 obtain ⟨A0, hA0e⟩ : ∃ A0, A0 = subS Aq (ownsB (.pointer (some ⟨b0, 0, none⟩))) := ⟨_, Z⟩
 have C : ∀ b o, A0 b o → b < w0.heap.size := fun b o h => hw0 ▸ d b o (hA0e ▸ h : subS Aq _ b o).1
 have K : ∀ b o, A0 b o → ¬ (ownsB (.pointer (some ⟨b0, 0, none⟩))) b := fun b o h => (hA0e ▸ h : subS Aq _ b o).2
 have hA00 : AvOK A0 w0 := C
 rw [show GPost (subS Aq (ownsB (.pointer (some ⟨b0, 0, none⟩)))) (ownsB (.pointer (some ⟨b0, 0, none⟩))) w = GPost A0 (ownsB (.pointer (some ⟨b0, 0, none⟩))) w0 from by rw [hA0e, hw0]]
 obtain ⟨A, hAe⟩ : ∃ A, A = Aq := ⟨_, Z⟩
 have B : ∀ b o, A0 b o → A b o := fun b o h => hAe ▸ (hA0e ▸ h : subS Aq _ b o).1
 replace d : AvOK A w := hAe ▸ d
 have q : IniOK [ob (.pointer (some ⟨b0, 0, none⟩)) (.box B0 110 E_spec_l1Cur p0)] A w := hAe ▸ hO0
 clear hA0e hO0
 refine calls_of_HT2 [.tmp 4] Try.func130 Try.ntmps130 (by decide) Z Z (nb Z) ?_
 intro R hR
 replace h0 : R 0 = .pointer (some ⟨b0, 0, none⟩) := (hR 0 _ Z).trans h0
 have f_v1 : Rep (eSl eStr) A w v1 p1 := hAe ▸ h1
 replace h1 : R 1 = v1 := hR 1 _ Z
 refine HT.seq ?_
 refine HT.t (eF (.rep eStr A ([] : List UInt8)) :: []) ?_ ?_
 exact op (fun Q U W H D=> of_assign ⟨_, Z, ⟨_, Z, Z, by decide⟩⟩) <| oz
 intro R w m n p
 obtain ⟨h0, h1⟩ := k2 n h0 h1
 replace f_v1 := f_v1.fr m
 replace q := q.fr m
 replace d := d.fr m.size
 replace j := j.tr (m.ch noB) fun _ h => False.elim h
 refine HT.seq ?_
 refine SG.of ?_
 refine SG.textR [ob (.pointer (some ⟨b0, 0, none⟩)) (.box B0 110 E_spec_l1Cur p0)] (rR v1 :: rR (.pointer (some ⟨b0, 0, none⟩)) :: rR v1 :: rI (p1.length : Int) :: []) 4 Z Z Z (by kernel_rfl) (by kernel_rfl) (Wf.mk' (by kernel_rfl) (ur (ur (ur (ur (UAll.nil))))) (by kernel_rfl) (by kernel_rfl)) q d (N) ?_ ?_
 exact rm h1 <| rm h0 <| rm h1 <| rp (fun V Q U O D=> of_len_sl (aT := #[]) ((f_v1.stp O.stp).eq (D.g 0 Z)) Try.underlying154) <| rz
 intro done ρ σ A R w y s
 have z1 := s.inivR 0 Z
 have h5 := s.r y 0 Z
 have h6 := s.r y 1 Z
 have h8 := s.r y 3 Z
 replace f_v1 := f_v1.stp s.stp
 replace B := s.lowK B C K (q.geK (⟨.inr (fun k h => .inr h), N⟩))
 replace j : Ch (ownsB (.pointer (some ⟨b0, 0, none⟩))) w0 w := j.tr s.ch (q.geK (⟨.inr (fun k h => .inr h), N⟩))
 replace q := s.left y [(0, ob (.pointer (some ⟨b0, 0, none⟩)) (.box B0 110 E_spec_l1Cur p0))] ⟨Z, Z, z1, Z, Z, N⟩
 replace d := s.avok
 obtain ⟨x2, q3, c⟩ := cl_some c
 have hFz : w0.heap.size ≤ w.heap.size := j.size
 refine SG.op 9 Z Z Z Z (call_run Try.call55 (M_spec_l1Below_ok (q3 Z) d h6 (q.sub [(0, ob (.pointer (some ⟨b0, 0, none⟩)) (.box B0 110 E_spec_l1Cur p0))] ⟨Z, Z, N⟩) h8)) ?_
 rintro v_ w ⟨A, hG1, hv⟩ R n hd
 have hst := stp_call d hG1 (q.ok 0 _ Z).2
 replace B : ∀ b o, A0 b o → A b o := low_callK B C K (q.geK (⟨.inr (fun k h => .inr h), N⟩)) 0 Z hG1
 replace j : Ch (ownsB (.pointer (some ⟨b0, 0, none⟩))) w0 w := j.tr hG1.ch (fun k hk => (q.geK (⟨.inr (fun k h => .inr h), N⟩)) k ⟨0, _, Z, hk⟩)
 replace q := GPost.next q d 0 Z hG1
 replace d := hG1.avok
 replace q : IniOK [ob (.pointer (some ⟨b0, 0, none⟩)) (.box B0 110 E_spec_l1Cur x2.2)] A w := q
 replace h5 := (n 5 Z).trans h5
 replace h6 := (n 6 Z).trans h6
 replace h8 := (n 8 Z).trans h8
 replace f_v1 := f_v1.stp hst
 have h9 : R 9 = .int .i64 x2.1 := hd.trans hv
 clear hFz hG1 hv n hd
 obtain ⟨e4, c⟩ := ck_some c
 refine SG.textR [ob (.pointer (some ⟨b0, 0, none⟩)) (.box B0 110 E_spec_l1Cur x2.2)] (rR v1 :: rR (.pointer (some ⟨b0, 0, none⟩)) :: rA :: rI (p1.length : Int) :: rI x2.1 :: (rF fun A => .qtr eStr A (gtD p1 x2.1)) :: (rF fun A => .rep eStr A (gtD p1 x2.1)) :: (rF fun A => .rep eStr A (gtD p1 x2.1)) :: []) 8 Z Z Z (by kernel_rfl) (by kernel_rfl) (Wf.mk' (by kernel_rfl) (ur (ur (ua (ur (ur (UAll.cons ust_qtr (up (up (UAll.nil))))))))) (by kernel_rfl) (by kernel_rfl)) q d (⟨⟨Z, Z, Z, h5⟩, ⟨⟨Z, Z, Z, h6⟩, ⟨⟨Z, Z, Z, N⟩, ⟨⟨Z, Z, Z, h8⟩, ⟨⟨Z, Z, Z, h9⟩, N⟩⟩⟩⟩⟩) ?_ ?_
 exact rp (fun V Q U O D=> of_indexAddr ((f_v1.stp O.stp).eq (D.g 0 Z)) (D.g 1 Z) Try.underlying154 Try.sizeOf9 e4) <| rp (fun V Q U O D=> (of_load (QRep.ptr (D.g 0 Z)) Try.isAgg9 Try.sizeOf9)) <| rp (fun V Q U O D=> of_assign (D.g 0 Z)) <| rz
 intro done ρ σ A R w y s
 have z5 := s.inivR 0 Z
 obtain ⟨u6, h4, f_u6⟩ : ∃ u, R 4 = u ∧ Rep eStr A w u (gtD p1 x2.1) := ⟨_, Z, s.fact y (i := 7) Z Z Z⟩
 replace B := s.lowK B C K (q.geK (⟨.inr (fun k h => .inr h), N⟩))
 replace j : Ch (ownsB (.pointer (some ⟨b0, 0, none⟩))) w0 w := j.tr s.ch (q.geK (⟨.inr (fun k h => .inr h), N⟩))
 replace q := s.left y [(0, ob (.pointer (some ⟨b0, 0, none⟩)) (.box B0 110 E_spec_l1Cur x2.2))] ⟨Z, Z, z5, Z, Z, N⟩
 replace d := s.avok
 refine SG.fin Z ?_
 refine HT.ret ?_
 obtain rfl := si c
 obtain ⟨A1, hA1, hG1⟩ := GPost.of q d B (q.geK (⟨.inr (fun k h => .inr h), N⟩)) j
 exact ⟨.inr Z, [R 4], ⟨Z, N⟩, A1, hG1, (f_u6.eq h4).down hA1⟩
def M_spec_l2Cut_L0 (fu : Nat) (p0 : List UInt8) (p1 : Int) : Nat → Int → Int → (List (List UInt8)) → Option (Int × (List (List UInt8)))
 | 0, _, _, _ => none
 | k + 1, y5, y6, y7 =>
 bif (decide (y6 < (p0.length : Int))) then (
 ck (inR y6 p0.length) <|
 bif ((bAt p0 y6) == p1) then (
 ck (subR y5 y6 p0.length) <|
 ck (lenOK (y7.length + ([(subL p0 y5 y6)] : List (List UInt8)).length)) <|
 ck (i64B (y6 + 1)) <|
 ck (i64B (y6 + 1)) <|
 M_spec_l2Cut_L0 fu p0 p1 k (y6 + 1) (y6 + 1) (y7 ++ ([(subL p0 y5 y6)] : List (List UInt8)))
 ) else (
 ck (i64B (y6 + 1)) <|
 M_spec_l2Cut_L0 fu p0 p1 k y5 (y6 + 1) y7
 )
 ) else (
 some (y5, y7)
 )
def M_spec_l2Cut (fu : Nat) (p0 : List UInt8) (p1 : Int) : Option (List (List UInt8)) :=
 cl true (M_spec_l2Cut_L0 fu p0 p1 fu 0 0 ([] : List (List UInt8))) fun s4 =>
 ck (subR s4.1 (p0.length : Int) p0.length) <|
 ck (lenOK (s4.2.length + ([(subL p0 s4.1 (p0.length : Int))] : List (List UInt8)).length)) <|
 some (s4.2 ++ ([(subL p0 s4.1 (p0.length : Int))] : List (List UInt8)))
theorem M_spec_l2Cut_ok {fu : Nat} {A0 : Av} {p0 : List UInt8} {p1 : Int} {r : List (List UInt8)} (c : M_spec_l2Cut fu p0 p1 = some r) {w : World} {v0 : Value} {v1 : Value} (d : AvOK A0 w) (h0 : Rep eStr A0 w v0 p0) (h1 : v1 = .int .u8 p1) :
 Calls Try.prog 139 #[v0, v1] w fun e w' => ∃ v, e = .returned v ∧ ((Res.vec w.heap.size 9 eStr r).ok (addA A0 v) v w' ∧ Fr w w') := by
 unfold M_spec_l2Cut at c
 obtain ⟨w0,hw0,j,C⟩ := pw d
 have hA00 : AvOK A0 w0 := C
 rw [fh hw0]
 rw [fw hw0]
 obtain ⟨A,hAe,B,d,q⟩ := pa d
 refine calls_of_HT2 [.tmp 4] Try.func139 Try.ntmps139 (by decide) Z Z (nb Z) ?_
 intro R hR
 have f_v0 : Rep eStr A w v0 p0 := hAe ▸ h0
 replace h0 : R 0 = v0 := hR 0 _ Z
 replace h1 : R 1 = .int .u8 p1 := (hR 1 _ Z).trans h1
 refine HT.su d j (eA :: []) ?_ ?_
 exact op (fun Q U W H D=> of_assign N) <| oz
 intro R w m n p d j
 obtain ⟨h0, h1⟩ := k2 n h0 h1
 replace f_v0 := f_v0.fr m
 replace q := q.fr m
 refine HT.sx [] (⟨_, true, [], some (.vec w0.heap.size 9 eStr ([] : List (List UInt8))), true, fun A => .any⟩ :: ⟨_, true, [0], some (.vec w0.heap.size 9 eStr ([] : List (List UInt8))), true, fun A => .any⟩ :: []) (ua (ua (UAll.nil))) q d ?_ ?_
 exact rc (OblR.made _ Z Z Z Z fun V Q U O D=> by exact made_build [] (E := eStr) N Try.underlying154 Try.sizeOf9 Try.zeroValue9 Z Z Z (Nat.le_trans j.size O.ch.size)) <| rc (OblR.took 0 _ _ Z Z Z Z Z fun V Q U O D u X Y J L M=> by exact took_assign (L _ _ Z Z Z Z).symm X Y) <| rz
 intro done ρ σ A R w y s
 obtain ⟨h0, h1⟩ := k2 s.rg h0 h1
 obtain ⟨u1, e_u1⟩ : ∃ u, ρ 1 = u := ⟨_, Z⟩
 have h5 := s.ov y 1 1 e_u1
 replace f_v0 := f_v0.stp s.stp
 obtain ⟨B,j,d⟩ := s.s B C j q N
 replace q := s.left y [(1, ob u1 (.vec w0.heap.size 9 eStr ([] : List (List UInt8))))] ⟨Z, Z, e_u1, Z, Z, N⟩
 refine HT.su d j (eI 0 :: []) ?_ ?_
 exact op (fun Q U W H D=> of_assign Z) <| oz
 intro R w m n p d j
 obtain ⟨h0, h1, h5⟩ := k3 n h0 h1 h5
 have h6 := p.r 0 Z
 replace f_v0 := f_v0.fr m
 replace q := q.fr m
 refine HT.seq ?_
 refine HT.su d j (eI 0 :: []) ?_ ?_
 exact op (fun Q U W H D=> of_assign Z) <| oz
 intro R w m n p d j
 obtain ⟨h0, h1, h5, h6⟩ := k4 n h0 h1 h5 h6
 have h7 := p.r 0 Z
 replace f_v0 := f_v0.fr m
 replace q := q.fr m
 obtain ⟨rl2, q3, c⟩ := cl_some c
 replace q3 := q3 Z
 refine HT.cut0 (fun R w => ∃ A : Av, ∃ (s4 : Int × (List (List UInt8))) (uo_u1 : Value), rl2 = s4 ∧ AvOK A w ∧ Fr w0 w ∧ (∀ b o, A0 b o → A b o) ∧ IniOK [ob uo_u1 (.vec w0.heap.size 9 eStr s4.2)] A w ∧ R 0 = v0 ∧ R 5 = uo_u1 ∧ R 6 = .int .i64 s4.1 ∧ Rep eStr A w v0 p0) ?_ ?_
 refine HT.block ?_
 refine HT.loop (fun k R w => ∃ A : Av, ∃ (y5 : Int) (y6 : Int) (y7 : List (List UInt8)) (ul_u1 : Value), M_spec_l2Cut_L0 fu p0 p1 k y5 y6 y7 = some rl2 ∧ AvOK A w ∧ Fr w0 w ∧ (∀ b o, A0 b o → A b o) ∧ IniOK [ob ul_u1 (.vec w0.heap.size 9 eStr y7)] A w ∧ R 0 = v0 ∧ R 1 = .int .u8 p1 ∧ R 5 = ul_u1 ∧ R 6 = .int .i64 y5 ∧ R 7 = .int .i64 y6 ∧ Rep eStr A w v0 p0) fu ⟨_, _, _, _, u1, q3, d, j, B, q, h0, h1, h5, h6, h7, f_v0⟩ ?_
 have hr0 := c; clear c q3
 rintro k R w ⟨A, y5, y6, y7, ul_u1, c, d, j, B, q, h0, h1, h5, h6, h7, f_v0⟩
 rcases k with _ | k
 cases (show none = some _ from c)
 rw [M_spec_l2Cut_L0] at c
 refine HT.seq ?_
 refine HT.su d j (eI y6 :: eR v0 :: eI (p0.length : Int) :: eB (decide (y6 < (p0.length : Int))) :: []) ?_ ?_
 exact om h7 <| om h0 <| op (fun Q U W H D=> of_len_str ((f_v0.fr W).eq (D.g 0 Z)) Try.underlying9) <| op (fun Q U W H D=> of_lss (D.g 0 Z) (D.g 1 Z)) <| oz
 intro R w m n p d j
 obtain ⟨h0, h1, h5, h6, h7⟩ := k5 n h0 h1 h5 h6 h7
 have h12 := p.r 3 Z
 replace f_v0 := f_v0.fr m
 replace q := q.fr m
 refine HT.cond (decide (y6 < (p0.length : Int))) h12 (fun c8 => ?_) (fun c8 => ?_)
 have c := cnd_t c8 c
 refine HT.skip ?_
 refine HT.seq ?_
 refine HT.block ?_
 obtain ⟨e9, c⟩ := ck_some c
 refine HT.su d j (eR v0 :: eI y6 :: eU (bAt p0 y6) :: eU p1 :: eB ((bAt p0 y6) == p1) :: []) ?_ ?_
 exact om h0 <| om h7 <| op (fun Q U W H D=> of_strIndex ((f_v0.fr W).eq (D.g 0 Z)) (D.g 1 Z) Try.underlying9 e9) <| om h1 <| op (fun Q U W H D=> of_eql (D.g 0 Z) (D.g 1 Z)) <| oz
 intro R w m n p d j
 obtain ⟨h0, h1, h5, h6, h7⟩ := k5 n h0 h1 h5 h6 h7
 have h19 := p.r 4 Z
 replace f_v0 := f_v0.fr m
 replace q := q.fr m
 refine HT.cond ((bAt p0 y6) == p1) h19 (fun c10 => ?_) (fun c10 => ?_)
 have c := cnd_t c10 c
 obtain ⟨e11,e12,c⟩ := ck2 c
 refine HT.sx [ob ul_u1 (.vec w0.heap.size 9 eStr y7)] (rR ul_u1 :: rR v0 :: rI y5 :: rI y6 :: (rF fun A => .rep eStr A (subL p0 y5 y6)) :: (rF fun A => .rep (eSl eStr) A ([(subL p0 y5 y6)] : List (List UInt8))) :: ⟨_, true, [0], some (.vec w0.heap.size 9 eStr (y7 ++ ([(subL p0 y5 y6)] : List (List UInt8)))), true, fun A => .any⟩ :: ⟨_, true, [7], some (.vec w0.heap.size 9 eStr (y7 ++ ([(subL p0 y5 y6)] : List (List UInt8)))), true, fun A => .any⟩ :: []) (ur (ur (ur (ur (up (up (ua (ua (UAll.nil))))))))) q d ?_ ?_
 exact rm h5 <| rm h0 <| rm h6 <| rm h7 <| rp (fun V Q U O D=> of_slice_str ((f_v0.stp O.stp).eq (D.g 0 Z)) (D.g 1 Z) (D.g 2 Z) Try.underlying9  e11) <| rp (fun V Q U O D=> of_build [_] (E := eStr) ⟨(D.g 0 Z), N⟩ Try.underlying154 Try.sizeOf9 Try.zeroValue9 Z Z Z O.av) <| rc (OblR.took 0 _ _ Z Z Z Z Z fun V Q U O D u X Y J L M=> by have a0 : Q 20 = ul_u1 := D.g 0 Z; have a1 : Rep (eSl eStr) V U (Q 25) ([(subL p0 y5 y6)] : List (List UInt8)) := D.g 1 Z; exact took_append (a0.trans (J _ Z).symm) X Y (Nat.le_trans j.size O.ch.size) a1 Try.underlying154 el_9 e12) <| rc (OblR.took 7 _ _ Z Z Z Z Z fun V Q U O D u X Y J L M=> by exact took_assign (L _ _ Z Z Z Z).symm X Y) <| rz
 intro done ρ σ A R w y s
 obtain ⟨h0, h1, h7⟩ := k3 s.rg h0 h1 h7
 obtain ⟨u13, e_u13⟩ : ∃ u, ρ 8 = u := ⟨_, Z⟩
 have h5 := s.ov y 8 7 e_u13
 replace f_v0 := f_v0.stp s.stp
 obtain ⟨B,j,d⟩ := s.s B C j q ⟨Z, N⟩
 replace q := s.left y [(8, ob u13 (.vec w0.heap.size 9 eStr (y7 ++ ([(subL p0 y5 y6)] : List (List UInt8)))))] ⟨Z, Z, e_u13, Z, Z, N⟩
 obtain ⟨e14, c⟩ := ck_some c
 refine HT.u d j (eI y6 :: eI (y6 + 1) :: eI (y6 + 1) :: []) ?_ ?_
 exact om h7 <| op (fun Q U W H D=> of_add (D.g 0 Z) Z e14) <| oa <| oz
 intro R w m n p d j
 obtain ⟨h0, h1, h5, h7⟩ := k4 n h0 h1 h5 h7
 have h6 := p.r 2 Z
 replace f_v0 := f_v0.fr m
 replace q := q.fr m
 obtain ⟨e15, c⟩ := ck_some c
 refine HT.u d j (eI y6 :: eI (y6 + 1) :: eI (y6 + 1) :: []) ?_ ?_
 exact om h7 <| op (fun Q U W H D=> of_add (D.g 0 Z) Z e15) <| oa <| oz
 intro R w m n p d j
 obtain ⟨h0, h1, h5, h6⟩ := k4 n h0 h1 h5 h6
 have h7 := p.r 2 Z
 replace f_v0 := f_v0.fr m
 replace q := q.fr m
 exact ei k (And.intro (Nat.lt_succ_self k) ⟨_, _, _, _, u13, c, d, j, B, q, h0, h1, h5, h6, h7, f_v0⟩)
 have c := cnd_f c10 c
 refine HT.skip ?_
 obtain ⟨e16, c⟩ := ck_some c
 refine HT.u d j (eI y6 :: eI (y6 + 1) :: eI (y6 + 1) :: []) ?_ ?_
 exact om h7 <| op (fun Q U W H D=> of_add (D.g 0 Z) Z e16) <| oa <| oz
 intro R w m n p d j
 obtain ⟨h0, h1, h5, h6⟩ := k4 n h0 h1 h5 h6
 have h7 := p.r 2 Z
 replace f_v0 := f_v0.fr m
 replace q := q.fr m
 exact ei k (And.intro (Nat.lt_succ_self k) ⟨_, _, _, _, ul_u1, c, d, j, B, q, h0, h1, h5, h6, h7, f_v0⟩)
 have c := cnd_f c8 c
 refine HT.exit ?_
 obtain rfl := si c
 exact ei _ ⟨_, ul_u1, Z, d, j, B, q, h0, h5, h6, f_v0⟩
 rintro R w ⟨A, s4, uo_u1, es, d, j, B, q, h0, h5, h6, f_v0⟩
 obtain rfl := es.symm
 obtain ⟨e17,e18,c⟩ := ck2 c
 refine HT.sx [ob uo_u1 (.vec w0.heap.size 9 eStr s4.2)] (rR uo_u1 :: rR v0 :: rI s4.1 :: (rF fun A => .rep eStr A (subL p0 s4.1 (p0.length : Int))) :: (rF fun A => .rep (eSl eStr) A ([(subL p0 s4.1 (p0.length : Int))] : List (List UInt8))) :: ⟨_, true, [0], some (.vec w0.heap.size 9 eStr (s4.2 ++ ([(subL p0 s4.1 (p0.length : Int))] : List (List UInt8)))), true, fun A => .any⟩ :: ⟨_, true, [6], some (.vec w0.heap.size 9 eStr (s4.2 ++ ([(subL p0 s4.1 (p0.length : Int))] : List (List UInt8)))), true, fun A => .any⟩ :: []) (ur (ur (ur (up (up (ua (ua (UAll.nil)))))))) q d ?_ ?_
 exact rm h5 <| rm h0 <| rm h6 <| rp (fun V Q U O D=> of_slice_str_lo ((f_v0.stp O.stp).eq (D.g 0 Z)) (D.g 1 Z) Try.underlying9  e17) <| rp (fun V Q U O D=> of_build [_] (E := eStr) ⟨(D.g 0 Z), N⟩ Try.underlying154 Try.sizeOf9 Try.zeroValue9 Z Z Z O.av) <| rc (OblR.took 0 _ _ Z Z Z Z Z fun V Q U O D u X Y J L M=> by have a0 : Q 29 = uo_u1 := D.g 0 Z; have a1 : Rep (eSl eStr) V U (Q 33) ([(subL p0 s4.1 (p0.length : Int))] : List (List UInt8)) := D.g 1 Z; exact took_append (a0.trans (J _ Z).symm) X Y (Nat.le_trans j.size O.ch.size) a1 Try.underlying154 el_9 e18) <| rc (OblR.took 6 _ _ Z Z Z Z Z fun V Q U O D u X Y J L M=> by exact took_assign (L _ _ Z Z Z Z).symm X Y) <| rz
 intro done ρ σ A R w y s
 obtain ⟨u19, e_u19⟩ : ∃ u, ρ 7 = u := ⟨_, Z⟩
 have h4 := s.ov y 7 6 e_u19
 obtain ⟨B,j,d⟩ := s.s B C j q ⟨Z, N⟩
 replace q := s.left y [(7, ob u19 (.vec w0.heap.size 9 eStr (s4.2 ++ ([(subL p0 s4.1 (p0.length : Int))] : List (List UInt8)))))] ⟨Z, Z, e_u19, Z, Z, N⟩
 refine HT.ret ?_
 obtain rfl := si c
 exact ⟨.inr Z, [R 4], ⟨Z, N⟩, (own_post (q.ok 0 _ Z) B h4), j⟩
theorem M_spec_l2Cut_okR {fu : Nat} {A0 : Av} {p0 : List UInt8} {p1 : Int} {r : List (List UInt8)} (c : M_spec_l2Cut fu p0 p1 = some r) {w : World} {v0 : Value} {v1 : Value} (d : AvOK A0 w) (h0 : Rep eStr A0 w v0 p0) (h1 : v1 = .int .u8 p1) :
 Calls Try.prog 139 #[v0, v1] w fun e w' => ∃ v, e = .returned v ∧ (Rep (eSl eStr) A0 w' v r ∧ Fr w w') := by
 refine Calls.mono (M_spec_l2Cut_ok c d h0 h1) ?_
 rintro e w' ⟨v, he, hv, hf⟩
 exact ⟨v, he, vec_rep hv (fun b o h => .inl h) d, hf⟩
def M_spec_l1In (fu : Nat) (p0 : Int) (p1 : Int) (p2 : Int) : Option Bool :=
 bd ((decide (p1 ≤ p0)) && (decide (p0 ≤ p2))) fun x1 =>
 some x1
theorem M_spec_l1In_ok {fu : Nat} {A : Av} {p0 : Int} {p1 : Int} {p2 : Int} {r : Bool} (c : M_spec_l1In fu p0 p1 p2 = some r) {w : World} {v0 : Value} {v1 : Value} {v2 : Value} (d : AvOK A w) (h0 : v0 = .int .i64 p0) (h1 : v1 = .int .i64 p1) (h2 : v2 = .int .i64 p2) :
 Calls Try.prog 51 #[v0, v1, v2] w fun e w' => ∃ v, e = .returned v ∧ (v = .bool r ∧ Fr w w') := by
 unfold M_spec_l1In at c
 obtain ⟨w0,hw0,j⟩ := pf w
 rw [fw hw0]
 refine calls_of_HT2 [.tmp 6] Try.func51 Try.ntmps51 (by decide) Z Z (nb Z) ?_
 intro R hR
 replace h0 : R 0 = .int .i64 p0 := (hR 0 _ Z).trans h0
 replace h1 : R 1 = .int .i64 p1 := (hR 1 _ Z).trans h1
 replace h2 : R 2 = .int .i64 p2 := (hR 2 _ Z).trans h2
 refine HT.su d j (eB false :: []) ?_ ?_
 exact op (fun Q U W H D=> of_assign Z) <| oz
 intro R w m n p d j
 obtain ⟨h0, h1, h2⟩ := k3 n h0 h1 h2
 refine HT.seq ?_
 obtain ⟨x1, q2, c⟩ := bd_some c
 refine HT.u d j (eI p0 :: eI p1 :: eB (decide (p1 ≤ p0)) :: eB (decide (p1 ≤ p0)) :: gI (true && ((decide (p1 ≤ p0)) == true)) p0 :: gI (true && ((decide (p1 ≤ p0)) == true)) p2 :: gB (true && ((decide (p1 ≤ p0)) == true)) (decide (p0 ≤ p2)) :: eB x1 :: eB x1 :: []) ?_ ?_
 exact om h0 <| om h1 <| op (fun Q U W H D=> of_geq (D.g 0 Z) (D.g 1 Z)) <| ov <| gm 3 true h0 <| gm 3 true h2 <| og 3 true (fun G Q U W H D=> of_leq (D.h 0 G Z) (D.h 1 G Z)) <| op (fun Q U W H D=> of_pick (decide (p1 ≤ p0)) (D.g 0 Z) (fun hc=> by have a1 : Q 13 = .bool (decide (p0 ≤ p2)) := D 1 _ _ _ Z Z Z Z (g_and Z (beq_of hc)); show _ = Value.bool x1; rw [q2, hc]; exact a1) (fun hc=> by show _ = Value.bool x1; rw [q2, hc]; exact Z)) <| oa <| oz
 intro R w m n p d j
 have h6 := p.r 8 Z
 refine HT.ret ?_
 obtain rfl := si c
 exact ⟨.inr Z, [R 6], ⟨Z, N⟩, h6, j⟩
def M_spec_FeatureName (fu : Nat) (p0 : Int) : Option (List UInt8) :=
 cl true (M_spec_l1In fu p0 0 5) fun x1 =>
 bif (!x1) then (
 some ([] : List UInt8)
 ) else (
 ck (inR p0 ([([110, 97, 109, 101] : List UInt8), ([116, 111, 107, 101, 110, 115] : List UInt8), ([115, 111, 117, 110, 100] : List UInt8), ([99, 105, 116, 121] : List UInt8), ([121, 101, 97, 114] : List UInt8), ([112, 104, 111, 110, 101] : List UInt8)] : List (List UInt8)).length) <|
 some (gtD ([([110, 97, 109, 101] : List UInt8), ([116, 111, 107, 101, 110, 115] : List UInt8), ([115, 111, 117, 110, 100] : List UInt8), ([99, 105, 116, 121] : List UInt8), ([121, 101, 97, 114] : List UInt8), ([112, 104, 111, 110, 101] : List UInt8)] : List (List UInt8)) p0)
 )
theorem M_spec_FeatureName_ok {fu : Nat} {A : Av} {p0 : Int} {r : List UInt8} (c : M_spec_FeatureName fu p0 = some r) {w : World} {v0 : Value} (d : AvOK A w) (h0 : v0 = .int .i64 p0) :
 Calls Try.prog 144 #[v0] w fun e w' => ∃ v, e = .returned v ∧ (Rep eStr A w' v r ∧ Fr w w') := by
 unfold M_spec_FeatureName at c
 obtain ⟨w0,hw0,j⟩ := pf w
 rw [fw hw0]
 refine calls_of_HT2 [.tmp 2] Try.func144 Try.ntmps144 (by decide) Z Z (nb Z) ?_
 intro R hR
 replace h0 : R 0 = .int .i64 p0 := (hR 0 _ Z).trans h0
 refine HT.su d j (eF (.rep eStr A ([] : List UInt8)) :: []) ?_ ?_
 exact op (fun Q U W H D=> of_assign ⟨_, Z, ⟨_, Z, Z, by decide⟩⟩) <| oz
 intro R w m n p d j
 replace h0 := k1 n h0
 refine HT.seq ?_
 obtain ⟨x1, q2, c⟩ := cl_some c
 refine HT.su d j (eI p0 :: eB x1 :: eB (!x1) :: []) ?_ ?_
 exact om h0 <| op (fun Q U W H D=> of_call Try.call51 (M_spec_l1In_ok (q2 Z) (d.fr W.size) (D.g 0 Z) Z Z)) <| op (fun Q U W H D=> of_not (D.g 0 Z)) <| oz
 intro R w m n p d j
 replace h0 := k1 n h0
 have h5 := p.r 2 Z
 refine HT.cond (!x1) h5 (fun c3 => ?_) (fun c3 => ?_)
 have c := cnd_t c3 c
 refine HT.su d j (eF (.rep eStr A ([] : List UInt8)) :: []) ?_ ?_
 exact op (fun Q U W H D=> of_assign ⟨_, Z, ⟨_, Z, Z, by decide⟩⟩) <| oz
 intro R w m n p d j
 obtain ⟨u4, h2, f_u4⟩ : ∃ u, R 2 = u ∧ Rep eStr A w u ([] : List UInt8) := ⟨_, Z, p 0 _ _ Z Z Z⟩
 refine HT.ret ?_
 obtain rfl := si c
 exact ⟨.inr Z, [R 2], ⟨Z, N⟩, (f_u4.eq h2), j⟩
 have c := cnd_f c3 c
 refine HT.skip ?_
 obtain ⟨e5, c⟩ := ck_some c
 refine HT.su d j (eF (.rep (eSl eStr) A ([([110, 97, 109, 101] : List UInt8), ([116, 111, 107, 101, 110, 115] : List UInt8), ([115, 111, 117, 110, 100] : List UInt8), ([99, 105, 116, 121] : List UInt8), ([121, 101, 97, 114] : List UInt8), ([112, 104, 111, 110, 101] : List UInt8)] : List (List UInt8))) :: eI p0 :: eF (.qtr eStr A (gtD ([([110, 97, 109, 101] : List UInt8), ([116, 111, 107, 101, 110, 115] : List UInt8), ([115, 111, 117, 110, 100] : List UInt8), ([99, 105, 116, 121] : List UInt8), ([121, 101, 97, 114] : List UInt8), ([112, 104, 111, 110, 101] : List UInt8)] : List (List UInt8)) p0)) :: eF (.rep eStr A (gtD ([([110, 97, 109, 101] : List UInt8), ([116, 111, 107, 101, 110, 115] : List UInt8), ([115, 111, 117, 110, 100] : List UInt8), ([99, 105, 116, 121] : List UInt8), ([121, 101, 97, 114] : List UInt8), ([112, 104, 111, 110, 101] : List UInt8)] : List (List UInt8)) p0)) :: eF (.rep eStr A (gtD ([([110, 97, 109, 101] : List UInt8), ([116, 111, 107, 101, 110, 115] : List UInt8), ([115, 111, 117, 110, 100] : List UInt8), ([99, 105, 116, 121] : List UInt8), ([121, 101, 97, 114] : List UInt8), ([112, 104, 111, 110, 101] : List UInt8)] : List (List UInt8)) p0)) :: []) ?_ ?_
 exact op (fun Q U W H D=> of_build [_, _, _, _, _, _] (E := eStr) ⟨⟨_, Z, ⟨_, Z, Z, by decide⟩⟩, ⟨⟨_, Z, ⟨_, Z, Z, by decide⟩⟩, ⟨⟨_, Z, ⟨_, Z, Z, by decide⟩⟩, ⟨⟨_, Z, ⟨_, Z, Z, by decide⟩⟩, ⟨⟨_, Z, ⟨_, Z, Z, by decide⟩⟩, ⟨⟨_, Z, ⟨_, Z, Z, by decide⟩⟩, N⟩⟩⟩⟩⟩⟩ Try.underlying154 Try.sizeOf9 Try.zeroValue9 Z Z Z (d.fr W.size)) <| om h0 <| op (fun Q U W H D=> of_indexAddr (D.g 0 Z) (D.g 1 Z) Try.underlying154 Try.sizeOf9 e5) <| op (fun Q U W H D=> (of_load (QRep.ptr (D.g 0 Z)) Try.isAgg9 Try.sizeOf9)) <| op (fun Q U W H D=> of_assign (D.g 0 Z)) <| oz
 intro R w m n p d j
 obtain ⟨u6, h2, f_u6⟩ : ∃ u, R 2 = u ∧ Rep eStr A w u (gtD ([([110, 97, 109, 101] : List UInt8), ([116, 111, 107, 101, 110, 115] : List UInt8), ([115, 111, 117, 110, 100] : List UInt8), ([99, 105, 116, 121] : List UInt8), ([121, 101, 97, 114] : List UInt8), ([112, 104, 111, 110, 101] : List UInt8)] : List (List UInt8)) p0) := ⟨_, Z, p 4 _ _ Z Z Z⟩
 refine HT.ret ?_
 obtain rfl := si c
 exact ⟨.inr Z, [R 2], ⟨Z, N⟩, (f_u6.eq h2), j⟩
def M_spec_FormatInt_L0 (fu : Nat) : Nat → Int → (List UInt8) → Option (List UInt8)
 | 0, _, _ => none
 | k + 1, y7, y8 =>
 bif (y7 != 0) then (
 ck ((10 : Int) != 0) <|
 bif (decide ((y7.tmod 10) < 0)) then (
 ck (i64B (0 - (y7.tmod 10))) <|
 ck (i64B (48 + (0 - (y7.tmod 10)))) <|
 ck (lenOK ((strB ([(IntKind.u8.wrap (48 + (0 - (y7.tmod 10))))] : List Int)) ++ y8).length) <|
 ck ((10 : Int) != 0) <|
 ck (i64B (y7.tdiv 10)) <|
 M_spec_FormatInt_L0 fu k (y7.tdiv 10) ((strB ([(IntKind.u8.wrap (48 + (0 - (y7.tmod 10))))] : List Int)) ++ y8)
 ) else (
 ck (i64B (48 + (y7.tmod 10))) <|
 ck (lenOK ((strB ([(IntKind.u8.wrap (48 + (y7.tmod 10)))] : List Int)) ++ y8).length) <|
 ck ((10 : Int) != 0) <|
 ck (i64B (y7.tdiv 10)) <|
 M_spec_FormatInt_L0 fu k (y7.tdiv 10) ((strB ([(IntKind.u8.wrap (48 + (y7.tmod 10)))] : List Int)) ++ y8)
 )
 ) else (
 some y8
 )
def M_spec_FormatInt (fu : Nat) (p0 : Int) : Option (List UInt8) :=
 bif (p0 == 0) then (
 some ([48] : List UInt8)
 ) else (
 cl true (M_spec_FormatInt_L0 fu fu p0 ([] : List UInt8)) fun s6 =>
 bif (decide (p0 < 0)) then (
 ck (lenOK (([45] : List UInt8) ++ s6).length) <|
 some (([45] : List UInt8) ++ s6)
 ) else (
 some s6
 )
 )
theorem M_spec_FormatInt_ok {fu : Nat} {A : Av} {p0 : Int} {r : List UInt8} (c : M_spec_FormatInt fu p0 = some r) {w : World} {v0 : Value} (d : AvOK A w) (h0 : v0 = .int .i64 p0) :
 Calls Try.prog 146 #[v0] w fun e w' => ∃ v, e = .returned v ∧ (Rep eStr A w' v r ∧ Fr w w') := by
 unfold M_spec_FormatInt at c
 obtain ⟨w0,hw0,j⟩ := pf w
 rw [fw hw0]
 refine calls_of_HT2 [.tmp 2] Try.func146 Try.ntmps146 (by decide) Z Z (nb Z) ?_
 intro R hR
 replace h0 : R 0 = .int .i64 p0 := (hR 0 _ Z).trans h0
 refine HT.su d j (eF (.rep eStr A ([] : List UInt8)) :: []) ?_ ?_
 exact op (fun Q U W H D=> of_assign ⟨_, Z, ⟨_, Z, Z, by decide⟩⟩) <| oz
 intro R w m n p d j
 replace h0 := k1 n h0
 refine HT.seq ?_
 refine HT.su d j (eI p0 :: eB (p0 == 0) :: []) ?_ ?_
 exact om h0 <| op (fun Q U W H D=> of_eql (D.g 0 Z) Z) <| oz
 intro R w m n p d j
 replace h0 := k1 n h0
 have h7 := p.r 1 Z
 refine HT.cond (p0 == 0) h7 (fun c1 => ?_) (fun c1 => ?_)
 have c := cnd_t c1 c
 refine HT.su d j (eF (.rep eStr A ([48] : List UInt8)) :: []) ?_ ?_
 exact op (fun Q U W H D=> of_assign ⟨_, Z, ⟨_, Z, Z, by decide⟩⟩) <| oz
 intro R w m n p d j
 obtain ⟨u2, h2, f_u2⟩ : ∃ u, R 2 = u ∧ Rep eStr A w u ([48] : List UInt8) := ⟨_, Z, p 0 _ _ Z Z Z⟩
 refine HT.ret ?_
 obtain rfl := si c
 exact ⟨.inr Z, [R 2], ⟨Z, N⟩, (f_u2.eq h2), j⟩
 have c := cnd_f c1 c
 refine HT.skip ?_
 refine HT.su d j (eF (.rep eStr A ([] : List UInt8)) :: []) ?_ ?_
 exact op (fun Q U W H D=> of_assign ⟨_, Z, ⟨_, Z, Z, by decide⟩⟩) <| oz
 intro R w m n p d j
 replace h0 := k1 n h0
 obtain ⟨u3, h3, f_u3⟩ : ∃ u, R 3 = u ∧ Rep eStr A w u ([] : List UInt8) := ⟨_, Z, p 0 _ _ Z Z Z⟩
 refine HT.su d j (eI p0 :: eB (decide (p0 < 0)) :: eB (decide (p0 < 0)) :: []) ?_ ?_
 exact om h0 <| op (fun Q U W H D=> of_lss (D.g 0 Z) Z) <| oa <| oz
 intro R w m n p d j
 obtain ⟨h0, h3⟩ := k2 n h0 h3
 have h4 := p.r 2 Z
 replace f_u3 := f_u3.fr m
 obtain ⟨rl4, q5, c⟩ := cl_some c
 replace q5 := q5 Z
 refine HT.cut (fun R w => ∃ (s6 : (List UInt8)) (wo_3 : Value), rl4 = s6 ∧ AvOK A w ∧ Fr w0 w ∧ R 3 = wo_3 ∧ R 4 = .bool (decide (p0 < 0)) ∧ Rep eStr A w wo_3 s6) ?_ ?_
 refine HT.block ?_
 refine HT.loop (fun k R w => ∃ (y7 : Int) (y8 : List UInt8) (wl_3 : Value), M_spec_FormatInt_L0 fu k y7 y8 = some rl4 ∧ AvOK A w ∧ Fr w0 w ∧ R 0 = .int .i64 y7 ∧ R 3 = wl_3 ∧ R 4 = .bool (decide (p0 < 0)) ∧ Rep eStr A w wl_3 y8) fu ⟨_, _, u3, q5, d, j, h0, h3, h4, f_u3⟩ ?_
 have hr0 := c; clear c q5
 rintro k R w ⟨y7, y8, wl_3, c, d, j, h0, h3, h4, f_wl_3⟩
 rcases k with _ | k
 cases (show none = some _ from c)
 rw [M_spec_FormatInt_L0] at c
 refine HT.seq ?_
 refine HT.su d j (eI y7 :: eB (y7 != 0) :: []) ?_ ?_
 exact om h0 <| op (fun Q U W H D=> of_neq (D.g 0 Z) Z) <| oz
 intro R w m n p d j
 obtain ⟨h0, h3, h4⟩ := k3 n h0 h3 h4
 have h11 := p.r 1 Z
 replace f_wl_3 := f_wl_3.fr m
 refine HT.cond (y7 != 0) h11 (fun c9 => ?_) (fun c9 => ?_)
 have c := cnd_t c9 c
 refine HT.skip ?_
 refine HT.block ?_
 obtain ⟨e10, c⟩ := ck_some c
 refine HT.su d j (eI y7 :: eI (y7.tmod 10) :: eI (y7.tmod 10) :: []) ?_ ?_
 exact om h0 <| op (fun Q U W H D=> of_rem (D.g 0 Z) Z e10) <| oa <| oz
 intro R w m n p d j
 obtain ⟨h0, h3, h4⟩ := k3 n h0 h3 h4
 have h5 := p.r 2 Z
 replace f_wl_3 := f_wl_3.fr m
 refine HT.seq ?_
 refine HT.su d j (eI (y7.tmod 10) :: eB (decide ((y7.tmod 10) < 0)) :: []) ?_ ?_
 exact om h5 <| op (fun Q U W H D=> of_lss (D.g 0 Z) Z) <| oz
 intro R w m n p d j
 obtain ⟨h0, h3, h4, h5⟩ := k4 n h0 h3 h4 h5
 have h15 := p.r 1 Z
 replace f_wl_3 := f_wl_3.fr m
 refine HT.cond (decide ((y7.tmod 10) < 0)) h15 (fun c11 => ?_) (fun c11 => ?_)
 have c := cnd_t c11 c
 obtain ⟨e12, c⟩ := ck_some c
 refine HT.u d j (eI (y7.tmod 10) :: eI (0 - (y7.tmod 10)) :: eI (0 - (y7.tmod 10)) :: []) ?_ ?_
 exact om h5 <| op (fun Q U W H D=> of_neg (D.g 0 Z) e12) <| oa <| oz
 intro R w m n p d j
 obtain ⟨h0, h3, h4⟩ := k3 n h0 h3 h4
 have h5 := p.r 2 Z
 replace f_wl_3 := f_wl_3.fr m
 obtain ⟨e13,e14,c⟩ := ck2 c
 refine HT.su d j (eI (0 - (y7.tmod 10)) :: eI (48 + (0 - (y7.tmod 10))) :: eU (IntKind.u8.wrap (48 + (0 - (y7.tmod 10)))) :: eF (.rep (eSl (eInt .u8)) A ([(IntKind.u8.wrap (48 + (0 - (y7.tmod 10))))] : List Int)) :: eF (.rep eStr A (strB ([(IntKind.u8.wrap (48 + (0 - (y7.tmod 10))))] : List Int))) :: eR wl_3 :: eF (.rep eStr A ((strB ([(IntKind.u8.wrap (48 + (0 - (y7.tmod 10))))] : List Int)) ++ y8)) :: eF (.rep eStr A ((strB ([(IntKind.u8.wrap (48 + (0 - (y7.tmod 10))))] : List Int)) ++ y8)) :: []) ?_ ?_
 exact om h5 <| op (fun Q U W H D=> of_add Z (D.g 0 Z) e13) <| op (fun Q U W H D=> of_conv_int (D.g 0 Z) Try.underlying3 Try.underlying5) <| op (fun Q U W H D=> of_build [_] (E := eInt .u8) ⟨(rep_int.eq (D.g 0 Z)), N⟩ Try.underlying46 Try.sizeOf5 Try.zeroValue5 Z Z Z (d.fr W.size)) <| op (fun Q U W H D=> of_conv_bytes (D.g 0 Z) Try.underlying46 Try.underlying5 Try.underlying9) <| om h3 <| op (fun Q U W H D=> of_cat (D.g 0 Z) ((f_wl_3.fr W).eq (D.g 1 Z)) e14) <| op (fun Q U W H D=> of_assign (D.g 0 Z)) <| oz
 intro R w m n p d j
 obtain ⟨h0, h4⟩ := k2 n h0 h4
 obtain ⟨u15, h3, f_u15⟩ : ∃ u, R 3 = u ∧ Rep eStr A w u ((strB ([(IntKind.u8.wrap (48 + (0 - (y7.tmod 10))))] : List Int)) ++ y8) := ⟨_, Z, p 7 _ _ Z Z Z⟩
 obtain ⟨e16,e17,c⟩ := ck2 c
 refine HT.u d j (eI y7 :: eI (y7.tdiv 10) :: eI (y7.tdiv 10) :: []) ?_ ?_
 exact om h0 <| op (fun Q U W H D=> of_quo (D.g 0 Z) Z e16 e17) <| oa <| oz
 intro R w m n p d j
 obtain ⟨h3, h4⟩ := k2 n h3 h4
 have h0 := p.r 2 Z
 replace f_u15 := f_u15.fr m
 exact ei k (And.intro (Nat.lt_succ_self k) ⟨_, _, u15, c, d, j, h0, h3, h4, f_u15⟩)
 have c := cnd_f c11 c
 refine HT.skip ?_
 obtain ⟨e18,e19,c⟩ := ck2 c
 refine HT.su d j (eI (y7.tmod 10) :: eI (48 + (y7.tmod 10)) :: eU (IntKind.u8.wrap (48 + (y7.tmod 10))) :: eF (.rep (eSl (eInt .u8)) A ([(IntKind.u8.wrap (48 + (y7.tmod 10)))] : List Int)) :: eF (.rep eStr A (strB ([(IntKind.u8.wrap (48 + (y7.tmod 10)))] : List Int))) :: eR wl_3 :: eF (.rep eStr A ((strB ([(IntKind.u8.wrap (48 + (y7.tmod 10)))] : List Int)) ++ y8)) :: eF (.rep eStr A ((strB ([(IntKind.u8.wrap (48 + (y7.tmod 10)))] : List Int)) ++ y8)) :: []) ?_ ?_
 exact om h5 <| op (fun Q U W H D=> of_add Z (D.g 0 Z) e18) <| op (fun Q U W H D=> of_conv_int (D.g 0 Z) Try.underlying3 Try.underlying5) <| op (fun Q U W H D=> of_build [_] (E := eInt .u8) ⟨(rep_int.eq (D.g 0 Z)), N⟩ Try.underlying46 Try.sizeOf5 Try.zeroValue5 Z Z Z (d.fr W.size)) <| op (fun Q U W H D=> of_conv_bytes (D.g 0 Z) Try.underlying46 Try.underlying5 Try.underlying9) <| om h3 <| op (fun Q U W H D=> of_cat (D.g 0 Z) ((f_wl_3.fr W).eq (D.g 1 Z)) e19) <| op (fun Q U W H D=> of_assign (D.g 0 Z)) <| oz
 intro R w m n p d j
 obtain ⟨h0, h4⟩ := k2 n h0 h4
 obtain ⟨u20, h3, f_u20⟩ : ∃ u, R 3 = u ∧ Rep eStr A w u ((strB ([(IntKind.u8.wrap (48 + (y7.tmod 10)))] : List Int)) ++ y8) := ⟨_, Z, p 7 _ _ Z Z Z⟩
 obtain ⟨e21,e22,c⟩ := ck2 c
 refine HT.u d j (eI y7 :: eI (y7.tdiv 10) :: eI (y7.tdiv 10) :: []) ?_ ?_
 exact om h0 <| op (fun Q U W H D=> of_quo (D.g 0 Z) Z e21 e22) <| oa <| oz
 intro R w m n p d j
 obtain ⟨h3, h4⟩ := k2 n h3 h4
 have h0 := p.r 2 Z
 replace f_u20 := f_u20.fr m
 exact ei k (And.intro (Nat.lt_succ_self k) ⟨_, _, u20, c, d, j, h0, h3, h4, f_u20⟩)
 have c := cnd_f c9 c
 refine HT.exit ?_
 obtain rfl := si c
 exact ei _ ⟨wl_3, Z, d, j, h3, h4, f_wl_3⟩
 rintro R w ⟨s6, wo_3, es, d, j, h3, h4, f_wo_3⟩
 obtain rfl := es.symm
 refine HT.seq ?_
 refine HT.su d j (eB (decide (p0 < 0)) :: []) ?_ ?_
 exact om h4 <| oz
 intro R w m n p d j
 replace h3 := k1 n h3
 have h27 := p.r 0 Z
 replace f_wo_3 := f_wo_3.fr m
 refine HT.cond (decide (p0 < 0)) h27 (fun c23 => ?_) (fun c23 => ?_)
 have c := cnd_t c23 c
 obtain ⟨e24, c⟩ := ck_some c
 refine HT.su d j (eR wo_3 :: eF (.rep eStr A (([45] : List UInt8) ++ s6)) :: eF (.rep eStr A (([45] : List UInt8) ++ s6)) :: []) ?_ ?_
 exact om h3 <| op (fun Q U W H D=> of_cat ⟨_, Z, ⟨_, Z, Z, by decide⟩⟩ ((f_wo_3.fr W).eq (D.g 0 Z)) e24) <| op (fun Q U W H D=> of_assign (D.g 0 Z)) <| oz
 intro R w m n p d j
 obtain ⟨u25, h2, f_u25⟩ : ∃ u, R 2 = u ∧ Rep eStr A w u (([45] : List UInt8) ++ s6) := ⟨_, Z, p 2 _ _ Z Z Z⟩
 refine HT.ret ?_
 obtain rfl := si c
 exact ⟨.inr Z, [R 2], ⟨Z, N⟩, (f_u25.eq h2), j⟩
 have c := cnd_f c23 c
 refine HT.skip ?_
 refine HT.su d j (eR wo_3 :: eR wo_3 :: []) ?_ ?_
 exact om h3 <| oa <| oz
 intro R w m n p d j
 have h2 := p.r 1 Z
 replace f_wo_3 := f_wo_3.fr m
 refine HT.ret ?_
 obtain rfl := si c
 exact ⟨.inr Z, [R 2], ⟨Z, N⟩, (f_wo_3.eq h2), j⟩
def M_spec_ParseInt_L0 (fu : Nat) (p0 : List UInt8) : Nat → Int → Int → Int → Option (Int × Int)
 | 0, _, _, _ => none
 | k + 1, y4, y5, y6 =>
 bd ((decide (y6 < (p0.length : Int))) && (decide (y6 < 11))) fun x7 =>
 bif x7 then (
 ck (inR y6 p0.length) <|
 ck (!(true && ((decide (48 ≤ (bAt p0 y6))) == true)) || inR y6 p0.length) <|
 bd ((decide (48 ≤ (bAt p0 y6))) && (decide ((bAt p0 y6) ≤ 57))) fun x12 =>
 bif x12 then (
 ck (i64B (y4 * 10)) <|
 ck (inR y6 p0.length) <|
 ck (i64B ((y4 * 10) + (IntKind.i64.wrap (IntKind.u8.wrap ((bAt p0 y6) - 48))))) <|
 ck (i64B (y5 + 1)) <|
 ck (i64B (y6 + 1)) <|
 M_spec_ParseInt_L0 fu p0 k ((y4 * 10) + (IntKind.i64.wrap (IntKind.u8.wrap ((bAt p0 y6) - 48)))) (y5 + 1) (y6 + 1)
 ) else (
 ck (i64B (y6 + 1)) <|
 M_spec_ParseInt_L0 fu p0 k y4 y5 (y6 + 1)
 )
 ) else (
 some (y4, y5)
 )
def M_spec_ParseInt (fu : Nat) (p0 : List UInt8) : Option (Int × Bool) :=
 cl true (M_spec_ParseInt_L0 fu p0 fu 0 0 0) fun s3 =>
 ck (!(true && ((decide (0 < (p0.length : Int))) == true)) || inR 0 p0.length) <|
 bd ((decide (0 < (p0.length : Int))) && ((bAt p0 0) == 45)) fun x22 =>
 bif x22 then (
 ck (i64B (0 - s3.1)) <|
 bd ((decide (9 < s3.2)) || (decide (10 < (p0.length : Int)))) fun x26 =>
 cl (true && (x26 == false)) (M_spec_FormatInt fu (0 - s3.1)) fun x28 =>
 bd (x26 || (!(x28 == p0))) fun x30 =>
 bif x30 then (
 some (0, false)
 ) else (
 some ((0 - s3.1), true)
 )
 ) else (
 bd ((decide (9 < s3.2)) || (decide (10 < (p0.length : Int)))) fun x33 =>
 cl (true && (x33 == false)) (M_spec_FormatInt fu s3.1) fun x35 =>
 bd (x33 || (!(x35 == p0))) fun x37 =>
 bif x37 then (
 some (0, false)
 ) else (
 some (s3.1, true)
 )
 )
theorem M_spec_ParseInt_ok {fu : Nat} {A : Av} {p0 : List UInt8} {r : Int × Bool} (c : M_spec_ParseInt fu p0 = some r) {w : World} {v0 : Value} (d : AvOK A w) (h0 : Rep eStr A w v0 p0) :
 Calls Try.prog 145 #[v0] w fun e w' => ∃ v, e = .returned v ∧ ((∃ a b, v = .tuple #[a, b] ∧ a = .int .i64 r.1 ∧ b = .bool r.2) ∧ Fr w w') := by
 unfold M_spec_ParseInt at c
 obtain ⟨w0,hw0,j⟩ := pf w
 rw [fw hw0]
 refine calls_of_HT2 [.tmp 2, .tmp 3] Try.func145 Try.ntmps145 (by decide) Z Z (nb Z) ?_
 intro R hR
 have f_v0 := h0
 replace h0 : R 0 = v0 := hR 0 _ Z
 refine HT.su d j (eI 0 :: eB false :: []) ?_ ?_
 exact op (fun Q U W H D=> of_assign Z) <| op (fun Q U W H D=> of_assign Z) <| oz
 intro R w m n p d j
 replace h0 := k1 n h0
 replace f_v0 := f_v0.fr m
 refine HT.su d j (eI 0 :: []) ?_ ?_
 exact op (fun Q U W H D=> of_assign Z) <| oz
 intro R w m n p d j
 replace h0 := k1 n h0
 have h4 := p.r 0 Z
 replace f_v0 := f_v0.fr m
 refine HT.su d j (eI 0 :: []) ?_ ?_
 exact op (fun Q U W H D=> of_assign Z) <| oz
 intro R w m n p d j
 obtain ⟨h0, h4⟩ := k2 n h0 h4
 have h5 := p.r 0 Z
 replace f_v0 := f_v0.fr m
 refine HT.seq ?_
 refine HT.su d j (eI 0 :: []) ?_ ?_
 exact op (fun Q U W H D=> of_assign Z) <| oz
 intro R w m n p d j
 obtain ⟨h0, h4, h5⟩ := k3 n h0 h4 h5
 have h6 := p.r 0 Z
 replace f_v0 := f_v0.fr m
 obtain ⟨rl1, q2, c⟩ := cl_some c
 replace q2 := q2 Z
 refine HT.cut0 (fun R w => ∃ (s3 : Int × Int), rl1 = s3 ∧ AvOK A w ∧ Fr w0 w ∧ R 0 = v0 ∧ R 4 = .int .i64 s3.1 ∧ R 5 = .int .i64 s3.2 ∧ Rep eStr A w v0 p0) ?_ ?_
 refine HT.block ?_
 refine HT.loop (fun k R w => ∃ (y4 : Int) (y5 : Int) (y6 : Int), M_spec_ParseInt_L0 fu p0 k y4 y5 y6 = some rl1 ∧ AvOK A w ∧ Fr w0 w ∧ R 0 = v0 ∧ R 4 = .int .i64 y4 ∧ R 5 = .int .i64 y5 ∧ R 6 = .int .i64 y6 ∧ Rep eStr A w v0 p0) fu ⟨_, _, _, q2, d, j, h0, h4, h5, h6, f_v0⟩ ?_
 have hr0 := c; clear c q2
 rintro k R w ⟨y4, y5, y6, c, d, j, h0, h4, h5, h6, f_v0⟩
 rcases k with _ | k
 cases (show none = some _ from c)
 rw [M_spec_ParseInt_L0] at c
 refine HT.seq ?_
 refine HT.seq ?_
 obtain ⟨x7, q8, c⟩ := bd_some c
 refine HT.u d j (eI y6 :: eR v0 :: eI (p0.length : Int) :: eB (decide (y6 < (p0.length : Int))) :: eB (decide (y6 < (p0.length : Int))) :: gI (true && ((decide (y6 < (p0.length : Int))) == true)) y6 :: gB (true && ((decide (y6 < (p0.length : Int))) == true)) (decide (y6 < 11)) :: eB x7 :: []) ?_ ?_
 exact om h6 <| om h0 <| op (fun Q U W H D=> of_len_str ((f_v0.fr W).eq (D.g 0 Z)) Try.underlying9) <| op (fun Q U W H D=> of_lss (D.g 0 Z) (D.g 1 Z)) <| ov <| gm 4 true h6 <| og 4 true (fun G Q U W H D=> of_lss (D.h 0 G Z) Z) <| op (fun Q U W H D=> of_pick (decide (y6 < (p0.length : Int))) (D.g 0 Z) (fun hc=> by have a1 : Q 13 = .bool (decide (y6 < 11)) := D 1 _ _ _ Z Z Z Z (g_and Z (beq_of hc)); show _ = Value.bool x7; rw [q8, hc]; exact a1) (fun hc=> by show _ = Value.bool x7; rw [q8, hc]; exact Z)) <| oz
 intro R w m n p d j
 obtain ⟨h0, h4, h5, h6⟩ := k4 n h0 h4 h5 h6
 have h14 := p.r 7 Z
 replace f_v0 := f_v0.fr m
 refine HT.cond x7 h14 (fun c9 => ?_) (fun c9 => ?_)
 have c := cnd_t c9 c
 refine HT.skip ?_
 refine HT.seq ?_
 refine HT.block ?_
 refine HT.seq ?_
 obtain ⟨e10,e11,c⟩ := ck2 c
 obtain ⟨x12, q13, c⟩ := bd_some c
 refine HT.u d j (eR v0 :: eI y6 :: eU (bAt p0 y6) :: eB (decide (48 ≤ (bAt p0 y6))) :: eB (decide (48 ≤ (bAt p0 y6))) :: gR (true && ((decide (48 ≤ (bAt p0 y6))) == true)) v0 :: gI (true && ((decide (48 ≤ (bAt p0 y6))) == true)) y6 :: gU (true && ((decide (48 ≤ (bAt p0 y6))) == true)) (bAt p0 y6) :: gB (true && ((decide (48 ≤ (bAt p0 y6))) == true)) (decide ((bAt p0 y6) ≤ 57)) :: eB x12 :: []) ?_ ?_
 exact om h0 <| om h6 <| op (fun Q U W H D=> of_strIndex ((f_v0.fr W).eq (D.g 0 Z)) (D.g 1 Z) Try.underlying9 e10) <| op (fun Q U W H D=> of_geq (D.g 0 Z) Z) <| ov <| gm 4 true h0 <| gm 4 true h6 <| og 4 true (fun G Q U W H D=> of_strIndex ((f_v0.fr W).eq (D.h 0 G Z)) (D.h 1 G Z) Try.underlying9 (gd e11 G)) <| og 4 true (fun G Q U W H D=> of_leq (D.h 0 G Z) Z) <| op (fun Q U W H D=> of_pick (decide (48 ≤ (bAt p0 y6))) (D.g 0 Z) (fun hc=> by have a1 : Q 25 = .bool (decide ((bAt p0 y6) ≤ 57)) := D 1 _ _ _ Z Z Z Z (g_and Z (beq_of hc)); show _ = Value.bool x12; rw [q13, hc]; exact a1) (fun hc=> by show _ = Value.bool x12; rw [q13, hc]; exact Z)) <| oz
 intro R w m n p d j
 obtain ⟨h0, h4, h5, h6⟩ := k4 n h0 h4 h5 h6
 have h26 := p.r 9 Z
 replace f_v0 := f_v0.fr m
 refine HT.cond x12 h26 (fun c14 => ?_) (fun c14 => ?_)
 have c := cnd_t c14 c
 obtain ⟨e15,e16,e17,c⟩ := ck3 c
 refine HT.su d j (eI y4 :: eI (y4 * 10) :: eR v0 :: eI y6 :: eU (bAt p0 y6) :: eU (IntKind.u8.wrap ((bAt p0 y6) - 48)) :: eI (IntKind.i64.wrap (IntKind.u8.wrap ((bAt p0 y6) - 48))) :: eI ((y4 * 10) + (IntKind.i64.wrap (IntKind.u8.wrap ((bAt p0 y6) - 48)))) :: eI ((y4 * 10) + (IntKind.i64.wrap (IntKind.u8.wrap ((bAt p0 y6) - 48)))) :: []) ?_ ?_
 exact om h4 <| op (fun Q U W H D=> of_mul (D.g 0 Z) Z e15) <| om h0 <| om h6 <| op (fun Q U W H D=> of_strIndex ((f_v0.fr W).eq (D.g 0 Z)) (D.g 1 Z) Try.underlying9 e16) <| op (fun Q U W H D=> of_sub_w (D.g 0 Z) Z) <| op (fun Q U W H D=> of_conv_int (D.g 0 Z) Try.underlying5 Try.underlying3) <| op (fun Q U W H D=> of_add (D.g 0 Z) (D.g 1 Z) e17) <| oa <| oz
 intro R w m n p d j
 obtain ⟨h0, h5, h6⟩ := k3 n h0 h5 h6
 have h4 := p.r 8 Z
 replace f_v0 := f_v0.fr m
 obtain ⟨e18, c⟩ := ck_some c
 refine HT.u d j (eI y5 :: eI (y5 + 1) :: eI (y5 + 1) :: []) ?_ ?_
 exact om h5 <| op (fun Q U W H D=> of_add (D.g 0 Z) Z e18) <| oa <| oz
 intro R w m n p d j
 obtain ⟨h0, h4, h6⟩ := k3 n h0 h4 h6
 have h5 := p.r 2 Z
 replace f_v0 := f_v0.fr m
 obtain ⟨e19, c⟩ := ck_some c
 refine HT.u d j (eI y6 :: eI (y6 + 1) :: eI (y6 + 1) :: []) ?_ ?_
 exact om h6 <| op (fun Q U W H D=> of_add (D.g 0 Z) Z e19) <| oa <| oz
 intro R w m n p d j
 obtain ⟨h0, h4, h5⟩ := k3 n h0 h4 h5
 have h6 := p.r 2 Z
 replace f_v0 := f_v0.fr m
 exact ei k (And.intro (Nat.lt_succ_self k) ⟨_, _, _, c, d, j, h0, h4, h5, h6, f_v0⟩)
 have c := cnd_f c14 c
 refine HT.skip ?_
 obtain ⟨e20, c⟩ := ck_some c
 refine HT.u d j (eI y6 :: eI (y6 + 1) :: eI (y6 + 1) :: []) ?_ ?_
 exact om h6 <| op (fun Q U W H D=> of_add (D.g 0 Z) Z e20) <| oa <| oz
 intro R w m n p d j
 obtain ⟨h0, h4, h5⟩ := k3 n h0 h4 h5
 have h6 := p.r 2 Z
 replace f_v0 := f_v0.fr m
 exact ei k (And.intro (Nat.lt_succ_self k) ⟨_, _, _, c, d, j, h0, h4, h5, h6, f_v0⟩)
 have c := cnd_f c9 c
 refine HT.exit ?_
 obtain rfl := si c
 exact ei _ ⟨Z, d, j, h0, h4, h5, f_v0⟩
 rintro R w ⟨s3, es, d, j, h0, h4, h5, f_v0⟩
 obtain rfl := es.symm
 refine HT.seq ?_
 refine HT.seq ?_
 obtain ⟨e21, c⟩ := ck_some c
 obtain ⟨x22, q23, c⟩ := bd_some c
 refine HT.u d j (eR v0 :: eI (p0.length : Int) :: eB (decide (0 < (p0.length : Int))) :: eB (decide (0 < (p0.length : Int))) :: gR (true && ((decide (0 < (p0.length : Int))) == true)) v0 :: gU (true && ((decide (0 < (p0.length : Int))) == true)) (bAt p0 0) :: gB (true && ((decide (0 < (p0.length : Int))) == true)) ((bAt p0 0) == 45) :: eB x22 :: []) ?_ ?_
 exact om h0 <| op (fun Q U W H D=> of_len_str ((f_v0.fr W).eq (D.g 0 Z)) Try.underlying9) <| op (fun Q U W H D=> of_gtr (D.g 0 Z) Z) <| ov <| gm 3 true h0 <| og 3 true (fun G Q U W H D=> of_strIndex ((f_v0.fr W).eq (D.h 0 G Z)) Z Try.underlying9 (gd e21 G)) <| og 3 true (fun G Q U W H D=> of_eql (D.h 0 G Z) Z) <| op (fun Q U W H D=> of_pick (decide (0 < (p0.length : Int))) (D.g 0 Z) (fun hc=> by have a1 : Q 43 = .bool ((bAt p0 0) == 45) := D 1 _ _ _ Z Z Z Z (g_and Z (beq_of hc)); show _ = Value.bool x22; rw [q23, hc]; exact a1) (fun hc=> by show _ = Value.bool x22; rw [q23, hc]; exact Z)) <| oz
 intro R w m n p d j
 obtain ⟨h0, h4, h5⟩ := k3 n h0 h4 h5
 have h44 := p.r 7 Z
 replace f_v0 := f_v0.fr m
 refine HT.cond x22 h44 (fun c24 => ?_) (fun c24 => ?_)
 have c := cnd_t c24 c
 obtain ⟨e25, c⟩ := ck_some c
 refine HT.u d j (eI s3.1 :: eI (0 - s3.1) :: eI (0 - s3.1) :: []) ?_ ?_
 exact om h4 <| op (fun Q U W H D=> of_neg (D.g 0 Z) e25) <| oa <| oz
 intro R w m n p d j
 obtain ⟨h0, h5⟩ := k2 n h0 h5
 have h4 := p.r 2 Z
 replace f_v0 := f_v0.fr m
 refine HT.seq ?_
 refine HT.seq ?_
 obtain ⟨x26, q27, c⟩ := bd_some c
 obtain ⟨x28, q29, c⟩ := cl_some c
 obtain ⟨x30, q31, c⟩ := bd_some c
 refine HT.u d j (eI s3.2 :: eB (decide (9 < s3.2)) :: eB (decide (9 < s3.2)) :: gR (true && ((decide (9 < s3.2)) == false)) v0 :: gI (true && ((decide (9 < s3.2)) == false)) (p0.length : Int) :: gB (true && ((decide (9 < s3.2)) == false)) (decide (10 < (p0.length : Int))) :: eB x26 :: eB x26 :: gI (true && (x26 == false)) (0 - s3.1) :: gF (true && (x26 == false)) (.rep eStr A x28) :: gR (true && (x26 == false)) v0 :: gB (true && (x26 == false)) (!(x28 == p0)) :: eB x30 :: []) ?_ ?_
 exact om h5 <| op (fun Q U W H D=> of_gtr (D.g 0 Z) Z) <| ov <| gm 2 false h0 <| og 2 false (fun G Q U W H D=> of_len_str ((f_v0.fr W).eq (D.h 0 G Z)) Try.underlying9) <| og 2 false (fun G Q U W H D=> of_gtr (D.h 0 G Z) Z) <| op (fun Q U W H D=> of_pick (decide (9 < s3.2)) (D.g 0 Z) (fun hc=> by show _ = Value.bool x26; rw [q27, hc]; exact Z) (fun hc=> by have a2 : Q 52 = .bool (decide (10 < (p0.length : Int))) := D 1 _ _ _ Z Z Z Z (g_and Z (beq_of hc)); show _ = Value.bool x26; rw [q27, hc]; exact a2)) <| ov <| gm 7 false h4 <| og 7 false (fun G Q U W H D=> of_call Try.call146 (M_spec_FormatInt_ok (q29 G) (d.fr W.size) (D.h 0 G Z))) <| gm 7 false h0 <| og 7 false (fun G Q U W H D=> of_sneq (D.h 0 G Z) ((f_v0.fr W).eq (D.h 1 G Z))) <| op (fun Q U W H D=> of_pick x26 (D.g 0 Z) (fun hc=> by show _ = Value.bool x30; rw [q31, hc]; exact Z) (fun hc=> by have a2 : Q 58 = .bool (!(x28 == p0)) := D 1 _ _ _ Z Z Z Z (g_and Z (beq_of hc)); show _ = Value.bool x30; rw [q31, hc]; exact a2)) <| oz
 intro R w m n p d j
 replace h4 := k1 n h4
 have h59 := p.r 12 Z
 refine HT.cond x30 h59 (fun c32 => ?_) (fun c32 => ?_)
 have c := cnd_t c32 c
 refine HT.su d j (eI 0 :: eB false :: []) ?_ ?_
 exact op (fun Q U W H D=> of_assign Z) <| op (fun Q U W H D=> of_assign Z) <| oz
 intro R w m n p d j
 have h2 := p.r 0 Z
 have h3 := p.r 1 Z
 refine HT.ret ?_
 obtain rfl := si c
 exact ⟨.inr Z, [R 2, R 3], ⟨Z, ⟨Z, N⟩⟩, ⟨_, _, Z, h2, h3⟩, j⟩
 have c := cnd_f c32 c
 refine HT.skip ?_
 refine HT.su d j (eI (0 - s3.1) :: eI (0 - s3.1) :: eB true :: []) ?_ ?_
 exact om h4 <| oa <| op (fun Q U W H D=> of_assign Z) <| oz
 intro R w m n p d j
 have h2 := p.r 1 Z
 have h3 := p.r 2 Z
 refine HT.ret ?_
 obtain rfl := si c
 exact ⟨.inr Z, [R 2, R 3], ⟨Z, ⟨Z, N⟩⟩, ⟨_, _, Z, h2, h3⟩, j⟩
 have c := cnd_f c24 c
 refine HT.skip ?_
 refine HT.seq ?_
 refine HT.seq ?_
 obtain ⟨x33, q34, c⟩ := bd_some c
 obtain ⟨x35, q36, c⟩ := cl_some c
 obtain ⟨x37, q38, c⟩ := bd_some c
 refine HT.u d j (eI s3.2 :: eB (decide (9 < s3.2)) :: eB (decide (9 < s3.2)) :: gR (true && ((decide (9 < s3.2)) == false)) v0 :: gI (true && ((decide (9 < s3.2)) == false)) (p0.length : Int) :: gB (true && ((decide (9 < s3.2)) == false)) (decide (10 < (p0.length : Int))) :: eB x33 :: eB x33 :: gI (true && (x33 == false)) s3.1 :: gF (true && (x33 == false)) (.rep eStr A x35) :: gR (true && (x33 == false)) v0 :: gB (true && (x33 == false)) (!(x35 == p0)) :: eB x37 :: []) ?_ ?_
 exact om h5 <| op (fun Q U W H D=> of_gtr (D.g 0 Z) Z) <| ov <| gm 2 false h0 <| og 2 false (fun G Q U W H D=> of_len_str ((f_v0.fr W).eq (D.h 0 G Z)) Try.underlying9) <| og 2 false (fun G Q U W H D=> of_gtr (D.h 0 G Z) Z) <| op (fun Q U W H D=> of_pick (decide (9 < s3.2)) (D.g 0 Z) (fun hc=> by show _ = Value.bool x33; rw [q34, hc]; exact Z) (fun hc=> by have a2 : Q 52 = .bool (decide (10 < (p0.length : Int))) := D 1 _ _ _ Z Z Z Z (g_and Z (beq_of hc)); show _ = Value.bool x33; rw [q34, hc]; exact a2)) <| ov <| gm 7 false h4 <| og 7 false (fun G Q U W H D=> of_call Try.call146 (M_spec_FormatInt_ok (q36 G) (d.fr W.size) (D.h 0 G Z))) <| gm 7 false h0 <| og 7 false (fun G Q U W H D=> of_sneq (D.h 0 G Z) ((f_v0.fr W).eq (D.h 1 G Z))) <| op (fun Q U W H D=> of_pick x33 (D.g 0 Z) (fun hc=> by show _ = Value.bool x37; rw [q38, hc]; exact Z) (fun hc=> by have a2 : Q 58 = .bool (!(x35 == p0)) := D 1 _ _ _ Z Z Z Z (g_and Z (beq_of hc)); show _ = Value.bool x37; rw [q38, hc]; exact a2)) <| oz
 intro R w m n p d j
 replace h4 := k1 n h4
 have h59 := p.r 12 Z
 refine HT.cond x37 h59 (fun c39 => ?_) (fun c39 => ?_)
 have c := cnd_t c39 c
 refine HT.su d j (eI 0 :: eB false :: []) ?_ ?_
 exact op (fun Q U W H D=> of_assign Z) <| op (fun Q U W H D=> of_assign Z) <| oz
 intro R w m n p d j
 have h2 := p.r 0 Z
 have h3 := p.r 1 Z
 refine HT.ret ?_
 obtain rfl := si c
 exact ⟨.inr Z, [R 2, R 3], ⟨Z, ⟨Z, N⟩⟩, ⟨_, _, Z, h2, h3⟩, j⟩
 have c := cnd_f c39 c
 refine HT.skip ?_
 refine HT.su d j (eI s3.1 :: eI s3.1 :: eB true :: []) ?_ ?_
 exact om h4 <| oa <| op (fun Q U W H D=> of_assign Z) <| oz
 intro R w m n p d j
 have h2 := p.r 1 Z
 have h3 := p.r 2 Z
 refine HT.ret ?_
 obtain rfl := si c
 exact ⟨.inr Z, [R 2, R 3], ⟨Z, ⟨Z, N⟩⟩, ⟨_, _, Z, h2, h3⟩, j⟩
def M_spec_l14Test_L0 (fu : Nat) (p0 : List UInt8) : Nat → Int → T_impl_Test → Option (Ex T_impl_Test T_impl_Test)
 | 0, _, _ => none
 | k + 1, y5, y6 =>
 bif (decide (y5 < 6)) then (
 cl true (M_spec_FeatureName fu y5) fun x8 =>
 ck (!(true && ((decide ((x8.length : Int) < (p0.length : Int))) == true)) || subR 0 (x8.length : Int) p0.length) <|
 bd ((decide ((x8.length : Int) < (p0.length : Int))) && ((subL p0 0 (x8.length : Int)) == x8)) fun x12 =>
 bif x12 then (
 ck (subR (x8.length : Int) (p0.length : Int) p0.length) <|
 ck (inR 0 (subL p0 (x8.length : Int) (p0.length : Int)).length) <|
 bif ((bAt (subL p0 (x8.length : Int) (p0.length : Int)) 0) == 60) then (
 ck (subR 1 ((subL p0 (x8.length : Int) (p0.length : Int)).length : Int) (subL p0 (x8.length : Int) (p0.length : Int)).length) <|
 cl true (M_spec_ParseInt fu (subL (subL p0 (x8.length : Int) (p0.length : Int)) 1 ((subL p0 (x8.length : Int) (p0.length : Int)).length : Int))) fun x20 =>
 some (Ex.ret (y5, x20.1, true))
 ) else (
 ck (!(true && ((decide (2 < ((subL p0 (x8.length : Int) (p0.length : Int)).length : Int))) == true)) || subR 0 2 (subL p0 (x8.length : Int) (p0.length : Int)).length) <|
 bd ((decide (2 < ((subL p0 (x8.length : Int) (p0.length : Int)).length : Int))) && ((subL (subL p0 (x8.length : Int) (p0.length : Int)) 0 2) == ([62, 61] : List UInt8))) fun x25 =>
 bif x25 then (
 ck (subR 2 ((subL p0 (x8.length : Int) (p0.length : Int)).length : Int) (subL p0 (x8.length : Int) (p0.length : Int)).length) <|
 cl true (M_spec_ParseInt fu (subL (subL p0 (x8.length : Int) (p0.length : Int)) 2 ((subL p0 (x8.length : Int) (p0.length : Int)).length : Int))) fun x29 =>
 some (Ex.ret (y5, x29.1, false))
 ) else (
 ck (i64B (y5 + 1)) <|
 M_spec_l14Test_L0 fu p0 k (y5 + 1) y6
 )
 )
 ) else (
 ck (i64B (y5 + 1)) <|
 M_spec_l14Test_L0 fu p0 k (y5 + 1) y6
 )
 ) else (
 some (Ex.go y6)
 )
def M_spec_l14Test (fu : Nat) (p0 : List UInt8) : Option T_impl_Test :=
 cl true (M_spec_l14Test_L0 fu p0 fu 0 (0, (0, false))) fun rl2 =>
 exM rl2 (fun r => some r) fun s4 =>
 some (0, 0, false)
set_option linter.unusedSimpArgs false in
theorem M_spec_l14Test_ok {fu : Nat} {A0 : Av} {p0 : List UInt8} {r : T_impl_Test} (c : M_spec_l14Test fu p0 = some r) {w : World} {v0 : Value} (d : AvOK A0 w) (h0 : Rep eStr A0 w v0 p0) :
 Calls Try.prog 140 #[v0] w fun e w' => ∃ v, e = .returned v ∧ (Rep E_impl_Test A0 w' v r ∧ Fr w w') := by
 unfold M_spec_l14Test at c
 obtain ⟨w0,hw0,j,C⟩ := pw d
 have hA00 : AvOK A0 w0 := C
 rw [fw hw0]
 obtain ⟨A,hAe,B,d,q⟩ := pa d
 refine calls_of_HT2 [.cell 2 82] Try.func140 Try.ntmps140 (by decide) Z Z (nb Z) ?_
 intro R hR
 have f_v0 : Rep eStr A w v0 p0 := hAe ▸ h0
 replace h0 : R 0 = v0 := hR 0 _ Z
 refine HT.sx [] (⟨_, true, [], some (.box w0.heap.size 82 E_impl_Test (0, (0, false))), true, fun A => .any⟩ :: []) (ua (UAll.nil)) q d ?_ ?_
 exact rc (OblR.made _ Z Z Z Z fun V Q U O D=> by exact made_alloc Try.zeroValue82 (fun A w=> rep_pr rep1_int (rep_pr rep1_int rep1_bool)) (Nat.le_trans j.size O.ch.size)) <| rz
 intro done ρ σ A R w y s
 replace h0 := k1 s.rg h0
 obtain ⟨b2_0, e_b2_0⟩ := s.boxv y 0 Z Z
 have h2 := s.ov y 0 0 e_b2_0
 replace f_v0 := f_v0.stp s.stp
 obtain ⟨B,j,d⟩ := s.s B C j q N
 replace q := s.left y [(0, ob (.pointer (some ⟨b2_0, 0, none⟩)) (.box w0.heap.size 82 E_impl_Test (0, (0, false))))] ⟨Z, Z, e_b2_0, Z, Z, N⟩
 refine HT.seq ?_
 refine HT.su d j (eI 0 :: []) ?_ ?_
 exact op (fun Q U W H D=> of_assign Z) <| oz
 intro R w m n p d j
 obtain ⟨h0, h2⟩ := k2 n h0 h2
 have h3 := p.r 0 Z
 replace f_v0 := f_v0.fr m
 replace q := q.fr m
 obtain ⟨rl2, q3, c⟩ := cl_some c
 replace q3 := q3 Z
 refine HT.cut0 (fun R w => ∃ A : Av, ∃ (s4 : T_impl_Test), rl2 = Ex.go s4 ∧ AvOK A w ∧ Fr w0 w ∧ (∀ b o, A0 b o → A b o) ∧ IniOK [ob (.pointer (some ⟨b2_0, 0, none⟩)) (.box w0.heap.size 82 E_impl_Test s4)] A w ∧ R 2 = (.pointer (some ⟨b2_0, 0, none⟩))) ?_ ?_
 refine HT.block ?_
 refine HT.loop (fun k R w => ∃ A : Av, ∃ (y5 : Int) (y6 : T_impl_Test), M_spec_l14Test_L0 fu p0 k y5 y6 = some rl2 ∧ AvOK A w ∧ Fr w0 w ∧ (∀ b o, A0 b o → A b o) ∧ IniOK [ob (.pointer (some ⟨b2_0, 0, none⟩)) (.box w0.heap.size 82 E_impl_Test y6)] A w ∧ R 0 = v0 ∧ R 2 = (.pointer (some ⟨b2_0, 0, none⟩)) ∧ R 3 = .int .i64 y5 ∧ Rep eStr A w v0 p0) fu ⟨_, _, _, q3, d, j, B, q, h0, h2, h3, f_v0⟩ ?_
 have hr0 := c; clear c q3
 rintro k R w ⟨A, y5, y6, c, d, j, B, q, h0, h2, h3, f_v0⟩
 rcases k with _ | k
 cases (show none = some _ from c)
 rw [M_spec_l14Test_L0] at c
 refine HT.seq ?_
 refine HT.su d j (eI y5 :: eB (decide (y5 < 6)) :: []) ?_ ?_
 exact om h3 <| op (fun Q U W H D=> of_lss (D.g 0 Z) Z) <| oz
 intro R w m n p d j
 obtain ⟨h0, h2, h3⟩ := k3 n h0 h2 h3
 have h11 := p.r 1 Z
 replace f_v0 := f_v0.fr m
 replace q := q.fr m
 refine HT.cond (decide (y5 < 6)) h11 (fun c7 => ?_) (fun c7 => ?_)
 have c := cnd_t c7 c
 refine HT.skip ?_
 refine HT.seq ?_
 refine HT.block ?_
 obtain ⟨x8, q9, c⟩ := cl_some c
 refine HT.su d j (eI y5 :: eF (.rep eStr A x8) :: eF (.rep eStr A x8) :: []) ?_ ?_
 exact om h3 <| op (fun Q U W H D=> of_call Try.call144 (M_spec_FeatureName_ok (q9 Z) (d.fr W.size) (D.g 0 Z))) <| op (fun Q U W H D=> of_assign (D.g 0 Z)) <| oz
 intro R w m n p d j
 obtain ⟨h0, h2, h3⟩ := k3 n h0 h2 h3
 obtain ⟨u10, h4, f_u10⟩ : ∃ u, R 4 = u ∧ Rep eStr A w u x8 := ⟨_, Z, p 2 _ _ Z Z Z⟩
 replace f_v0 := f_v0.fr m
 replace q := q.fr m
 refine HT.seq ?_
 obtain ⟨e11, c⟩ := ck_some c
 obtain ⟨x12, q13, c⟩ := bd_some c
 refine HT.u d j (eR v0 :: eI (p0.length : Int) :: eR u10 :: eI (x8.length : Int) :: eB (decide ((x8.length : Int) < (p0.length : Int))) :: eB (decide ((x8.length : Int) < (p0.length : Int))) :: gR (true && ((decide ((x8.length : Int) < (p0.length : Int))) == true)) v0 :: gR (true && ((decide ((x8.length : Int) < (p0.length : Int))) == true)) u10 :: gI (true && ((decide ((x8.length : Int) < (p0.length : Int))) == true)) (x8.length : Int) :: gF (true && ((decide ((x8.length : Int) < (p0.length : Int))) == true)) (.rep eStr A (subL p0 0 (x8.length : Int))) :: gR (true && ((decide ((x8.length : Int) < (p0.length : Int))) == true)) u10 :: gB (true && ((decide ((x8.length : Int) < (p0.length : Int))) == true)) ((subL p0 0 (x8.length : Int)) == x8) :: eB x12 :: []) ?_ ?_
 exact om h0 <| op (fun Q U W H D=> of_len_str ((f_v0.fr W).eq (D.g 0 Z)) Try.underlying9) <| om h4 <| op (fun Q U W H D=> of_len_str ((f_u10.fr W).eq (D.g 0 Z)) Try.underlying9) <| op (fun Q U W H D=> of_gtr (D.g 0 Z) (D.g 1 Z)) <| ov <| gm 5 true h0 <| gm 5 true h4 <| og 5 true (fun G Q U W H D=> of_len_str ((f_u10.fr W).eq (D.h 0 G Z)) Try.underlying9) <| og 5 true (fun G Q U W H D=> of_slice_str_hi ((f_v0.fr W).eq (D.h 0 G Z)) (D.h 1 G Z) Try.underlying9  (gd e11 G)) <| gm 5 true h4 <| og 5 true (fun G Q U W H D=> of_seql (D.h 0 G Z) ((f_u10.fr W).eq (D.h 1 G Z))) <| op (fun Q U W H D=> of_pick (decide ((x8.length : Int) < (p0.length : Int))) (D.g 0 Z) (fun hc=> by have a1 : Q 27 = .bool ((subL p0 0 (x8.length : Int)) == x8) := D 1 _ _ _ Z Z Z Z (g_and Z (beq_of hc)); show _ = Value.bool x12; rw [q13, hc]; exact a1) (fun hc=> by show _ = Value.bool x12; rw [q13, hc]; exact Z)) <| oz
 intro R w m n p d j
 obtain ⟨h0, h2, h3, h4⟩ := k4 n h0 h2 h3 h4
 have h28 := p.r 12 Z
 replace f_u10 := f_u10.fr m
 replace f_v0 := f_v0.fr m
 replace q := q.fr m
 refine HT.cond x12 h28 (fun c14 => ?_) (fun c14 => ?_)
 have c := cnd_t c14 c
 obtain ⟨e15, c⟩ := ck_some c
 refine HT.su d j (eR v0 :: eR u10 :: eI (x8.length : Int) :: eF (.rep eStr A (subL p0 (x8.length : Int) (p0.length : Int))) :: eF (.rep eStr A (subL p0 (x8.length : Int) (p0.length : Int))) :: []) ?_ ?_
 exact om h0 <| om h4 <| op (fun Q U W H D=> of_len_str ((f_u10.fr W).eq (D.g 0 Z)) Try.underlying9) <| op (fun Q U W H D=> of_slice_str_lo ((f_v0.fr W).eq (D.g 0 Z)) (D.g 1 Z) Try.underlying9  e15) <| op (fun Q U W H D=> of_assign (D.g 0 Z)) <| oz
 intro R w m n p d j
 obtain ⟨h0, h2, h3⟩ := k3 n h0 h2 h3
 obtain ⟨u16, h5, f_u16⟩ : ∃ u, R 5 = u ∧ Rep eStr A w u (subL p0 (x8.length : Int) (p0.length : Int)) := ⟨_, Z, p 4 _ _ Z Z Z⟩
 replace f_v0 := f_v0.fr m
 replace q := q.fr m
 refine HT.seq ?_
 obtain ⟨e17, c⟩ := ck_some c
 refine HT.su d j (eR u16 :: eU (bAt (subL p0 (x8.length : Int) (p0.length : Int)) 0) :: eB ((bAt (subL p0 (x8.length : Int) (p0.length : Int)) 0) == 60) :: []) ?_ ?_
 exact om h5 <| op (fun Q U W H D=> of_strIndex ((f_u16.fr W).eq (D.g 0 Z)) Z Try.underlying9 e17) <| op (fun Q U W H D=> of_eql (D.g 0 Z) Z) <| oz
 intro R w m n p d j
 obtain ⟨h0, h2, h3, h5⟩ := k4 n h0 h2 h3 h5
 have h35 := p.r 2 Z
 replace f_u16 := f_u16.fr m
 replace f_v0 := f_v0.fr m
 replace q := q.fr m
 refine HT.cond ((bAt (subL p0 (x8.length : Int) (p0.length : Int)) 0) == 60) h35 (fun c18 => ?_) (fun c18 => ?_)
 have c := cnd_t c18 c
 obtain ⟨e19, c⟩ := ck_some c
 obtain ⟨x20, q21, c⟩ := cl_some c
 refine HT.su d j (eR u16 :: eF (.rep eStr A (subL (subL p0 (x8.length : Int) (p0.length : Int)) 1 ((subL p0 (x8.length : Int) (p0.length : Int)).length : Int))) :: eF (.tup2 (.raw (.int .i64 x20.1)) (.raw (.bool x20.2))) :: eF (.tup2 (.raw (.int .i64 x20.1)) (.raw (.bool x20.2))) :: eI x20.1 :: eB x20.2 :: eI x20.1 :: eB x20.2 :: []) ?_ ?_
 exact om h5 <| op (fun Q U W H D=> of_slice_str_lo ((f_u16.fr W).eq (D.g 0 Z)) Z Try.underlying9  e19) <| op (fun Q U W H D=> of_call Try.call145 (M_spec_ParseInt_ok (q21 Z) (d.fr W.size) (D.g 0 Z))) <| op (fun Q U W H D=> of_move (D.g 0 Z)) <| op (fun Q U W H D=> of_extract2_0 (D.g 0 Z)) <| op (fun Q U W H D=> of_extract2_1 (D.g 0 Z)) <| oa <| oa <| oz
 intro R w m n p d j
 obtain ⟨h2, h3⟩ := k2 n h2 h3
 have h6 := p.r 6 Z
 replace q := q.fr m
 refine HT.sx [ob (.pointer (some ⟨b2_0, 0, none⟩)) (.box w0.heap.size 82 E_impl_Test y6)] (rI y5 :: rI x20.1 :: (rF fun A => .rep E_impl_Test A (y5, x20.1, true)) :: ⟨_, true, [0], some (.box w0.heap.size 82 E_impl_Test (y5, x20.1, true)), false, fun A => .any⟩ :: []) (ur (ur (up (ua (UAll.nil))))) q d ?_ ?_
 exact rm h3 <| rm h6 <| rp (fun V Q U O D=> by have a0 : Q 42 = .int .i64 y5 := D.g 0 Z; have a1 : Q 43 = .int .i64 x20.1 := D.g 1 Z; exact of_build_raw (v := .agg #[.int .i64 y5, .int .i64 x20.1, .bool true]) (by simp [execOp, Instr.build, evalR, a0, a1, underlying, Try.underlying82, Try.zeroValue82, Try.sizeOf3, Try.sizeOf4, go_sem, Instr.fill]) ⟨_, Z, rep_pr rep1_int (rep_pr rep1_int rep1_bool)⟩) <| rc (OblR.took 0 _ _ Z Z Z Z Z fun V Q U O D u X Y J L M=> by have a0 : Q 2 = (.pointer (some ⟨b2_0, 0, none⟩)) := (O.old 2 Z).trans h2; have a1 : Rep E_impl_Test V U (Q 44) (y5, x20.1, true) := D.g 0 Z; exact took_store a1 a0 (J _ Z) X Y (FldS.id _) Try.sizeOf82 Z) <| rz
 intro done ρ σ A R w y s
 replace h2 := k1 s.rg h2
 have z22 := s.inivR 0 Z
 have z23 := s.on y 4 3 Z Z Z Z Z z22
 obtain ⟨B,j,d⟩ := s.s B C j q ⟨Z, N⟩
 replace q := s.left y [(4, ob (.pointer (some ⟨b2_0, 0, none⟩)) (.box w0.heap.size 82 E_impl_Test (y5, x20.1, true)))] ⟨Z, Z, z23, Z, Z, N⟩
 refine HT.ret ?_
 obtain rfl := si c
 have c := hr0
 replace c : some _ = some _ := c
 obtain rfl := si c
 obtain ⟨v_2, e_2, p_2⟩ := res_cell (q.ok 0 _ Z).1 h2 Try.isAgg82 Try.sizeOf82 B
 exact ⟨.inr Z, [v_2], ⟨e_2, N⟩, p_2, j⟩
 have c := cnd_f c18 c
 refine HT.skip ?_
 refine HT.seq ?_
 obtain ⟨e24, c⟩ := ck_some c
 obtain ⟨x25, q26, c⟩ := bd_some c
 refine HT.u d j (eR u16 :: eI ((subL p0 (x8.length : Int) (p0.length : Int)).length : Int) :: eB (decide (2 < ((subL p0 (x8.length : Int) (p0.length : Int)).length : Int))) :: eB (decide (2 < ((subL p0 (x8.length : Int) (p0.length : Int)).length : Int))) :: gR (true && ((decide (2 < ((subL p0 (x8.length : Int) (p0.length : Int)).length : Int))) == true)) u16 :: gF (true && ((decide (2 < ((subL p0 (x8.length : Int) (p0.length : Int)).length : Int))) == true)) (.rep eStr A (subL (subL p0 (x8.length : Int) (p0.length : Int)) 0 2)) :: gB (true && ((decide (2 < ((subL p0 (x8.length : Int) (p0.length : Int)).length : Int))) == true)) ((subL (subL p0 (x8.length : Int) (p0.length : Int)) 0 2) == ([62, 61] : List UInt8)) :: eB x25 :: []) ?_ ?_
 exact om h5 <| op (fun Q U W H D=> of_len_str ((f_u16.fr W).eq (D.g 0 Z)) Try.underlying9) <| op (fun Q U W H D=> of_gtr (D.g 0 Z) Z) <| ov <| gm 3 true h5 <| og 3 true (fun G Q U W H D=> of_slice_str_hi ((f_u16.fr W).eq (D.h 0 G Z)) Z Try.underlying9  (gd e24 G)) <| og 3 true (fun G Q U W H D=> of_seql (D.h 0 G Z) ⟨_, Z, ⟨_, Z, Z, by decide⟩⟩) <| op (fun Q U W H D=> of_pick (decide (2 < ((subL p0 (x8.length : Int) (p0.length : Int)).length : Int))) (D.g 0 Z) (fun hc=> by have a1 : Q 51 = .bool ((subL (subL p0 (x8.length : Int) (p0.length : Int)) 0 2) == ([62, 61] : List UInt8)) := D 1 _ _ _ Z Z Z Z (g_and Z (beq_of hc)); show _ = Value.bool x25; rw [q26, hc]; exact a1) (fun hc=> by show _ = Value.bool x25; rw [q26, hc]; exact Z)) <| oz
 intro R w m n p d j
 obtain ⟨h0, h2, h3, h5⟩ := k4 n h0 h2 h3 h5
 have h52 := p.r 7 Z
 replace f_u16 := f_u16.fr m
 replace f_v0 := f_v0.fr m
 replace q := q.fr m
 refine HT.cond x25 h52 (fun c27 => ?_) (fun c27 => ?_)
 have c := cnd_t c27 c
 obtain ⟨e28, c⟩ := ck_some c
 obtain ⟨x29, q30, c⟩ := cl_some c
 refine HT.su d j (eR u16 :: eF (.rep eStr A (subL (subL p0 (x8.length : Int) (p0.length : Int)) 2 ((subL p0 (x8.length : Int) (p0.length : Int)).length : Int))) :: eF (.tup2 (.raw (.int .i64 x29.1)) (.raw (.bool x29.2))) :: eF (.tup2 (.raw (.int .i64 x29.1)) (.raw (.bool x29.2))) :: eI x29.1 :: eB x29.2 :: eI x29.1 :: eB x29.2 :: []) ?_ ?_
 exact om h5 <| op (fun Q U W H D=> of_slice_str_lo ((f_u16.fr W).eq (D.g 0 Z)) Z Try.underlying9  e28) <| op (fun Q U W H D=> of_call Try.call145 (M_spec_ParseInt_ok (q30 Z) (d.fr W.size) (D.g 0 Z))) <| op (fun Q U W H D=> of_move (D.g 0 Z)) <| op (fun Q U W H D=> of_extract2_0 (D.g 0 Z)) <| op (fun Q U W H D=> of_extract2_1 (D.g 0 Z)) <| oa <| oa <| oz
 intro R w m n p d j
 obtain ⟨h2, h3⟩ := k2 n h2 h3
 have h8 := p.r 6 Z
 replace q := q.fr m
 refine HT.sx [ob (.pointer (some ⟨b2_0, 0, none⟩)) (.box w0.heap.size 82 E_impl_Test y6)] (rI y5 :: rI x29.1 :: (rF fun A => .rep E_impl_Test A (y5, x29.1, false)) :: ⟨_, true, [0], some (.box w0.heap.size 82 E_impl_Test (y5, x29.1, false)), false, fun A => .any⟩ :: []) (ur (ur (up (ua (UAll.nil))))) q d ?_ ?_
 exact rm h3 <| rm h8 <| rp (fun V Q U O D=> by have a0 : Q 59 = .int .i64 y5 := D.g 0 Z; have a1 : Q 60 = .int .i64 x29.1 := D.g 1 Z; exact of_build_raw (v := .agg #[.int .i64 y5, .int .i64 x29.1, .bool false]) (by simp [execOp, Instr.build, evalR, a0, a1, underlying, Try.underlying82, Try.zeroValue82, Try.sizeOf3, Try.sizeOf4, go_sem, Instr.fill]) ⟨_, Z, rep_pr rep1_int (rep_pr rep1_int rep1_bool)⟩) <| rc (OblR.took 0 _ _ Z Z Z Z Z fun V Q U O D u X Y J L M=> by have a0 : Q 2 = (.pointer (some ⟨b2_0, 0, none⟩)) := (O.old 2 Z).trans h2; have a1 : Rep E_impl_Test V U (Q 61) (y5, x29.1, false) := D.g 0 Z; exact took_store a1 a0 (J _ Z) X Y (FldS.id _) Try.sizeOf82 Z) <| rz
 intro done ρ σ A R w y s
 replace h2 := k1 s.rg h2
 have z31 := s.inivR 0 Z
 have z32 := s.on y 4 3 Z Z Z Z Z z31
 obtain ⟨B,j,d⟩ := s.s B C j q ⟨Z, N⟩
 replace q := s.left y [(4, ob (.pointer (some ⟨b2_0, 0, none⟩)) (.box w0.heap.size 82 E_impl_Test (y5, x29.1, false)))] ⟨Z, Z, z32, Z, Z, N⟩
 refine HT.ret ?_
 obtain rfl := si c
 have c := hr0
 replace c : some _ = some _ := c
 obtain rfl := si c
 obtain ⟨v_2, e_2, p_2⟩ := res_cell (q.ok 0 _ Z).1 h2 Try.isAgg82 Try.sizeOf82 B
 exact ⟨.inr Z, [v_2], ⟨e_2, N⟩, p_2, j⟩
 have c := cnd_f c27 c
 refine HT.skip ?_
 obtain ⟨e33, c⟩ := ck_some c
 refine HT.u d j (eI y5 :: eI (y5 + 1) :: eI (y5 + 1) :: []) ?_ ?_
 exact om h3 <| op (fun Q U W H D=> of_add (D.g 0 Z) Z e33) <| oa <| oz
 intro R w m n p d j
 obtain ⟨h0, h2⟩ := k2 n h0 h2
 have h3 := p.r 2 Z
 replace f_v0 := f_v0.fr m
 replace q := q.fr m
 exact ei k (And.intro (Nat.lt_succ_self k) ⟨_, _, _, c, d, j, B, q, h0, h2, h3, f_v0⟩)
 have c := cnd_f c14 c
 refine HT.skip ?_
 obtain ⟨e34, c⟩ := ck_some c
 refine HT.u d j (eI y5 :: eI (y5 + 1) :: eI (y5 + 1) :: []) ?_ ?_
 exact om h3 <| op (fun Q U W H D=> of_add (D.g 0 Z) Z e34) <| oa <| oz
 intro R w m n p d j
 obtain ⟨h0, h2⟩ := k2 n h0 h2
 have h3 := p.r 2 Z
 replace f_v0 := f_v0.fr m
 replace q := q.fr m
 exact ei k (And.intro (Nat.lt_succ_self k) ⟨_, _, _, c, d, j, B, q, h0, h2, h3, f_v0⟩)
 have c := cnd_f c7 c
 refine HT.exit ?_
 obtain rfl := si c
 exact ei _ ⟨_, Z, d, j, B, q, h2⟩
 rintro R w ⟨A, s4, rfl, d, j, B, q, h2⟩
 have c := exM_go c
 refine HT.sx [ob (.pointer (some ⟨b2_0, 0, none⟩)) (.box w0.heap.size 82 E_impl_Test s4)] ((rF fun A => .rep E_impl_Test A (0, 0, false)) :: ⟨_, true, [0], some (.box w0.heap.size 82 E_impl_Test (0, 0, false)), false, fun A => .any⟩ :: []) (up (ua (UAll.nil))) q d ?_ ?_
 exact rp (fun V Q U O D=> of_build_raw (v := .agg #[.int .i64 0, .int .i64 0, .bool false]) (by simp [execOp, Instr.build, evalR, underlying, Try.underlying82, Try.zeroValue82, Try.sizeOf3, Try.sizeOf4, go_sem, Instr.fill]) ⟨_, Z, rep_pr rep1_int (rep_pr rep1_int rep1_bool)⟩) <| rc (OblR.took 0 _ _ Z Z Z Z Z fun V Q U O D u X Y J L M=> by have a0 : Q 2 = (.pointer (some ⟨b2_0, 0, none⟩)) := (O.old 2 Z).trans h2; have a1 : Rep E_impl_Test V U (Q 62) (0, 0, false) := D.g 0 Z; exact took_store a1 a0 (J _ Z) X Y (FldS.id _) Try.sizeOf82 Z) <| rz
 intro done ρ σ A R w y s
 replace h2 := k1 s.rg h2
 have z35 := s.inivR 0 Z
 have z36 := s.on y 2 1 Z Z Z Z Z z35
 obtain ⟨B,j,d⟩ := s.s B C j q ⟨Z, N⟩
 replace q := s.left y [(2, ob (.pointer (some ⟨b2_0, 0, none⟩)) (.box w0.heap.size 82 E_impl_Test (0, 0, false)))] ⟨Z, Z, z36, Z, Z, N⟩
 refine HT.ret ?_
 obtain rfl := si c
 obtain ⟨v_2, e_2, p_2⟩ := res_cell (q.ok 0 _ Z).1 h2 Try.isAgg82 Try.sizeOf82 B
 exact ⟨.inr Z, [v_2], ⟨e_2, N⟩, p_2, j⟩
def M_spec_IsValidRules_L1 (fu : Nat) (p0 : T_impl_RuleSet) (y5 : Int) : Nat → Int → Option (Ex Bool Unit)
 | 0, _ => none
 | k + 1, y12 =>
 bif (decide (y12 < ((gtD p0 y5).length : Int))) then (
 ck (inR y12 (gtD p0 y5).length) <|
 cl true (M_spec_l1In fu ((gtD (gtD p0 y5) y12).1) 0 5) fun x15 =>
 ck (!(true && ((!x15) == false)) || inR y12 (gtD p0 y5).length) <|
 cl (true && ((!x15) == false)) (M_spec_l1In fu ((gtD (gtD p0 y5) y12).2.1) 1 1000) fun x18 =>
 bd ((!x15) || (!x18)) fun x20 =>
 ck (!((true && (x20 == false)) && ((decide (0 < y12)) == true)) || i64B (y12 - 1)) <|
 ck (!((true && (x20 == false)) && ((decide (0 < y12)) == true)) || inR (y12 - 1) (gtD p0 y5).length) <|
 ck (!((true && (x20 == false)) && ((decide (0 < y12)) == true)) || inR y12 (gtD p0 y5).length) <|
 bd ((decide (0 < y12)) && (decide (((gtD (gtD p0 y5) y12).1) ≤ ((gtD (gtD p0 y5) (y12 - 1)).1)))) fun x25 =>
 bd (x20 || x25) fun x27 =>
 bif x27 then (
 some (Ex.ret false)
 ) else (
 ck (i64B (y12 + 1)) <|
 M_spec_IsValidRules_L1 fu p0 y5 k (y12 + 1)
 )
 ) else (
 some (Ex.go ())
 )
def M_spec_IsValidRules_L0 (fu : Nat) (p0 : T_impl_RuleSet) : Nat → Int → Option (Ex Bool Unit)
 | 0, _ => none
 | k + 1, y5 =>
 bif (decide (y5 < (p0.length : Int))) then (
 ck (inR y5 p0.length) <|
 cl true (M_spec_IsValidRules_L1 fu p0 y5 fu 0) fun rl9 =>
 exM rl9 (fun r => some (Ex.ret r)) fun s11 =>
 cl true (M_spec_l1In fu ((gtD p0 y5).length : Int) 1 3) fun x31 =>
 bif (!x31) then (
 some (Ex.ret false)
 ) else (
 ck (i64B (y5 + 1)) <|
 M_spec_IsValidRules_L0 fu p0 k (y5 + 1)
 )
 ) else (
 some (Ex.go ())
 )
def M_spec_IsValidRules (fu : Nat) (p0 : T_impl_RuleSet) : Option Bool :=
 cl true (M_spec_IsValidRules_L0 fu p0 fu 0) fun rl2 =>
 exM rl2 (fun r => some r) fun s4 =>
 cl true (M_spec_l1In fu (p0.length : Int) 1 3) fun x35 =>
 some x35
theorem M_spec_IsValidRules_ok {fu : Nat} {A0 : Av} {p0 : T_impl_RuleSet} {r : Bool} (c : M_spec_IsValidRules fu p0 = some r) {w : World} {v0 : Value} (d : AvOK A0 w) (h0 : Rep E_impl_RuleSet A0 w v0 p0) :
 Calls Try.prog 26 #[v0] w fun e w' => ∃ v, e = .returned v ∧ (v = .bool r ∧ Fr w w') := by
 unfold M_spec_IsValidRules at c
 obtain ⟨w0,hw0,j,C⟩ := pw d
 have hA00 : AvOK A0 w0 := C
 rw [fw hw0]
 obtain ⟨A,hAe,B,d,q⟩ := pa d
 refine calls_of_HT2 [.tmp 2] Try.func26 Try.ntmps26 (by decide) Z Z (nb Z) ?_
 intro R hR
 have f_v0 : Rep E_impl_RuleSet A w v0 p0 := hAe ▸ h0
 replace h0 : R 0 = v0 := hR 0 _ Z
 refine HT.sx [] (⟨_, true, [], some (.box w0.heap.size 29 E_impl_RuleSet p0), true, fun A => .any⟩ :: rB false :: []) (ua (ur (UAll.nil))) q d ?_ ?_
 exact rc (OblR.made _ Z Z Z Z fun V Q U O D=> by have a0 : Q 0 = v0 := (O.old 0 Z).trans h0; have ra0 := (f_v0.stp O.stp).eq a0; exact made_box ra0 (Nat.le_trans j.size O.ch.size)) <| rp (fun V Q U O D=> of_assign Z) <| rz
 intro done ρ σ A R w y s
 obtain ⟨b1_0, e_b1_0⟩ := s.boxv y 0 Z Z
 have h1 := s.ov y 0 0 e_b1_0
 obtain ⟨B,j,d⟩ := s.s B C j q N
 replace q := s.left y [(0, ob (.pointer (some ⟨b1_0, 0, none⟩)) (.box w0.heap.size 29 E_impl_RuleSet p0))] ⟨Z, Z, e_b1_0, Z, Z, N⟩
 refine HT.seq ?_
 refine HT.su d j (eI 0 :: []) ?_ ?_
 exact op (fun Q U W H D=> of_assign Z) <| oz
 intro R w m n p d j
 replace h1 := k1 n h1
 have h3 := p.r 0 Z
 replace q := q.fr m
 obtain ⟨rl2, q3, c⟩ := cl_some c
 replace q3 := q3 Z
 refine HT.cut0 (fun R w => ∃ A : Av, ∃ (s4 : Unit), rl2 = Ex.go s4 ∧ AvOK A w ∧ Fr w0 w ∧ (∀ b o, A0 b o → A b o) ∧ IniOK [ob (.pointer (some ⟨b1_0, 0, none⟩)) (.box w0.heap.size 29 E_impl_RuleSet p0)] A w ∧ R 1 = (.pointer (some ⟨b1_0, 0, none⟩))) ?_ ?_
 refine HT.block ?_
 refine HT.loop (fun k R w => ∃ A : Av, ∃ (y5 : Int), M_spec_IsValidRules_L0 fu p0 k y5 = some rl2 ∧ AvOK A w ∧ Fr w0 w ∧ (∀ b o, A0 b o → A b o) ∧ IniOK [ob (.pointer (some ⟨b1_0, 0, none⟩)) (.box w0.heap.size 29 E_impl_RuleSet p0)] A w ∧ R 1 = (.pointer (some ⟨b1_0, 0, none⟩)) ∧ R 3 = .int .i64 y5) fu ⟨_, _, q3, d, j, B, q, h1, h3⟩ ?_
 have hr0 := c; clear c q3
 rintro k R w ⟨A, y5, c, d, j, B, q, h1, h3⟩
 rcases k with _ | k
 cases (show none = some _ from c)
 rw [M_spec_IsValidRules_L0] at c
 refine HT.seq ?_
 refine HT.su d j (eI y5 :: eR (.pointer (some ⟨b1_0, 0, none⟩)) :: eF (.rep (eSl E_impl_Rule) A p0) :: eI (p0.length : Int) :: eB (decide (y5 < (p0.length : Int))) :: []) ?_ ?_
 exact om h3 <| op (fun Q U W H D=> of_fieldAddr_raw ((H 1 Z).trans h1) ff_29_0 Try.sizeOf27 (by decide) Z) <| op (fun Q U W H D=> (of_load_box ((q.fr W).ok 0 _ Z).1 (D.g 0 Z) fl_impl_RuleSet_0 Z Try.isAgg27 Try.sizeOf27)) <| op (fun Q U W H D=> of_len_sl (aT := #[]) (D.g 0 Z) Try.underlying27) <| op (fun Q U W H D=> of_lss (D.g 0 Z) (D.g 1 Z)) <| oz
 intro R w m n p d j
 obtain ⟨h1, h3⟩ := k2 n h1 h3
 have h10 := p.r 4 Z
 replace q := q.fr m
 refine HT.cond (decide (y5 < (p0.length : Int))) h10 (fun c6 => ?_) (fun c6 => ?_)
 have c := cnd_t c6 c
 refine HT.skip ?_
 refine HT.seq ?_
 refine HT.block ?_
 obtain ⟨e7, c⟩ := ck_some c
 refine HT.su d j (eR (.pointer (some ⟨b1_0, 0, none⟩)) :: eF (.rep (eSl E_impl_Rule) A p0) :: eI y5 :: eF (.qtr E_impl_Rule A (gtD p0 y5)) :: eF (.qtr (eSl E_impl_Test) A (gtD p0 y5)) :: eF (.rep (eSl E_impl_Test) A (gtD p0 y5)) :: eF (.rep (eSl E_impl_Test) A (gtD p0 y5)) :: []) ?_ ?_
 exact op (fun Q U W H D=> of_fieldAddr_raw ((H 1 Z).trans h1) ff_29_0 Try.sizeOf27 (by decide) Z) <| op (fun Q U W H D=> (of_load_box ((q.fr W).ok 0 _ Z).1 (D.g 0 Z) fl_impl_RuleSet_0 Z Try.isAgg27 Try.sizeOf27)) <| om h3 <| op (fun Q U W H D=> of_indexAddr (D.g 0 Z) (D.g 1 Z) Try.underlying27 Try.sizeOf79 e7) <| op (fun Q U W H D=> of_fieldAddr_q (qt (D.g 0 Z)) ff_79_0 Try.sizeOf65 (by decide) fl_impl_Rule_0 Z) <| op (fun Q U W H D=> (of_load (QRep.ptr (D.g 0 Z)) Try.isAgg65 Try.sizeOf65)) <| op (fun Q U W H D=> of_assign (D.g 0 Z)) <| oz
 intro R w m n p d j
 obtain ⟨h1, h3⟩ := k2 n h1 h3
 obtain ⟨u8, h4, f_u8⟩ : ∃ u, R 4 = u ∧ Rep (eSl E_impl_Test) A w u (gtD p0 y5) := ⟨_, Z, p 6 _ _ Z Z Z⟩
 replace q := q.fr m
 refine HT.seq ?_
 refine HT.su d j (eI 0 :: []) ?_ ?_
 exact op (fun Q U W H D=> of_assign Z) <| oz
 intro R w m n p d j
 obtain ⟨h1, h3, h4⟩ := k3 n h1 h3 h4
 have h5 := p.r 0 Z
 replace f_u8 := f_u8.fr m
 replace q := q.fr m
 obtain ⟨rl9, q10, c⟩ := cl_some c
 replace q10 := q10 Z
 refine HT.cut0 (fun R w => ∃ A : Av, ∃ (s11 : Unit), rl9 = Ex.go s11 ∧ AvOK A w ∧ Fr w0 w ∧ (∀ b o, A0 b o → A b o) ∧ IniOK [ob (.pointer (some ⟨b1_0, 0, none⟩)) (.box w0.heap.size 29 E_impl_RuleSet p0)] A w ∧ R 1 = (.pointer (some ⟨b1_0, 0, none⟩)) ∧ R 3 = .int .i64 y5 ∧ R 4 = u8 ∧ Rep (eSl E_impl_Test) A w u8 (gtD p0 y5)) ?_ ?_
 refine HT.block ?_
 refine HT.loop (fun k R w => ∃ A : Av, ∃ (y12 : Int), M_spec_IsValidRules_L1 fu p0 y5 k y12 = some rl9 ∧ AvOK A w ∧ Fr w0 w ∧ (∀ b o, A0 b o → A b o) ∧ IniOK [ob (.pointer (some ⟨b1_0, 0, none⟩)) (.box w0.heap.size 29 E_impl_RuleSet p0)] A w ∧ R 1 = (.pointer (some ⟨b1_0, 0, none⟩)) ∧ R 3 = .int .i64 y5 ∧ R 4 = u8 ∧ R 5 = .int .i64 y12 ∧ Rep (eSl E_impl_Test) A w u8 (gtD p0 y5)) fu ⟨_, _, q10, d, j, B, q, h1, h3, h4, h5, f_u8⟩ ?_
 have hr1 := c; clear c q10
 rintro k R w ⟨A, y12, c, d, j, B, q, h1, h3, h4, h5, f_u8⟩
 rcases k with _ | k
 cases (show none = some _ from c)
 rw [M_spec_IsValidRules_L1] at c
 refine HT.seq ?_
 refine HT.su d j (eI y12 :: eR u8 :: eI ((gtD p0 y5).length : Int) :: eB (decide (y12 < ((gtD p0 y5).length : Int))) :: []) ?_ ?_
 exact om h5 <| om h4 <| op (fun Q U W H D=> of_len_sl (aT := #[]) ((f_u8.fr W).eq (D.g 0 Z)) Try.underlying65) <| op (fun Q U W H D=> of_lss (D.g 0 Z) (D.g 1 Z)) <| oz
 intro R w m n p d j
 obtain ⟨h1, h3, h4, h5⟩ := k4 n h1 h3 h4 h5
 have h22 := p.r 3 Z
 replace f_u8 := f_u8.fr m
 replace q := q.fr m
 refine HT.cond (decide (y12 < ((gtD p0 y5).length : Int))) h22 (fun c13 => ?_) (fun c13 => ?_)
 have c := cnd_t c13 c
 refine HT.skip ?_
 refine HT.seq ?_
 refine HT.block ?_
 refine HT.seq ?_
 obtain ⟨e14, c⟩ := ck_some c
 obtain ⟨x15, q16, c⟩ := cl_some c
 obtain ⟨e17, c⟩ := ck_some c
 obtain ⟨x18, q19, c⟩ := cl_some c
 obtain ⟨x20, q21, c⟩ := bd_some c
 obtain ⟨e22,e23,e24,c⟩ := ck3 c
 obtain ⟨x25, q26, c⟩ := bd_some c
 obtain ⟨x27, q28, c⟩ := bd_some c
 refine HT.draw (by kernel_rfl) (l := eR u8 :: eI y12 :: eF (.qtr E_impl_Test A (gtD (gtD p0 y5) y12)) :: eF (.qtr (eInt .i64) A ((gtD (gtD p0 y5) y12).1)) :: eI ((gtD (gtD p0 y5) y12).1) :: eB x15 :: eB (!x15) :: eB (!x15) :: gR (true && ((!x15) == false)) u8 :: gI (true && ((!x15) == false)) y12 :: gF (true && ((!x15) == false)) (.qtr E_impl_Test A (gtD (gtD p0 y5) y12)) :: gF (true && ((!x15) == false)) (.qtr (eInt .i64) A ((gtD (gtD p0 y5) y12).2.1)) :: gI (true && ((!x15) == false)) ((gtD (gtD p0 y5) y12).2.1) :: gB (true && ((!x15) == false)) x18 :: gB (true && ((!x15) == false)) (!x18) :: eB x20 :: eB x20 :: gI (true && (x20 == false)) y12 :: gB (true && (x20 == false)) (decide (0 < y12)) :: gB (true && (x20 == false)) (decide (0 < y12)) :: gR ((true && (x20 == false)) && ((decide (0 < y12)) == true)) u8 :: gI ((true && (x20 == false)) && ((decide (0 < y12)) == true)) y12 :: gI ((true && (x20 == false)) && ((decide (0 < y12)) == true)) (y12 - 1) :: gF ((true && (x20 == false)) && ((decide (0 < y12)) == true)) (.qtr E_impl_Test A (gtD (gtD p0 y5) (y12 - 1))) :: gF ((true && (x20 == false)) && ((decide (0 < y12)) == true)) (.qtr (eInt .i64) A ((gtD (gtD p0 y5) (y12 - 1)).1)) :: gI ((true && (x20 == false)) && ((decide (0 < y12)) == true)) ((gtD (gtD p0 y5) (y12 - 1)).1) :: gR ((true && (x20 == false)) && ((decide (0 < y12)) == true)) u8 :: gI ((true && (x20 == false)) && ((decide (0 < y12)) == true)) y12 :: gF ((true && (x20 == false)) && ((decide (0 < y12)) == true)) (.qtr E_impl_Test A (gtD (gtD p0 y5) y12)) :: gF ((true && (x20 == false)) && ((decide (0 < y12)) == true)) (.qtr (eInt .i64) A ((gtD (gtD p0 y5) y12).1)) :: gI ((true && (x20 == false)) && ((decide (0 < y12)) == true)) ((gtD (gtD p0 y5) y12).1) :: gB ((true && (x20 == false)) && ((decide (0 < y12)) == true)) (decide (((gtD (gtD p0 y5) y12).1) ≤ ((gtD (gtD p0 y5) (y12 - 1)).1))) :: gB (true && (x20 == false)) x25 :: eB x27 :: []) (tl := []) (by kernel_rfl) (by kernel_rfl) (by kernel_rfl) (by kernel_rfl) ?_ ?_
 exact om h4 <| om h5 <| op (fun Q U W H D=> of_indexAddr ((f_u8.fr W).eq (D.g 0 Z)) (D.g 1 Z) Try.underlying65 Try.sizeOf82 e14) <| op (fun Q U W H D=> of_fieldAddr_q (qt (D.g 0 Z)) ff_82_0 Try.sizeOf3 (by decide) fl_impl_Test_0 Z) <| op (fun Q U W H D=> OpF.int (of_load (QRep.ptr (D.g 0 Z)) Try.isAgg3 Try.sizeOf3)) <| op (fun Q U W H D=> of_call Try.call51 (M_spec_l1In_ok (q16 Z) (d.fr W.size) (D.g 0 Z) Z Z)) <| op (fun Q U W H D=> of_not (D.g 0 Z)) <| ov <| gm 7 false h4 <| gm 7 false h5 <| og 7 false (fun G Q U W H D=> of_indexAddr ((f_u8.fr W).eq (D.h 0 G Z)) (D.h 1 G Z) Try.underlying65 Try.sizeOf82 (gd e17 G)) <| og 7 false (fun G Q U W H D=> of_fieldAddr_q (qt (D.h 0 G Z)) ff_82_1 Try.sizeOf3 (by decide) fl_impl_Test_1 Z) <| og 7 false (fun G Q U W H D=> OpF.int (of_load (QRep.ptr (D.h 0 G Z)) Try.isAgg3 Try.sizeOf3)) <| og 7 false (fun G Q U W H D=> of_call Try.call51 (M_spec_l1In_ok (q19 G) (d.fr W.size) (D.h 0 G Z) Z Z)) <| og 7 false (fun G Q U W H D=> of_not (D.h 0 G Z)) <| op (fun Q U W H D=> of_pick (!x15) (D.g 0 Z) (fun hc=> by show _ = Value.bool x20; rw [q21, hc]; exact Z) (fun hc=> by have a2 : Q 39 = .bool (!x18) := D 1 _ _ _ Z Z Z Z (g_and Z (beq_of hc)); show _ = Value.bool x20; rw [q21, hc]; exact a2)) <| ov <| gm 16 false h5 <| og 16 false (fun G Q U W H D=> of_gtr (D.h 0 G Z) Z) <| og 16 false (fun G Q U W H D=> of_move (D.h 0 G Z)) <| gm 19 true h4 <| gm 19 true h5 <| og 19 true (fun G Q U W H D=> of_sub (D.h 0 G Z) Z (gd e22 G)) <| og 19 true (fun G Q U W H D=> of_indexAddr ((f_u8.fr W).eq (D.h 0 G Z)) (D.h 1 G Z) Try.underlying65 Try.sizeOf82 (gd e23 G)) <| og 19 true (fun G Q U W H D=> of_fieldAddr_q (qt (D.h 0 G Z)) ff_82_0 Try.sizeOf3 (by decide) fl_impl_Test_0 Z) <| og 19 true (fun G Q U W H D=> OpF.int (of_load (QRep.ptr (D.h 0 G Z)) Try.isAgg3 Try.sizeOf3)) <| gm 19 true h4 <| gm 19 true h5 <| og 19 true (fun G Q U W H D=> of_indexAddr ((f_u8.fr W).eq (D.h 0 G Z)) (D.h 1 G Z) Try.underlying65 Try.sizeOf82 (gd e24 G)) <| og 19 true (fun G Q U W H D=> of_fieldAddr_q (qt (D.h 0 G Z)) ff_82_0 Try.sizeOf3 (by decide) fl_impl_Test_0 Z) <| og 19 true (fun G Q U W H D=> OpF.int (of_load (QRep.ptr (D.h 0 G Z)) Try.isAgg3 Try.sizeOf3)) <| og 19 true (fun G Q U W H D=> of_geq (D.h 0 G Z) (D.h 1 G Z)) <| og 16 false (fun G Q U W H D=> of_pick (decide (0 < y12)) (D.h 0 G Z) (fun hc=> by have a1 : Q 56 = .bool (decide (((gtD (gtD p0 y5) y12).1) ≤ ((gtD (gtD p0 y5) (y12 - 1)).1))) := D 1 _ _ _ Z Z Z Z (g_and G (beq_of hc)); show _ = Value.bool x25; rw [q26, hc]; exact a1) (fun hc=> by show _ = Value.bool x25; rw [q26, hc]; exact Z)) <| op (fun Q U W H D=> of_pick x20 (D.g 0 Z) (fun hc=> by show _ = Value.bool x27; rw [q28, hc]; exact Z) (fun hc=> by have a2 : Q 57 = .bool x25 := D 1 _ _ _ Z Z Z Z (g_and Z (beq_of hc)); show _ = Value.bool x27; rw [q28, hc]; exact a2)) <| oz
 intro R w m n p
 obtain ⟨h1, h3, h4, h5⟩ := k4 n h1 h3 h4 h5
 have h58 := p.r 33 Z
 replace f_u8 := f_u8.fr m
 replace q := q.fr m
 replace d := d.fr m.size
 replace j := j.trans m
 refine HT.cond x27 h58 (fun c29 => ?_) (fun c29 => ?_)
 have c := cnd_t c29 c
 refine HT.su d j (eB false :: []) ?_ ?_
 exact op (fun Q U W H D=> of_assign Z) <| oz
 intro R w m n p d j
 have h2 := p.r 0 Z
 replace q := q.fr m
 replace q : IniOK [] A w := q.sub [] N
 refine HT.ret ?_
 obtain rfl := si c
 have c := hr1
 replace c : some _ = some _ := c
 obtain rfl := si c
 have c := hr0
 replace c : some _ = some _ := c
 obtain rfl := si c
 exact ⟨.inr Z, [R 2], ⟨Z, N⟩, h2, j⟩
 have c := cnd_f c29 c
 refine HT.skip ?_
 obtain ⟨e30, c⟩ := ck_some c
 refine HT.u d j (eI y12 :: eI (y12 + 1) :: eI (y12 + 1) :: []) ?_ ?_
 exact om h5 <| op (fun Q U W H D=> of_add (D.g 0 Z) Z e30) <| oa <| oz
 intro R w m n p d j
 obtain ⟨h1, h3, h4⟩ := k3 n h1 h3 h4
 have h5 := p.r 2 Z
 replace f_u8 := f_u8.fr m
 replace q := q.fr m
 exact ei k (And.intro (Nat.lt_succ_self k) ⟨_, _, c, d, j, B, q, h1, h3, h4, h5, f_u8⟩)
 have c := cnd_f c13 c
 refine HT.exit ?_
 obtain rfl := si c
 exact ei _ ⟨_, Z, d, j, B, q, h1, h3, h4, f_u8⟩
 rintro R w ⟨A, s11, rfl, d, j, B, q, h1, h3, h4, f_u8⟩
 have c := exM_go c
 obtain ⟨x31, q32, c⟩ := cl_some c
 refine HT.su d j (eR u8 :: eI ((gtD p0 y5).length : Int) :: eB x31 :: eB (!x31) :: []) ?_ ?_
 exact om h4 <| op (fun Q U W H D=> of_len_sl (aT := #[]) ((f_u8.fr W).eq (D.g 0 Z)) Try.underlying65) <| op (fun Q U W H D=> of_call Try.call51 (M_spec_l1In_ok (q32 Z) (d.fr W.size) (D.g 0 Z) Z Z)) <| op (fun Q U W H D=> of_not (D.g 0 Z)) <| oz
 intro R w m n p d j
 obtain ⟨h1, h3⟩ := k2 n h1 h3
 have h62 := p.r 3 Z
 replace q := q.fr m
 refine HT.cond (!x31) h62 (fun c33 => ?_) (fun c33 => ?_)
 have c := cnd_t c33 c
 refine HT.su d j (eB false :: []) ?_ ?_
 exact op (fun Q U W H D=> of_assign Z) <| oz
 intro R w m n p d j
 have h2 := p.r 0 Z
 replace q := q.fr m
 replace q : IniOK [] A w := q.sub [] N
 refine HT.ret ?_
 obtain rfl := si c
 have c := hr0
 replace c : some _ = some _ := c
 obtain rfl := si c
 exact ⟨.inr Z, [R 2], ⟨Z, N⟩, h2, j⟩
 have c := cnd_f c33 c
 refine HT.skip ?_
 obtain ⟨e34, c⟩ := ck_some c
 refine HT.u d j (eI y5 :: eI (y5 + 1) :: eI (y5 + 1) :: []) ?_ ?_
 exact om h3 <| op (fun Q U W H D=> of_add (D.g 0 Z) Z e34) <| oa <| oz
 intro R w m n p d j
 replace h1 := k1 n h1
 have h3 := p.r 2 Z
 replace q := q.fr m
 exact ei k (And.intro (Nat.lt_succ_self k) ⟨_, _, c, d, j, B, q, h1, h3⟩)
 have c := cnd_f c6 c
 refine HT.exit ?_
 obtain rfl := si c
 exact ei _ ⟨_, Z, d, j, B, q, h1⟩
 rintro R w ⟨A, s4, rfl, d, j, B, q, h1⟩
 have c := exM_go c
 obtain ⟨x35, q36, c⟩ := cl_some c
 refine HT.su d j (eR (.pointer (some ⟨b1_0, 0, none⟩)) :: eF (.rep (eSl E_impl_Rule) A p0) :: eI (p0.length : Int) :: eB x35 :: eB x35 :: []) ?_ ?_
 exact op (fun Q U W H D=> of_fieldAddr_raw ((H 1 Z).trans h1) ff_29_0 Try.sizeOf27 (by decide) Z) <| op (fun Q U W H D=> (of_load_box ((q.fr W).ok 0 _ Z).1 (D.g 0 Z) fl_impl_RuleSet_0 Z Try.isAgg27 Try.sizeOf27)) <| op (fun Q U W H D=> of_len_sl (aT := #[]) (D.g 0 Z) Try.underlying27) <| op (fun Q U W H D=> of_call Try.call51 (M_spec_l1In_ok (q36 Z) (d.fr W.size) (D.g 0 Z) Z Z)) <| oa <| oz
 intro R w m n p d j
 have h2 := p.r 4 Z
 replace q := q.fr m
 replace q : IniOK [] A w := q.sub [] N
 refine HT.ret ?_
 obtain rfl := si c
 exact ⟨.inr Z, [R 2], ⟨Z, N⟩, h2, j⟩
def M_spec_FormatRules_L1 (fu : Nat) (p0 : T_impl_RuleSet) (y11 : Int) : Nat → (List UInt8) → Int → Option (List UInt8)
 | 0, _, _ => none
 | k + 1, y19, y20 =>
 ck (inR y11 p0.length) <|
 bif (decide (y20 < ((gtD p0 y11).length : Int))) then (
 ck (inR y11 p0.length) <|
 ck (inR y20 (gtD p0 y11).length) <|
 bif (decide (0 < y20)) then (
 ck (lenOK (y19 ++ ([44] : List UInt8)).length) <|
 cl true (M_spec_FeatureName fu ((gtD (gtD p0 y11) y20).1)) fun x31 =>
 ck (lenOK ((y19 ++ ([44] : List UInt8)) ++ x31).length) <|
 bif (gtD (gtD p0 y11) y20).2.2 then (
 ck (lenOK (((y19 ++ ([44] : List UInt8)) ++ x31) ++ ([60] : List UInt8)).length) <|
 cl true (M_spec_FormatInt fu ((gtD (gtD p0 y11) y20).2.1)) fun x38 =>
 ck (lenOK ((((y19 ++ ([44] : List UInt8)) ++ x31) ++ ([60] : List UInt8)) ++ x38).length) <|
 ck (i64B (y20 + 1)) <|
 M_spec_FormatRules_L1 fu p0 y11 k ((((y19 ++ ([44] : List UInt8)) ++ x31) ++ ([60] : List UInt8)) ++ x38) (y20 + 1)
 ) else (
 ck (lenOK (((y19 ++ ([44] : List UInt8)) ++ x31) ++ ([62, 61] : List UInt8)).length) <|
 cl true (M_spec_FormatInt fu ((gtD (gtD p0 y11) y20).2.1)) fun x45 =>
 ck (lenOK ((((y19 ++ ([44] : List UInt8)) ++ x31) ++ ([62, 61] : List UInt8)) ++ x45).length) <|
 ck (i64B (y20 + 1)) <|
 M_spec_FormatRules_L1 fu p0 y11 k ((((y19 ++ ([44] : List UInt8)) ++ x31) ++ ([62, 61] : List UInt8)) ++ x45) (y20 + 1)
 )
 ) else (
 cl true (M_spec_FeatureName fu ((gtD (gtD p0 y11) y20).1)) fun x50 =>
 ck (lenOK (y19 ++ x50).length) <|
 bif (gtD (gtD p0 y11) y20).2.2 then (
 ck (lenOK ((y19 ++ x50) ++ ([60] : List UInt8)).length) <|
 cl true (M_spec_FormatInt fu ((gtD (gtD p0 y11) y20).2.1)) fun x57 =>
 ck (lenOK (((y19 ++ x50) ++ ([60] : List UInt8)) ++ x57).length) <|
 ck (i64B (y20 + 1)) <|
 M_spec_FormatRules_L1 fu p0 y11 k (((y19 ++ x50) ++ ([60] : List UInt8)) ++ x57) (y20 + 1)
 ) else (
 ck (lenOK ((y19 ++ x50) ++ ([62, 61] : List UInt8)).length) <|
 cl true (M_spec_FormatInt fu ((gtD (gtD p0 y11) y20).2.1)) fun x64 =>
 ck (lenOK (((y19 ++ x50) ++ ([62, 61] : List UInt8)) ++ x64).length) <|
 ck (i64B (y20 + 1)) <|
 M_spec_FormatRules_L1 fu p0 y11 k (((y19 ++ x50) ++ ([62, 61] : List UInt8)) ++ x64) (y20 + 1)
 )
 )
 ) else (
 some y19
 )
def M_spec_FormatRules_L2 (fu : Nat) (p0 : T_impl_RuleSet) (y11 : Int) : Nat → (List UInt8) → Int → Option (List UInt8)
 | 0, _, _ => none
 | k + 1, y73, y74 =>
 ck (inR y11 p0.length) <|
 bif (decide (y74 < ((gtD p0 y11).length : Int))) then (
 ck (inR y11 p0.length) <|
 ck (inR y74 (gtD p0 y11).length) <|
 bif (decide (0 < y74)) then (
 ck (lenOK (y73 ++ ([44] : List UInt8)).length) <|
 cl true (M_spec_FeatureName fu ((gtD (gtD p0 y11) y74).1)) fun x85 =>
 ck (lenOK ((y73 ++ ([44] : List UInt8)) ++ x85).length) <|
 bif (gtD (gtD p0 y11) y74).2.2 then (
 ck (lenOK (((y73 ++ ([44] : List UInt8)) ++ x85) ++ ([60] : List UInt8)).length) <|
 cl true (M_spec_FormatInt fu ((gtD (gtD p0 y11) y74).2.1)) fun x92 =>
 ck (lenOK ((((y73 ++ ([44] : List UInt8)) ++ x85) ++ ([60] : List UInt8)) ++ x92).length) <|
 ck (i64B (y74 + 1)) <|
 M_spec_FormatRules_L2 fu p0 y11 k ((((y73 ++ ([44] : List UInt8)) ++ x85) ++ ([60] : List UInt8)) ++ x92) (y74 + 1)
 ) else (
 ck (lenOK (((y73 ++ ([44] : List UInt8)) ++ x85) ++ ([62, 61] : List UInt8)).length) <|
 cl true (M_spec_FormatInt fu ((gtD (gtD p0 y11) y74).2.1)) fun x99 =>
 ck (lenOK ((((y73 ++ ([44] : List UInt8)) ++ x85) ++ ([62, 61] : List UInt8)) ++ x99).length) <|
 ck (i64B (y74 + 1)) <|
 M_spec_FormatRules_L2 fu p0 y11 k ((((y73 ++ ([44] : List UInt8)) ++ x85) ++ ([62, 61] : List UInt8)) ++ x99) (y74 + 1)
 )
 ) else (
 cl true (M_spec_FeatureName fu ((gtD (gtD p0 y11) y74).1)) fun x104 =>
 ck (lenOK (y73 ++ x104).length) <|
 bif (gtD (gtD p0 y11) y74).2.2 then (
 ck (lenOK ((y73 ++ x104) ++ ([60] : List UInt8)).length) <|
 cl true (M_spec_FormatInt fu ((gtD (gtD p0 y11) y74).2.1)) fun x111 =>
 ck (lenOK (((y73 ++ x104) ++ ([60] : List UInt8)) ++ x111).length) <|
 ck (i64B (y74 + 1)) <|
 M_spec_FormatRules_L2 fu p0 y11 k (((y73 ++ x104) ++ ([60] : List UInt8)) ++ x111) (y74 + 1)
 ) else (
 ck (lenOK ((y73 ++ x104) ++ ([62, 61] : List UInt8)).length) <|
 cl true (M_spec_FormatInt fu ((gtD (gtD p0 y11) y74).2.1)) fun x118 =>
 ck (lenOK (((y73 ++ x104) ++ ([62, 61] : List UInt8)) ++ x118).length) <|
 ck (i64B (y74 + 1)) <|
 M_spec_FormatRules_L2 fu p0 y11 k (((y73 ++ x104) ++ ([62, 61] : List UInt8)) ++ x118) (y74 + 1)
 )
 )
 ) else (
 some y73
 )
def M_spec_FormatRules_L0 (fu : Nat) (p0 : T_impl_RuleSet) : Nat → (List UInt8) → Int → Option (List UInt8)
 | 0, _, _ => none
 | k + 1, y10, y11 =>
 bif (decide (y11 < (p0.length : Int))) then (
 bif (decide (0 < y11)) then (
 ck (lenOK (y10 ++ ([32, 111, 114, 32] : List UInt8)).length) <|
 cl true (M_spec_FormatRules_L1 fu p0 y11 fu (y10 ++ ([32, 111, 114, 32] : List UInt8)) 0) fun s18 =>
 ck (i64B (y11 + 1)) <|
 M_spec_FormatRules_L0 fu p0 k s18 (y11 + 1)
 ) else (
 cl true (M_spec_FormatRules_L2 fu p0 y11 fu y10 0) fun s72 =>
 ck (i64B (y11 + 1)) <|
 M_spec_FormatRules_L0 fu p0 k s72 (y11 + 1)
 )
 ) else (
 some y10
 )
def M_spec_FormatRules (fu : Nat) (p0 : T_impl_RuleSet) : Option (List UInt8) :=
 cl true (M_spec_IsValidRules fu p0) fun x2 =>
 bif (!x2) then (
 some ([] : List UInt8)
 ) else (
 cl true (M_spec_FormatRules_L0 fu p0 fu ([] : List UInt8) 0) fun s9 =>
 some s9
 )
theorem M_spec_FormatRules_ok {fu : Nat} {A0 : Av} {p0 : T_impl_RuleSet} {r : List UInt8} (c : M_spec_FormatRules fu p0 = some r) {w : World} {v0 : Value} (d : AvOK A0 w) (h0 : Rep E_impl_RuleSet A0 w v0 p0) :
 Calls Try.prog 141 #[v0] w fun e w' => ∃ v, e = .returned v ∧ (Rep eStr A0 w' v r ∧ Fr w w') := by
 unfold M_spec_FormatRules at c
 obtain ⟨w0,hw0,j,C⟩ := pw d
 have hA00 : AvOK A0 w0 := C
 rw [fw hw0]
 obtain ⟨A,hAe,B,d,q⟩ := pa d
 refine calls_of_HT2 [.tmp 2] Try.func141 Try.ntmps141 (by decide) Z Z (nb Z) ?_
 intro R hR
 have f_v0 : Rep E_impl_RuleSet A w v0 p0 := hAe ▸ h0
 replace h0 : R 0 = v0 := hR 0 _ Z
 refine HT.sx [] (⟨_, true, [], some (.box w0.heap.size 29 E_impl_RuleSet p0), true, fun A => .any⟩ :: (rF fun A => .rep eStr A ([] : List UInt8)) :: []) (ua (up (UAll.nil))) q d ?_ ?_
 exact rc (OblR.made _ Z Z Z Z fun V Q U O D=> by have a0 : Q 0 = v0 := (O.old 0 Z).trans h0; have ra0 := (f_v0.stp O.stp).eq a0; exact made_box ra0 (Nat.le_trans j.size O.ch.size)) <| rp (fun V Q U O D=> of_assign ⟨_, Z, ⟨_, Z, Z, by decide⟩⟩) <| rz
 intro done ρ σ A R w y s
 obtain ⟨b1_0, e_b1_0⟩ := s.boxv y 0 Z Z
 have h1 := s.ov y 0 0 e_b1_0
 obtain ⟨B,j,d⟩ := s.s B C j q N
 replace q := s.left y [(0, ob (.pointer (some ⟨b1_0, 0, none⟩)) (.box w0.heap.size 29 E_impl_RuleSet p0))] ⟨Z, Z, e_b1_0, Z, Z, N⟩
 refine HT.seq ?_
 obtain ⟨x2, q3, c⟩ := cl_some c
 refine HT.su d j (eF (.rep E_impl_RuleSet A p0) :: eB x2 :: eB (!x2) :: []) ?_ ?_
 exact op (fun Q U W H D=> (of_load_box ((q.fr W).ok 0 _ Z).1 ((H 1 Z).trans h1) (Fld.id _) Z Try.isAgg29 Try.sizeOf29)) <| op (fun Q U W H D=> of_call Try.call26 (M_spec_IsValidRules_ok (q3 Z) (d.fr W.size) (D.g 0 Z))) <| op (fun Q U W H D=> of_not (D.g 0 Z)) <| oz
 intro R w m n p d j
 replace h1 := k1 n h1
 have h9 := p.r 2 Z
 replace q := q.fr m
 refine HT.cond (!x2) h9 (fun c4 => ?_) (fun c4 => ?_)
 have c := cnd_t c4 c
 refine HT.su d j (eF (.rep eStr A ([] : List UInt8)) :: []) ?_ ?_
 exact op (fun Q U W H D=> of_assign ⟨_, Z, ⟨_, Z, Z, by decide⟩⟩) <| oz
 intro R w m n p d j
 obtain ⟨u5, h2, f_u5⟩ : ∃ u, R 2 = u ∧ Rep eStr A w u ([] : List UInt8) := ⟨_, Z, p 0 _ _ Z Z Z⟩
 replace q := q.fr m
 replace q : IniOK [] A w := q.sub [] N
 refine HT.ret ?_
 obtain rfl := si c
 exact ⟨.inr Z, [R 2], ⟨Z, N⟩, (f_u5.eq h2).down B, j⟩
 have c := cnd_f c4 c
 refine HT.skip ?_
 refine HT.su d j (eF (.rep eStr A ([] : List UInt8)) :: []) ?_ ?_
 exact op (fun Q U W H D=> of_assign ⟨_, Z, ⟨_, Z, Z, by decide⟩⟩) <| oz
 intro R w m n p d j
 replace h1 := k1 n h1
 obtain ⟨u6, h3, f_u6⟩ : ∃ u, R 3 = u ∧ Rep eStr A w u ([] : List UInt8) := ⟨_, Z, p 0 _ _ Z Z Z⟩
 replace q := q.fr m
 refine HT.seq ?_
 refine HT.su d j (eI 0 :: []) ?_ ?_
 exact op (fun Q U W H D=> of_assign Z) <| oz
 intro R w m n p d j
 obtain ⟨h1, h3⟩ := k2 n h1 h3
 have h4 := p.r 0 Z
 replace f_u6 := f_u6.fr m
 replace q := q.fr m
 obtain ⟨rl7, q8, c⟩ := cl_some c
 replace q8 := q8 Z
 refine HT.cut0 (fun R w => ∃ A : Av, ∃ (s9 : (List UInt8)) (wo_3 : Value), rl7 = s9 ∧ AvOK A w ∧ Fr w0 w ∧ (∀ b o, A0 b o → A b o) ∧ IniOK [] A w ∧ R 3 = wo_3 ∧ Rep eStr A w wo_3 s9) ?_ ?_
 refine HT.block ?_
 refine HT.loop (fun k R w => ∃ A : Av, ∃ (y10 : List UInt8) (y11 : Int) (wl_3 : Value), M_spec_FormatRules_L0 fu p0 k y10 y11 = some rl7 ∧ AvOK A w ∧ Fr w0 w ∧ (∀ b o, A0 b o → A b o) ∧ IniOK [ob (.pointer (some ⟨b1_0, 0, none⟩)) (.box w0.heap.size 29 E_impl_RuleSet p0)] A w ∧ R 1 = (.pointer (some ⟨b1_0, 0, none⟩)) ∧ R 3 = wl_3 ∧ R 4 = .int .i64 y11 ∧ Rep eStr A w wl_3 y10) fu ⟨_, _, _, u6, q8, d, j, B, q, h1, h3, h4, f_u6⟩ ?_
 have hr0 := c; clear c q8
 rintro k R w ⟨A, y10, y11, wl_3, c, d, j, B, q, h1, h3, h4, f_wl_3⟩
 rcases k with _ | k
 cases (show none = some _ from c)
 rw [M_spec_FormatRules_L0] at c
 refine HT.seq ?_
 refine HT.su d j (eI y11 :: eR (.pointer (some ⟨b1_0, 0, none⟩)) :: eF (.rep (eSl E_impl_Rule) A p0) :: eI (p0.length : Int) :: eB (decide (y11 < (p0.length : Int))) :: []) ?_ ?_
 exact om h4 <| op (fun Q U W H D=> of_fieldAddr_raw ((H 1 Z).trans h1) ff_29_0 Try.sizeOf27 (by decide) Z) <| op (fun Q U W H D=> (of_load_box ((q.fr W).ok 0 _ Z).1 (D.g 0 Z) fl_impl_RuleSet_0 Z Try.isAgg27 Try.sizeOf27)) <| op (fun Q U W H D=> of_len_sl (aT := #[]) (D.g 0 Z) Try.underlying27) <| op (fun Q U W H D=> of_lss (D.g 0 Z) (D.g 1 Z)) <| oz
 intro R w m n p d j
 obtain ⟨h1, h3, h4⟩ := k3 n h1 h3 h4
 have h14 := p.r 4 Z
 replace f_wl_3 := f_wl_3.fr m
 replace q := q.fr m
 refine HT.cond (decide (y11 < (p0.length : Int))) h14 (fun c12 => ?_) (fun c12 => ?_)
 have c := cnd_t c12 c
 refine HT.skip ?_
 refine HT.seq ?_
 refine HT.block ?_
 refine HT.seq ?_
 refine HT.su d j (eI y11 :: eB (decide (0 < y11)) :: []) ?_ ?_
 exact om h4 <| op (fun Q U W H D=> of_gtr (D.g 0 Z) Z) <| oz
 intro R w m n p d j
 obtain ⟨h1, h3, h4⟩ := k3 n h1 h3 h4
 have h18 := p.r 1 Z
 replace f_wl_3 := f_wl_3.fr m
 replace q := q.fr m
 refine HT.cond (decide (0 < y11)) h18 (fun c13 => ?_) (fun c13 => ?_)
 have c := cnd_t c13 c
 obtain ⟨e14, c⟩ := ck_some c
 refine HT.u d j (eR wl_3 :: eF (.rep eStr A (y10 ++ ([32, 111, 114, 32] : List UInt8))) :: eF (.rep eStr A (y10 ++ ([32, 111, 114, 32] : List UInt8))) :: []) ?_ ?_
 exact om h3 <| op (fun Q U W H D=> of_cat ((f_wl_3.fr W).eq (D.g 0 Z)) ⟨_, Z, ⟨_, Z, Z, by decide⟩⟩ e14) <| op (fun Q U W H D=> of_assign (D.g 0 Z)) <| oz
 intro R w m n p d j
 obtain ⟨h1, h4⟩ := k2 n h1 h4
 obtain ⟨u15, h3, f_u15⟩ : ∃ u, R 3 = u ∧ Rep eStr A w u (y10 ++ ([32, 111, 114, 32] : List UInt8)) := ⟨_, Z, p 2 _ _ Z Z Z⟩
 replace q := q.fr m
 refine HT.su d j (eI 0 :: []) ?_ ?_
 exact op (fun Q U W H D=> of_assign Z) <| oz
 intro R w m n p d j
 obtain ⟨h1, h3, h4⟩ := k3 n h1 h3 h4
 have h5 := p.r 0 Z
 replace f_u15 := f_u15.fr m
 replace q := q.fr m
 obtain ⟨rl16, q17, c⟩ := cl_some c
 replace q17 := q17 Z
 refine HT.cut0 (fun R w => ∃ A : Av, ∃ (s18 : (List UInt8)) (wo_3 : Value), rl16 = s18 ∧ AvOK A w ∧ Fr w0 w ∧ (∀ b o, A0 b o → A b o) ∧ IniOK [ob (.pointer (some ⟨b1_0, 0, none⟩)) (.box w0.heap.size 29 E_impl_RuleSet p0)] A w ∧ R 1 = (.pointer (some ⟨b1_0, 0, none⟩)) ∧ R 3 = wo_3 ∧ R 4 = .int .i64 y11 ∧ Rep eStr A w wo_3 s18) ?_ ?_
 refine HT.block ?_
 refine HT.loop (fun k R w => ∃ A : Av, ∃ (y19 : List UInt8) (y20 : Int) (wl_3 : Value), M_spec_FormatRules_L1 fu p0 y11 k y19 y20 = some rl16 ∧ AvOK A w ∧ Fr w0 w ∧ (∀ b o, A0 b o → A b o) ∧ IniOK [ob (.pointer (some ⟨b1_0, 0, none⟩)) (.box w0.heap.size 29 E_impl_RuleSet p0)] A w ∧ R 1 = (.pointer (some ⟨b1_0, 0, none⟩)) ∧ R 3 = wl_3 ∧ R 4 = .int .i64 y11 ∧ R 5 = .int .i64 y20 ∧ Rep eStr A w wl_3 y19) fu ⟨_, _, _, u15, q17, d, j, B, q, h1, h3, h4, h5, f_u15⟩ ?_
 have hr0 := c; clear c q17
 rintro k R w ⟨A, y19, y20, wl_3, c, d, j, B, q, h1, h3, h4, h5, f_wl_3⟩
 rcases k with _ | k
 cases (show none = some _ from c)
 rw [M_spec_FormatRules_L1] at c
 refine HT.seq ?_
 obtain ⟨e21, c⟩ := ck_some c
 refine HT.su d j (eI y20 :: eR (.pointer (some ⟨b1_0, 0, none⟩)) :: eF (.rep (eSl E_impl_Rule) A p0) :: eI y11 :: eF (.qtr E_impl_Rule A (gtD p0 y11)) :: eF (.qtr (eSl E_impl_Test) A (gtD p0 y11)) :: eF (.rep (eSl E_impl_Test) A (gtD p0 y11)) :: eI ((gtD p0 y11).length : Int) :: eB (decide (y20 < ((gtD p0 y11).length : Int))) :: []) ?_ ?_
 exact om h5 <| op (fun Q U W H D=> of_fieldAddr_raw ((H 1 Z).trans h1) ff_29_0 Try.sizeOf27 (by decide) Z) <| op (fun Q U W H D=> (of_load_box ((q.fr W).ok 0 _ Z).1 (D.g 0 Z) fl_impl_RuleSet_0 Z Try.isAgg27 Try.sizeOf27)) <| om h4 <| op (fun Q U W H D=> of_indexAddr (D.g 0 Z) (D.g 1 Z) Try.underlying27 Try.sizeOf79 e21) <| op (fun Q U W H D=> of_fieldAddr_q (qt (D.g 0 Z)) ff_79_0 Try.sizeOf65 (by decide) fl_impl_Rule_0 Z) <| op (fun Q U W H D=> (of_load (QRep.ptr (D.g 0 Z)) Try.isAgg65 Try.sizeOf65)) <| op (fun Q U W H D=> of_len_sl (aT := #[]) (D.g 0 Z) Try.underlying65) <| op (fun Q U W H D=> of_lss (D.g 0 Z) (D.g 1 Z)) <| oz
 intro R w m n p d j
 obtain ⟨h1, h3, h4, h5⟩ := k4 n h1 h3 h4 h5
 have h29 := p.r 8 Z
 replace f_wl_3 := f_wl_3.fr m
 replace q := q.fr m
 refine HT.cond (decide (y20 < ((gtD p0 y11).length : Int))) h29 (fun c22 => ?_) (fun c22 => ?_)
 have c := cnd_t c22 c
 refine HT.skip ?_
 refine HT.seq ?_
 refine HT.block ?_
 obtain ⟨e23,e24,c⟩ := ck2 c
 refine HT.sx [ob (.pointer (some ⟨b1_0, 0, none⟩)) (.box w0.heap.size 29 E_impl_RuleSet p0)] (rR (.pointer (some ⟨b1_0, 0, none⟩)) :: (rF fun A => .rep (eSl E_impl_Rule) A p0) :: rI y11 :: (rF fun A => .qtr E_impl_Rule A (gtD p0 y11)) :: (rF fun A => .qtr (eSl E_impl_Test) A (gtD p0 y11)) :: (rF fun A => .rep (eSl E_impl_Test) A (gtD p0 y11)) :: rI y20 :: (rF fun A => .qtr E_impl_Test A (gtD (gtD p0 y11) y20)) :: (rF fun A => .rep E_impl_Test A (gtD (gtD p0 y11) y20)) :: ⟨_, true, [], some (.box w0.heap.size 82 E_impl_Test (0, (0, false))), true, fun A => .any⟩ :: ⟨_, true, [10], some (.box w0.heap.size 82 E_impl_Test (gtD (gtD p0 y11) y20)), false, fun A => .any⟩ :: []) (ur (up (ur (UAll.cons ust_qtr (UAll.cons ust_qtr (up (ur (UAll.cons ust_qtr (up (ua (ua (UAll.nil)))))))))))) q d ?_ ?_
 exact rp (fun V Q U O D=> of_fieldAddr_raw ((O.old 1 Z).trans h1) ff_29_0 Try.sizeOf27 (by decide) Z) <| rp (fun V Q U O D=> (of_load_box (O.rd 0 _ Z Z) (D.g 0 Z) fl_impl_RuleSet_0 Z Try.isAgg27 Try.sizeOf27)) <| rm h4 <| rp (fun V Q U O D=> of_indexAddr (D.g 0 Z) (D.g 1 Z) Try.underlying27 Try.sizeOf79 e23) <| rp (fun V Q U O D=> of_fieldAddr_q (qt (D.g 0 Z)) ff_79_0 Try.sizeOf65 (by decide) fl_impl_Rule_0 Z) <| rp (fun V Q U O D=> (of_load (QRep.ptr (D.g 0 Z)) Try.isAgg65 Try.sizeOf65)) <| rm h5 <| rp (fun V Q U O D=> of_indexAddr (D.g 0 Z) (D.g 1 Z) Try.underlying65 Try.sizeOf82 e24) <| rp (fun V Q U O D=> (of_load (QRep.ptr (D.g 0 Z)) Try.isAgg82 Try.sizeOf82)) <| rc (OblR.made _ Z Z Z Z fun V Q U O D=> by exact made_alloc Try.zeroValue82 (fun A w=> rep_pr rep1_int (rep_pr rep1_int rep1_bool)) (Nat.le_trans j.size O.ch.size)) <| rc (OblR.took 10 _ _ Z Z Z Z Z fun V Q U O D u X Y J L M=> by have a1 : Rep E_impl_Test V U (Q 40) (gtD (gtD p0 y11) y20) := D.g 1 Z; obtain ⟨b, hb, hB', hbx⟩ := X; have hop' := L _ _ Z Z Z Z; exact took_store a1 (hop'.symm.trans hb) hb ⟨b, hb, hB', hbx⟩ Y (FldS.id _) Try.sizeOf82 Z) <| rz
 intro done ρ σ A R w y s
 obtain ⟨h1, h3, h4, h5⟩ := k4 s.rg h1 h3 h4 h5
 have z25 := s.inivR 0 Z
 obtain ⟨b6_25, e_b6_25⟩ := s.boxv y 11 Z Z
 have z27 := (s.opnR y 11 10 Z Z Z Z Z).symm.trans e_b6_25
 have h6 := s.ov y 10 9 z27
 replace f_wl_3 := f_wl_3.stp s.stp
 obtain ⟨B,j,d⟩ := s.s B C j q ⟨Z, N⟩
 replace q := s.left y [(0, ob (.pointer (some ⟨b1_0, 0, none⟩)) (.box w0.heap.size 29 E_impl_RuleSet p0)), (11, ob (.pointer (some ⟨b6_25, 0, none⟩)) (.box w0.heap.size 82 E_impl_Test (gtD (gtD p0 y11) y20)))] ⟨Z, Z, z25, Z, Z, ⟨Z, Z, e_b6_25, Z, Z, N⟩⟩
 refine HT.seq ?_
 refine HT.su d j (eI y20 :: eB (decide (0 < y20)) :: []) ?_ ?_
 exact om h5 <| op (fun Q U W H D=> of_gtr (D.g 0 Z) Z) <| oz
 intro R w m n p d j
 obtain ⟨h1, h3, h4, h5, h6⟩ := k5 n h1 h3 h4 h5 h6
 have h42 := p.r 1 Z
 replace f_wl_3 := f_wl_3.fr m
 replace q := q.fr m
 refine HT.cond (decide (0 < y20)) h42 (fun c28 => ?_) (fun c28 => ?_)
 have c := cnd_t c28 c
 obtain ⟨e29, c⟩ := ck_some c
 refine HT.u d j (eR wl_3 :: eF (.rep eStr A (y19 ++ ([44] : List UInt8))) :: eF (.rep eStr A (y19 ++ ([44] : List UInt8))) :: []) ?_ ?_
 exact om h3 <| op (fun Q U W H D=> of_cat ((f_wl_3.fr W).eq (D.g 0 Z)) ⟨_, Z, ⟨_, Z, Z, by decide⟩⟩ e29) <| op (fun Q U W H D=> of_assign (D.g 0 Z)) <| oz
 intro R w m n p d j
 obtain ⟨h1, h4, h5, h6⟩ := k4 n h1 h4 h5 h6
 obtain ⟨u30, h3, f_u30⟩ : ∃ u, R 3 = u ∧ Rep eStr A w u (y19 ++ ([44] : List UInt8)) := ⟨_, Z, p 2 _ _ Z Z Z⟩
 replace q := q.fr m
 obtain ⟨x31, q32, c⟩ := cl_some c
 obtain ⟨e33, c⟩ := ck_some c
 refine HT.su d j (eR u30 :: eR (.pointer (some ⟨b6_25, 0, none⟩)) :: eI ((gtD (gtD p0 y11) y20).1) :: eF (.rep eStr A x31) :: eF (.rep eStr A ((y19 ++ ([44] : List UInt8)) ++ x31)) :: eF (.rep eStr A ((y19 ++ ([44] : List UInt8)) ++ x31)) :: []) ?_ ?_
 exact om h3 <| op (fun Q U W H D=> of_fieldAddr_raw ((H 6 Z).trans h6) ff_82_0 Try.sizeOf3 (by decide) Z) <| op (fun Q U W H D=> OpF.int (of_load_box ((q.fr W).ok 1 _ Z).1 (D.g 0 Z) fl_impl_Test_0 Z Try.isAgg3 Try.sizeOf3)) <| op (fun Q U W H D=> of_call Try.call144 (M_spec_FeatureName_ok (q32 Z) (d.fr W.size) (D.g 0 Z))) <| op (fun Q U W H D=> of_cat ((f_u30.fr W).eq (D.g 0 Z)) (D.g 1 Z) e33) <| op (fun Q U W H D=> of_assign (D.g 0 Z)) <| oz
 intro R w m n p d j
 obtain ⟨h1, h4, h5, h6⟩ := k4 n h1 h4 h5 h6
 obtain ⟨u34, h3, f_u34⟩ : ∃ u, R 3 = u ∧ Rep eStr A w u ((y19 ++ ([44] : List UInt8)) ++ x31) := ⟨_, Z, p 5 _ _ Z Z Z⟩
 replace q := q.fr m
 refine HT.seq ?_
 refine HT.su d j (eR (.pointer (some ⟨b6_25, 2, none⟩)) :: eB ((gtD (gtD p0 y11) y20).2.2) :: []) ?_ ?_
 exact op (fun Q U W H D=> of_fieldAddr_raw ((H 6 Z).trans h6) ff_82_2 Try.sizeOf4 (by decide) Z) <| op (fun Q U W H D=> OpF.bool (of_load_box ((q.fr W).ok 1 _ Z).1 (D.g 0 Z) fl_impl_Test_2 Z Try.isAgg4 Try.sizeOf4)) <| oz
 intro R w m n p d j
 obtain ⟨h1, h3, h4, h5, h6⟩ := k5 n h1 h3 h4 h5 h6
 have h51 := p.r 1 Z
 replace f_u34 := f_u34.fr m
 replace q := q.fr m
 refine HT.cond ((gtD (gtD p0 y11) y20).2.2) h51 (fun c35 => ?_) (fun c35 => ?_)
 have c := cnd_t c35 c
 obtain ⟨e36, c⟩ := ck_some c
 refine HT.u d j (eR u34 :: eF (.rep eStr A (((y19 ++ ([44] : List UInt8)) ++ x31) ++ ([60] : List UInt8))) :: eF (.rep eStr A (((y19 ++ ([44] : List UInt8)) ++ x31) ++ ([60] : List UInt8))) :: []) ?_ ?_
 exact om h3 <| op (fun Q U W H D=> of_cat ((f_u34.fr W).eq (D.g 0 Z)) ⟨_, Z, ⟨_, Z, Z, by decide⟩⟩ e36) <| op (fun Q U W H D=> of_assign (D.g 0 Z)) <| oz
 intro R w m n p d j
 obtain ⟨h1, h4, h5, h6⟩ := k4 n h1 h4 h5 h6
 obtain ⟨u37, h3, f_u37⟩ : ∃ u, R 3 = u ∧ Rep eStr A w u (((y19 ++ ([44] : List UInt8)) ++ x31) ++ ([60] : List UInt8)) := ⟨_, Z, p 2 _ _ Z Z Z⟩
 replace q := q.fr m
 obtain ⟨x38, q39, c⟩ := cl_some c
 obtain ⟨e40, c⟩ := ck_some c
 refine HT.u d j (eR u37 :: eR (.pointer (some ⟨b6_25, 1, none⟩)) :: eI ((gtD (gtD p0 y11) y20).2.1) :: eF (.rep eStr A x38) :: eF (.rep eStr A ((((y19 ++ ([44] : List UInt8)) ++ x31) ++ ([60] : List UInt8)) ++ x38)) :: eF (.rep eStr A ((((y19 ++ ([44] : List UInt8)) ++ x31) ++ ([60] : List UInt8)) ++ x38)) :: []) ?_ ?_
 exact om h3 <| op (fun Q U W H D=> of_fieldAddr_raw ((H 6 Z).trans h6) ff_82_1 Try.sizeOf3 (by decide) Z) <| op (fun Q U W H D=> OpF.int (of_load_box ((q.fr W).ok 1 _ Z).1 (D.g 0 Z) fl_impl_Test_1 Z Try.isAgg3 Try.sizeOf3)) <| op (fun Q U W H D=> of_call Try.call146 (M_spec_FormatInt_ok (q39 Z) (d.fr W.size) (D.g 0 Z))) <| op (fun Q U W H D=> of_cat ((f_u37.fr W).eq (D.g 0 Z)) (D.g 1 Z) e40) <| op (fun Q U W H D=> of_assign (D.g 0 Z)) <| oz
 intro R w m n p d j
 obtain ⟨h1, h4, h5⟩ := k3 n h1 h4 h5
 obtain ⟨u41, h3, f_u41⟩ : ∃ u, R 3 = u ∧ Rep eStr A w u ((((y19 ++ ([44] : List UInt8)) ++ x31) ++ ([60] : List UInt8)) ++ x38) := ⟨_, Z, p 5 _ _ Z Z Z⟩
 replace q := q.fr m
 replace q : IniOK [ob (.pointer (some ⟨b1_0, 0, none⟩)) (.box w0.heap.size 29 E_impl_RuleSet p0)] A w := q.sub [(0, ob (.pointer (some ⟨b1_0, 0, none⟩)) (.box w0.heap.size 29 E_impl_RuleSet p0))] ⟨Z, Z, N⟩
 obtain ⟨e42, c⟩ := ck_some c
 refine HT.u d j (eI y20 :: eI (y20 + 1) :: eI (y20 + 1) :: []) ?_ ?_
 exact om h5 <| op (fun Q U W H D=> of_add (D.g 0 Z) Z e42) <| oa <| oz
 intro R w m n p d j
 obtain ⟨h1, h3, h4⟩ := k3 n h1 h3 h4
 have h5 := p.r 2 Z
 replace f_u41 := f_u41.fr m
 replace q := q.fr m
 exact ei k (And.intro (Nat.lt_succ_self k) ⟨_, _, _, u41, c, d, j, B, q, h1, h3, h4, h5, f_u41⟩)
 have c := cnd_f c35 c
 obtain ⟨e43, c⟩ := ck_some c
 refine HT.u d j (eR u34 :: eF (.rep eStr A (((y19 ++ ([44] : List UInt8)) ++ x31) ++ ([62, 61] : List UInt8))) :: eF (.rep eStr A (((y19 ++ ([44] : List UInt8)) ++ x31) ++ ([62, 61] : List UInt8))) :: []) ?_ ?_
 exact om h3 <| op (fun Q U W H D=> of_cat ((f_u34.fr W).eq (D.g 0 Z)) ⟨_, Z, ⟨_, Z, Z, by decide⟩⟩ e43) <| op (fun Q U W H D=> of_assign (D.g 0 Z)) <| oz
 intro R w m n p d j
 obtain ⟨h1, h4, h5, h6⟩ := k4 n h1 h4 h5 h6
 obtain ⟨u44, h3, f_u44⟩ : ∃ u, R 3 = u ∧ Rep eStr A w u (((y19 ++ ([44] : List UInt8)) ++ x31) ++ ([62, 61] : List UInt8)) := ⟨_, Z, p 2 _ _ Z Z Z⟩
 replace q := q.fr m
 obtain ⟨x45, q46, c⟩ := cl_some c
 obtain ⟨e47, c⟩ := ck_some c
 refine HT.u d j (eR u44 :: eR (.pointer (some ⟨b6_25, 1, none⟩)) :: eI ((gtD (gtD p0 y11) y20).2.1) :: eF (.rep eStr A x45) :: eF (.rep eStr A ((((y19 ++ ([44] : List UInt8)) ++ x31) ++ ([62, 61] : List UInt8)) ++ x45)) :: eF (.rep eStr A ((((y19 ++ ([44] : List UInt8)) ++ x31) ++ ([62, 61] : List UInt8)) ++ x45)) :: []) ?_ ?_
 exact om h3 <| op (fun Q U W H D=> of_fieldAddr_raw ((H 6 Z).trans h6) ff_82_1 Try.sizeOf3 (by decide) Z) <| op (fun Q U W H D=> OpF.int (of_load_box ((q.fr W).ok 1 _ Z).1 (D.g 0 Z) fl_impl_Test_1 Z Try.isAgg3 Try.sizeOf3)) <| op (fun Q U W H D=> of_call Try.call146 (M_spec_FormatInt_ok (q46 Z) (d.fr W.size) (D.g 0 Z))) <| op (fun Q U W H D=> of_cat ((f_u44.fr W).eq (D.g 0 Z)) (D.g 1 Z) e47) <| op (fun Q U W H D=> of_assign (D.g 0 Z)) <| oz
 intro R w m n p d j
 obtain ⟨h1, h4, h5⟩ := k3 n h1 h4 h5
 obtain ⟨u48, h3, f_u48⟩ : ∃ u, R 3 = u ∧ Rep eStr A w u ((((y19 ++ ([44] : List UInt8)) ++ x31) ++ ([62, 61] : List UInt8)) ++ x45) := ⟨_, Z, p 5 _ _ Z Z Z⟩
 replace q := q.fr m
 replace q : IniOK [ob (.pointer (some ⟨b1_0, 0, none⟩)) (.box w0.heap.size 29 E_impl_RuleSet p0)] A w := q.sub [(0, ob (.pointer (some ⟨b1_0, 0, none⟩)) (.box w0.heap.size 29 E_impl_RuleSet p0))] ⟨Z, Z, N⟩
 obtain ⟨e49, c⟩ := ck_some c
 refine HT.u d j (eI y20 :: eI (y20 + 1) :: eI (y20 + 1) :: []) ?_ ?_
 exact om h5 <| op (fun Q U W H D=> of_add (D.g 0 Z) Z e49) <| oa <| oz
 intro R w m n p d j
 obtain ⟨h1, h3, h4⟩ := k3 n h1 h3 h4
 have h5 := p.r 2 Z
 replace f_u48 := f_u48.fr m
 replace q := q.fr m
 exact ei k (And.intro (Nat.lt_succ_self k) ⟨_, _, _, u48, c, d, j, B, q, h1, h3, h4, h5, f_u48⟩)
 have c := cnd_f c28 c
 refine HT.skip ?_
 obtain ⟨x50, q51, c⟩ := cl_some c
 obtain ⟨e52, c⟩ := ck_some c
 refine HT.su d j (eR wl_3 :: eR (.pointer (some ⟨b6_25, 0, none⟩)) :: eI ((gtD (gtD p0 y11) y20).1) :: eF (.rep eStr A x50) :: eF (.rep eStr A (y19 ++ x50)) :: eF (.rep eStr A (y19 ++ x50)) :: []) ?_ ?_
 exact om h3 <| op (fun Q U W H D=> of_fieldAddr_raw ((H 6 Z).trans h6) ff_82_0 Try.sizeOf3 (by decide) Z) <| op (fun Q U W H D=> OpF.int (of_load_box ((q.fr W).ok 1 _ Z).1 (D.g 0 Z) fl_impl_Test_0 Z Try.isAgg3 Try.sizeOf3)) <| op (fun Q U W H D=> of_call Try.call144 (M_spec_FeatureName_ok (q51 Z) (d.fr W.size) (D.g 0 Z))) <| op (fun Q U W H D=> of_cat ((f_wl_3.fr W).eq (D.g 0 Z)) (D.g 1 Z) e52) <| op (fun Q U W H D=> of_assign (D.g 0 Z)) <| oz
 intro R w m n p d j
 obtain ⟨h1, h4, h5, h6⟩ := k4 n h1 h4 h5 h6
 obtain ⟨u53, h3, f_u53⟩ : ∃ u, R 3 = u ∧ Rep eStr A w u (y19 ++ x50) := ⟨_, Z, p 5 _ _ Z Z Z⟩
 replace q := q.fr m
 refine HT.seq ?_
 refine HT.su d j (eR (.pointer (some ⟨b6_25, 2, none⟩)) :: eB ((gtD (gtD p0 y11) y20).2.2) :: []) ?_ ?_
 exact op (fun Q U W H D=> of_fieldAddr_raw ((H 6 Z).trans h6) ff_82_2 Try.sizeOf4 (by decide) Z) <| op (fun Q U W H D=> OpF.bool (of_load_box ((q.fr W).ok 1 _ Z).1 (D.g 0 Z) fl_impl_Test_2 Z Try.isAgg4 Try.sizeOf4)) <| oz
 intro R w m n p d j
 obtain ⟨h1, h3, h4, h5, h6⟩ := k5 n h1 h3 h4 h5 h6
 have h51 := p.r 1 Z
 replace f_u53 := f_u53.fr m
 replace q := q.fr m
 refine HT.cond ((gtD (gtD p0 y11) y20).2.2) h51 (fun c54 => ?_) (fun c54 => ?_)
 have c := cnd_t c54 c
 obtain ⟨e55, c⟩ := ck_some c
 refine HT.u d j (eR u53 :: eF (.rep eStr A ((y19 ++ x50) ++ ([60] : List UInt8))) :: eF (.rep eStr A ((y19 ++ x50) ++ ([60] : List UInt8))) :: []) ?_ ?_
 exact om h3 <| op (fun Q U W H D=> of_cat ((f_u53.fr W).eq (D.g 0 Z)) ⟨_, Z, ⟨_, Z, Z, by decide⟩⟩ e55) <| op (fun Q U W H D=> of_assign (D.g 0 Z)) <| oz
 intro R w m n p d j
 obtain ⟨h1, h4, h5, h6⟩ := k4 n h1 h4 h5 h6
 obtain ⟨u56, h3, f_u56⟩ : ∃ u, R 3 = u ∧ Rep eStr A w u ((y19 ++ x50) ++ ([60] : List UInt8)) := ⟨_, Z, p 2 _ _ Z Z Z⟩
 replace q := q.fr m
 obtain ⟨x57, q58, c⟩ := cl_some c
 obtain ⟨e59, c⟩ := ck_some c
 refine HT.u d j (eR u56 :: eR (.pointer (some ⟨b6_25, 1, none⟩)) :: eI ((gtD (gtD p0 y11) y20).2.1) :: eF (.rep eStr A x57) :: eF (.rep eStr A (((y19 ++ x50) ++ ([60] : List UInt8)) ++ x57)) :: eF (.rep eStr A (((y19 ++ x50) ++ ([60] : List UInt8)) ++ x57)) :: []) ?_ ?_
 exact om h3 <| op (fun Q U W H D=> of_fieldAddr_raw ((H 6 Z).trans h6) ff_82_1 Try.sizeOf3 (by decide) Z) <| op (fun Q U W H D=> OpF.int (of_load_box ((q.fr W).ok 1 _ Z).1 (D.g 0 Z) fl_impl_Test_1 Z Try.isAgg3 Try.sizeOf3)) <| op (fun Q U W H D=> of_call Try.call146 (M_spec_FormatInt_ok (q58 Z) (d.fr W.size) (D.g 0 Z))) <| op (fun Q U W H D=> of_cat ((f_u56.fr W).eq (D.g 0 Z)) (D.g 1 Z) e59) <| op (fun Q U W H D=> of_assign (D.g 0 Z)) <| oz
 intro R w m n p d j
 obtain ⟨h1, h4, h5⟩ := k3 n h1 h4 h5
 obtain ⟨u60, h3, f_u60⟩ : ∃ u, R 3 = u ∧ Rep eStr A w u (((y19 ++ x50) ++ ([60] : List UInt8)) ++ x57) := ⟨_, Z, p 5 _ _ Z Z Z⟩
 replace q := q.fr m
 replace q : IniOK [ob (.pointer (some ⟨b1_0, 0, none⟩)) (.box w0.heap.size 29 E_impl_RuleSet p0)] A w := q.sub [(0, ob (.pointer (some ⟨b1_0, 0, none⟩)) (.box w0.heap.size 29 E_impl_RuleSet p0))] ⟨Z, Z, N⟩
 obtain ⟨e61, c⟩ := ck_some c
 refine HT.u d j (eI y20 :: eI (y20 + 1) :: eI (y20 + 1) :: []) ?_ ?_
 exact om h5 <| op (fun Q U W H D=> of_add (D.g 0 Z) Z e61) <| oa <| oz
 intro R w m n p d j
 obtain ⟨h1, h3, h4⟩ := k3 n h1 h3 h4
 have h5 := p.r 2 Z
 replace f_u60 := f_u60.fr m
 replace q := q.fr m
 exact ei k (And.intro (Nat.lt_succ_self k) ⟨_, _, _, u60, c, d, j, B, q, h1, h3, h4, h5, f_u60⟩)
 have c := cnd_f c54 c
 obtain ⟨e62, c⟩ := ck_some c
 refine HT.u d j (eR u53 :: eF (.rep eStr A ((y19 ++ x50) ++ ([62, 61] : List UInt8))) :: eF (.rep eStr A ((y19 ++ x50) ++ ([62, 61] : List UInt8))) :: []) ?_ ?_
 exact om h3 <| op (fun Q U W H D=> of_cat ((f_u53.fr W).eq (D.g 0 Z)) ⟨_, Z, ⟨_, Z, Z, by decide⟩⟩ e62) <| op (fun Q U W H D=> of_assign (D.g 0 Z)) <| oz
 intro R w m n p d j
 obtain ⟨h1, h4, h5, h6⟩ := k4 n h1 h4 h5 h6
 obtain ⟨u63, h3, f_u63⟩ : ∃ u, R 3 = u ∧ Rep eStr A w u ((y19 ++ x50) ++ ([62, 61] : List UInt8)) := ⟨_, Z, p 2 _ _ Z Z Z⟩
 replace q := q.fr m
 obtain ⟨x64, q65, c⟩ := cl_some c
 obtain ⟨e66, c⟩ := ck_some c
 refine HT.u d j (eR u63 :: eR (.pointer (some ⟨b6_25, 1, none⟩)) :: eI ((gtD (gtD p0 y11) y20).2.1) :: eF (.rep eStr A x64) :: eF (.rep eStr A (((y19 ++ x50) ++ ([62, 61] : List UInt8)) ++ x64)) :: eF (.rep eStr A (((y19 ++ x50) ++ ([62, 61] : List UInt8)) ++ x64)) :: []) ?_ ?_
 exact om h3 <| op (fun Q U W H D=> of_fieldAddr_raw ((H 6 Z).trans h6) ff_82_1 Try.sizeOf3 (by decide) Z) <| op (fun Q U W H D=> OpF.int (of_load_box ((q.fr W).ok 1 _ Z).1 (D.g 0 Z) fl_impl_Test_1 Z Try.isAgg3 Try.sizeOf3)) <| op (fun Q U W H D=> of_call Try.call146 (M_spec_FormatInt_ok (q65 Z) (d.fr W.size) (D.g 0 Z))) <| op (fun Q U W H D=> of_cat ((f_u63.fr W).eq (D.g 0 Z)) (D.g 1 Z) e66) <| op (fun Q U W H D=> of_assign (D.g 0 Z)) <| oz
 intro R w m n p d j
 obtain ⟨h1, h4, h5⟩ := k3 n h1 h4 h5
 obtain ⟨u67, h3, f_u67⟩ : ∃ u, R 3 = u ∧ Rep eStr A w u (((y19 ++ x50) ++ ([62, 61] : List UInt8)) ++ x64) := ⟨_, Z, p 5 _ _ Z Z Z⟩
 replace q := q.fr m
 replace q : IniOK [ob (.pointer (some ⟨b1_0, 0, none⟩)) (.box w0.heap.size 29 E_impl_RuleSet p0)] A w := q.sub [(0, ob (.pointer (some ⟨b1_0, 0, none⟩)) (.box w0.heap.size 29 E_impl_RuleSet p0))] ⟨Z, Z, N⟩
 obtain ⟨e68, c⟩ := ck_some c
 refine HT.u d j (eI y20 :: eI (y20 + 1) :: eI (y20 + 1) :: []) ?_ ?_
 exact om h5 <| op (fun Q U W H D=> of_add (D.g 0 Z) Z e68) <| oa <| oz
 intro R w m n p d j
 obtain ⟨h1, h3, h4⟩ := k3 n h1 h3 h4
 have h5 := p.r 2 Z
 replace f_u67 := f_u67.fr m
 replace q := q.fr m
 exact ei k (And.intro (Nat.lt_succ_self k) ⟨_, _, _, u67, c, d, j, B, q, h1, h3, h4, h5, f_u67⟩)
 have c := cnd_f c22 c
 refine HT.exit ?_
 obtain rfl := si c
 exact ei _ ⟨_, wl_3, Z, d, j, B, q, h1, h3, h4, f_wl_3⟩
 rintro R w ⟨A, s18, wo_3, es, d, j, B, q, h1, h3, h4, f_wo_3⟩
 obtain rfl := es.symm
 obtain ⟨e69, c⟩ := ck_some c
 refine HT.u d j (eI y11 :: eI (y11 + 1) :: eI (y11 + 1) :: []) ?_ ?_
 exact om h4 <| op (fun Q U W H D=> of_add (D.g 0 Z) Z e69) <| oa <| oz
 intro R w m n p d j
 obtain ⟨h1, h3⟩ := k2 n h1 h3
 have h4 := p.r 2 Z
 replace f_wo_3 := f_wo_3.fr m
 replace q := q.fr m
 exact ei k (And.intro (Nat.lt_succ_self k) ⟨_, _, _, wo_3, c, d, j, B, q, h1, h3, h4, f_wo_3⟩)
 have c := cnd_f c13 c
 refine HT.skip ?_
 refine HT.su d j (eI 0 :: []) ?_ ?_
 exact op (fun Q U W H D=> of_assign Z) <| oz
 intro R w m n p d j
 obtain ⟨h1, h3, h4⟩ := k3 n h1 h3 h4
 have h5 := p.r 0 Z
 replace f_wl_3 := f_wl_3.fr m
 replace q := q.fr m
 obtain ⟨rl70, q71, c⟩ := cl_some c
 replace q71 := q71 Z
 refine HT.cut0 (fun R w => ∃ A : Av, ∃ (s72 : (List UInt8)) (wo_3 : Value), rl70 = s72 ∧ AvOK A w ∧ Fr w0 w ∧ (∀ b o, A0 b o → A b o) ∧ IniOK [ob (.pointer (some ⟨b1_0, 0, none⟩)) (.box w0.heap.size 29 E_impl_RuleSet p0)] A w ∧ R 1 = (.pointer (some ⟨b1_0, 0, none⟩)) ∧ R 3 = wo_3 ∧ R 4 = .int .i64 y11 ∧ Rep eStr A w wo_3 s72) ?_ ?_
 refine HT.block ?_
 refine HT.loop (fun k R w => ∃ A : Av, ∃ (y73 : List UInt8) (y74 : Int) (wl_3 : Value), M_spec_FormatRules_L2 fu p0 y11 k y73 y74 = some rl70 ∧ AvOK A w ∧ Fr w0 w ∧ (∀ b o, A0 b o → A b o) ∧ IniOK [ob (.pointer (some ⟨b1_0, 0, none⟩)) (.box w0.heap.size 29 E_impl_RuleSet p0)] A w ∧ R 1 = (.pointer (some ⟨b1_0, 0, none⟩)) ∧ R 3 = wl_3 ∧ R 4 = .int .i64 y11 ∧ R 5 = .int .i64 y74 ∧ Rep eStr A w wl_3 y73) fu ⟨_, _, _, wl_3, q71, d, j, B, q, h1, h3, h4, h5, f_wl_3⟩ ?_
 have hr0 := c; clear c q71
 rintro k R w ⟨A, y73, y74, wl_3, c, d, j, B, q, h1, h3, h4, h5, f_wl_3⟩
 rcases k with _ | k
 cases (show none = some _ from c)
 rw [M_spec_FormatRules_L2] at c
 refine HT.seq ?_
 obtain ⟨e75, c⟩ := ck_some c
 refine HT.su d j (eI y74 :: eR (.pointer (some ⟨b1_0, 0, none⟩)) :: eF (.rep (eSl E_impl_Rule) A p0) :: eI y11 :: eF (.qtr E_impl_Rule A (gtD p0 y11)) :: eF (.qtr (eSl E_impl_Test) A (gtD p0 y11)) :: eF (.rep (eSl E_impl_Test) A (gtD p0 y11)) :: eI ((gtD p0 y11).length : Int) :: eB (decide (y74 < ((gtD p0 y11).length : Int))) :: []) ?_ ?_
 exact om h5 <| op (fun Q U W H D=> of_fieldAddr_raw ((H 1 Z).trans h1) ff_29_0 Try.sizeOf27 (by decide) Z) <| op (fun Q U W H D=> (of_load_box ((q.fr W).ok 0 _ Z).1 (D.g 0 Z) fl_impl_RuleSet_0 Z Try.isAgg27 Try.sizeOf27)) <| om h4 <| op (fun Q U W H D=> of_indexAddr (D.g 0 Z) (D.g 1 Z) Try.underlying27 Try.sizeOf79 e75) <| op (fun Q U W H D=> of_fieldAddr_q (qt (D.g 0 Z)) ff_79_0 Try.sizeOf65 (by decide) fl_impl_Rule_0 Z) <| op (fun Q U W H D=> (of_load (QRep.ptr (D.g 0 Z)) Try.isAgg65 Try.sizeOf65)) <| op (fun Q U W H D=> of_len_sl (aT := #[]) (D.g 0 Z) Try.underlying65) <| op (fun Q U W H D=> of_lss (D.g 0 Z) (D.g 1 Z)) <| oz
 intro R w m n p d j
 obtain ⟨h1, h3, h4, h5⟩ := k4 n h1 h3 h4 h5
 have h29 := p.r 8 Z
 replace f_wl_3 := f_wl_3.fr m
 replace q := q.fr m
 refine HT.cond (decide (y74 < ((gtD p0 y11).length : Int))) h29 (fun c76 => ?_) (fun c76 => ?_)
 have c := cnd_t c76 c
 refine HT.skip ?_
 refine HT.seq ?_
 refine HT.block ?_
 obtain ⟨e77,e78,c⟩ := ck2 c
 refine HT.sx [ob (.pointer (some ⟨b1_0, 0, none⟩)) (.box w0.heap.size 29 E_impl_RuleSet p0)] (rR (.pointer (some ⟨b1_0, 0, none⟩)) :: (rF fun A => .rep (eSl E_impl_Rule) A p0) :: rI y11 :: (rF fun A => .qtr E_impl_Rule A (gtD p0 y11)) :: (rF fun A => .qtr (eSl E_impl_Test) A (gtD p0 y11)) :: (rF fun A => .rep (eSl E_impl_Test) A (gtD p0 y11)) :: rI y74 :: (rF fun A => .qtr E_impl_Test A (gtD (gtD p0 y11) y74)) :: (rF fun A => .rep E_impl_Test A (gtD (gtD p0 y11) y74)) :: ⟨_, true, [], some (.box w0.heap.size 82 E_impl_Test (0, (0, false))), true, fun A => .any⟩ :: ⟨_, true, [10], some (.box w0.heap.size 82 E_impl_Test (gtD (gtD p0 y11) y74)), false, fun A => .any⟩ :: []) (ur (up (ur (UAll.cons ust_qtr (UAll.cons ust_qtr (up (ur (UAll.cons ust_qtr (up (ua (ua (UAll.nil)))))))))))) q d ?_ ?_
 exact rp (fun V Q U O D=> of_fieldAddr_raw ((O.old 1 Z).trans h1) ff_29_0 Try.sizeOf27 (by decide) Z) <| rp (fun V Q U O D=> (of_load_box (O.rd 0 _ Z Z) (D.g 0 Z) fl_impl_RuleSet_0 Z Try.isAgg27 Try.sizeOf27)) <| rm h4 <| rp (fun V Q U O D=> of_indexAddr (D.g 0 Z) (D.g 1 Z) Try.underlying27 Try.sizeOf79 e77) <| rp (fun V Q U O D=> of_fieldAddr_q (qt (D.g 0 Z)) ff_79_0 Try.sizeOf65 (by decide) fl_impl_Rule_0 Z) <| rp (fun V Q U O D=> (of_load (QRep.ptr (D.g 0 Z)) Try.isAgg65 Try.sizeOf65)) <| rm h5 <| rp (fun V Q U O D=> of_indexAddr (D.g 0 Z) (D.g 1 Z) Try.underlying65 Try.sizeOf82 e78) <| rp (fun V Q U O D=> (of_load (QRep.ptr (D.g 0 Z)) Try.isAgg82 Try.sizeOf82)) <| rc (OblR.made _ Z Z Z Z fun V Q U O D=> by exact made_alloc Try.zeroValue82 (fun A w=> rep_pr rep1_int (rep_pr rep1_int rep1_bool)) (Nat.le_trans j.size O.ch.size)) <| rc (OblR.took 10 _ _ Z Z Z Z Z fun V Q U O D u X Y J L M=> by have a1 : Rep E_impl_Test V U (Q 40) (gtD (gtD p0 y11) y74) := D.g 1 Z; obtain ⟨b, hb, hB', hbx⟩ := X; have hop' := L _ _ Z Z Z Z; exact took_store a1 (hop'.symm.trans hb) hb ⟨b, hb, hB', hbx⟩ Y (FldS.id _) Try.sizeOf82 Z) <| rz
 intro done ρ σ A R w y s
 obtain ⟨h1, h3, h4, h5⟩ := k4 s.rg h1 h3 h4 h5
 have z79 := s.inivR 0 Z
 obtain ⟨b6_79, e_b6_79⟩ := s.boxv y 11 Z Z
 have z81 := (s.opnR y 11 10 Z Z Z Z Z).symm.trans e_b6_79
 have h6 := s.ov y 10 9 z81
 replace f_wl_3 := f_wl_3.stp s.stp
 obtain ⟨B,j,d⟩ := s.s B C j q ⟨Z, N⟩
 replace q := s.left y [(0, ob (.pointer (some ⟨b1_0, 0, none⟩)) (.box w0.heap.size 29 E_impl_RuleSet p0)), (11, ob (.pointer (some ⟨b6_79, 0, none⟩)) (.box w0.heap.size 82 E_impl_Test (gtD (gtD p0 y11) y74)))] ⟨Z, Z, z79, Z, Z, ⟨Z, Z, e_b6_79, Z, Z, N⟩⟩
 refine HT.seq ?_
 refine HT.su d j (eI y74 :: eB (decide (0 < y74)) :: []) ?_ ?_
 exact om h5 <| op (fun Q U W H D=> of_gtr (D.g 0 Z) Z) <| oz
 intro R w m n p d j
 obtain ⟨h1, h3, h4, h5, h6⟩ := k5 n h1 h3 h4 h5 h6
 have h42 := p.r 1 Z
 replace f_wl_3 := f_wl_3.fr m
 replace q := q.fr m
 refine HT.cond (decide (0 < y74)) h42 (fun c82 => ?_) (fun c82 => ?_)
 have c := cnd_t c82 c
 obtain ⟨e83, c⟩ := ck_some c
 refine HT.u d j (eR wl_3 :: eF (.rep eStr A (y73 ++ ([44] : List UInt8))) :: eF (.rep eStr A (y73 ++ ([44] : List UInt8))) :: []) ?_ ?_
 exact om h3 <| op (fun Q U W H D=> of_cat ((f_wl_3.fr W).eq (D.g 0 Z)) ⟨_, Z, ⟨_, Z, Z, by decide⟩⟩ e83) <| op (fun Q U W H D=> of_assign (D.g 0 Z)) <| oz
 intro R w m n p d j
 obtain ⟨h1, h4, h5, h6⟩ := k4 n h1 h4 h5 h6
 obtain ⟨u84, h3, f_u84⟩ : ∃ u, R 3 = u ∧ Rep eStr A w u (y73 ++ ([44] : List UInt8)) := ⟨_, Z, p 2 _ _ Z Z Z⟩
 replace q := q.fr m
 obtain ⟨x85, q86, c⟩ := cl_some c
 obtain ⟨e87, c⟩ := ck_some c
 refine HT.su d j (eR u84 :: eR (.pointer (some ⟨b6_79, 0, none⟩)) :: eI ((gtD (gtD p0 y11) y74).1) :: eF (.rep eStr A x85) :: eF (.rep eStr A ((y73 ++ ([44] : List UInt8)) ++ x85)) :: eF (.rep eStr A ((y73 ++ ([44] : List UInt8)) ++ x85)) :: []) ?_ ?_
 exact om h3 <| op (fun Q U W H D=> of_fieldAddr_raw ((H 6 Z).trans h6) ff_82_0 Try.sizeOf3 (by decide) Z) <| op (fun Q U W H D=> OpF.int (of_load_box ((q.fr W).ok 1 _ Z).1 (D.g 0 Z) fl_impl_Test_0 Z Try.isAgg3 Try.sizeOf3)) <| op (fun Q U W H D=> of_call Try.call144 (M_spec_FeatureName_ok (q86 Z) (d.fr W.size) (D.g 0 Z))) <| op (fun Q U W H D=> of_cat ((f_u84.fr W).eq (D.g 0 Z)) (D.g 1 Z) e87) <| op (fun Q U W H D=> of_assign (D.g 0 Z)) <| oz
 intro R w m n p d j
 obtain ⟨h1, h4, h5, h6⟩ := k4 n h1 h4 h5 h6
 obtain ⟨u88, h3, f_u88⟩ : ∃ u, R 3 = u ∧ Rep eStr A w u ((y73 ++ ([44] : List UInt8)) ++ x85) := ⟨_, Z, p 5 _ _ Z Z Z⟩
 replace q := q.fr m
 refine HT.seq ?_
 refine HT.su d j (eR (.pointer (some ⟨b6_79, 2, none⟩)) :: eB ((gtD (gtD p0 y11) y74).2.2) :: []) ?_ ?_
 exact op (fun Q U W H D=> of_fieldAddr_raw ((H 6 Z).trans h6) ff_82_2 Try.sizeOf4 (by decide) Z) <| op (fun Q U W H D=> OpF.bool (of_load_box ((q.fr W).ok 1 _ Z).1 (D.g 0 Z) fl_impl_Test_2 Z Try.isAgg4 Try.sizeOf4)) <| oz
 intro R w m n p d j
 obtain ⟨h1, h3, h4, h5, h6⟩ := k5 n h1 h3 h4 h5 h6
 have h51 := p.r 1 Z
 replace f_u88 := f_u88.fr m
 replace q := q.fr m
 refine HT.cond ((gtD (gtD p0 y11) y74).2.2) h51 (fun c89 => ?_) (fun c89 => ?_)
 have c := cnd_t c89 c
 obtain ⟨e90, c⟩ := ck_some c
 refine HT.u d j (eR u88 :: eF (.rep eStr A (((y73 ++ ([44] : List UInt8)) ++ x85) ++ ([60] : List UInt8))) :: eF (.rep eStr A (((y73 ++ ([44] : List UInt8)) ++ x85) ++ ([60] : List UInt8))) :: []) ?_ ?_
 exact om h3 <| op (fun Q U W H D=> of_cat ((f_u88.fr W).eq (D.g 0 Z)) ⟨_, Z, ⟨_, Z, Z, by decide⟩⟩ e90) <| op (fun Q U W H D=> of_assign (D.g 0 Z)) <| oz
 intro R w m n p d j
 obtain ⟨h1, h4, h5, h6⟩ := k4 n h1 h4 h5 h6
 obtain ⟨u91, h3, f_u91⟩ : ∃ u, R 3 = u ∧ Rep eStr A w u (((y73 ++ ([44] : List UInt8)) ++ x85) ++ ([60] : List UInt8)) := ⟨_, Z, p 2 _ _ Z Z Z⟩
 replace q := q.fr m
 obtain ⟨x92, q93, c⟩ := cl_some c
 obtain ⟨e94, c⟩ := ck_some c
 refine HT.u d j (eR u91 :: eR (.pointer (some ⟨b6_79, 1, none⟩)) :: eI ((gtD (gtD p0 y11) y74).2.1) :: eF (.rep eStr A x92) :: eF (.rep eStr A ((((y73 ++ ([44] : List UInt8)) ++ x85) ++ ([60] : List UInt8)) ++ x92)) :: eF (.rep eStr A ((((y73 ++ ([44] : List UInt8)) ++ x85) ++ ([60] : List UInt8)) ++ x92)) :: []) ?_ ?_
 exact om h3 <| op (fun Q U W H D=> of_fieldAddr_raw ((H 6 Z).trans h6) ff_82_1 Try.sizeOf3 (by decide) Z) <| op (fun Q U W H D=> OpF.int (of_load_box ((q.fr W).ok 1 _ Z).1 (D.g 0 Z) fl_impl_Test_1 Z Try.isAgg3 Try.sizeOf3)) <| op (fun Q U W H D=> of_call Try.call146 (M_spec_FormatInt_ok (q93 Z) (d.fr W.size) (D.g 0 Z))) <| op (fun Q U W H D=> of_cat ((f_u91.fr W).eq (D.g 0 Z)) (D.g 1 Z) e94) <| op (fun Q U W H D=> of_assign (D.g 0 Z)) <| oz
 intro R w m n p d j
 obtain ⟨h1, h4, h5⟩ := k3 n h1 h4 h5
 obtain ⟨u95, h3, f_u95⟩ : ∃ u, R 3 = u ∧ Rep eStr A w u ((((y73 ++ ([44] : List UInt8)) ++ x85) ++ ([60] : List UInt8)) ++ x92) := ⟨_, Z, p 5 _ _ Z Z Z⟩
 replace q := q.fr m
 replace q : IniOK [ob (.pointer (some ⟨b1_0, 0, none⟩)) (.box w0.heap.size 29 E_impl_RuleSet p0)] A w := q.sub [(0, ob (.pointer (some ⟨b1_0, 0, none⟩)) (.box w0.heap.size 29 E_impl_RuleSet p0))] ⟨Z, Z, N⟩
 obtain ⟨e96, c⟩ := ck_some c
 refine HT.u d j (eI y74 :: eI (y74 + 1) :: eI (y74 + 1) :: []) ?_ ?_
 exact om h5 <| op (fun Q U W H D=> of_add (D.g 0 Z) Z e96) <| oa <| oz
 intro R w m n p d j
 obtain ⟨h1, h3, h4⟩ := k3 n h1 h3 h4
 have h5 := p.r 2 Z
 replace f_u95 := f_u95.fr m
 replace q := q.fr m
 exact ei k (And.intro (Nat.lt_succ_self k) ⟨_, _, _, u95, c, d, j, B, q, h1, h3, h4, h5, f_u95⟩)
 have c := cnd_f c89 c
 obtain ⟨e97, c⟩ := ck_some c
 refine HT.u d j (eR u88 :: eF (.rep eStr A (((y73 ++ ([44] : List UInt8)) ++ x85) ++ ([62, 61] : List UInt8))) :: eF (.rep eStr A (((y73 ++ ([44] : List UInt8)) ++ x85) ++ ([62, 61] : List UInt8))) :: []) ?_ ?_
 exact om h3 <| op (fun Q U W H D=> of_cat ((f_u88.fr W).eq (D.g 0 Z)) ⟨_, Z, ⟨_, Z, Z, by decide⟩⟩ e97) <| op (fun Q U W H D=> of_assign (D.g 0 Z)) <| oz
 intro R w m n p d j
 obtain ⟨h1, h4, h5, h6⟩ := k4 n h1 h4 h5 h6
 obtain ⟨u98, h3, f_u98⟩ : ∃ u, R 3 = u ∧ Rep eStr A w u (((y73 ++ ([44] : List UInt8)) ++ x85) ++ ([62, 61] : List UInt8)) := ⟨_, Z, p 2 _ _ Z Z Z⟩
 replace q := q.fr m
 obtain ⟨x99, q100, c⟩ := cl_some c
 obtain ⟨e101, c⟩ := ck_some c
 refine HT.u d j (eR u98 :: eR (.pointer (some ⟨b6_79, 1, none⟩)) :: eI ((gtD (gtD p0 y11) y74).2.1) :: eF (.rep eStr A x99) :: eF (.rep eStr A ((((y73 ++ ([44] : List UInt8)) ++ x85) ++ ([62, 61] : List UInt8)) ++ x99)) :: eF (.rep eStr A ((((y73 ++ ([44] : List UInt8)) ++ x85) ++ ([62, 61] : List UInt8)) ++ x99)) :: []) ?_ ?_
 exact om h3 <| op (fun Q U W H D=> of_fieldAddr_raw ((H 6 Z).trans h6) ff_82_1 Try.sizeOf3 (by decide) Z) <| op (fun Q U W H D=> OpF.int (of_load_box ((q.fr W).ok 1 _ Z).1 (D.g 0 Z) fl_impl_Test_1 Z Try.isAgg3 Try.sizeOf3)) <| op (fun Q U W H D=> of_call Try.call146 (M_spec_FormatInt_ok (q100 Z) (d.fr W.size) (D.g 0 Z))) <| op (fun Q U W H D=> of_cat ((f_u98.fr W).eq (D.g 0 Z)) (D.g 1 Z) e101) <| op (fun Q U W H D=> of_assign (D.g 0 Z)) <| oz
 intro R w m n p d j
 obtain ⟨h1, h4, h5⟩ := k3 n h1 h4 h5
 obtain ⟨u102, h3, f_u102⟩ : ∃ u, R 3 = u ∧ Rep eStr A w u ((((y73 ++ ([44] : List UInt8)) ++ x85) ++ ([62, 61] : List UInt8)) ++ x99) := ⟨_, Z, p 5 _ _ Z Z Z⟩
 replace q := q.fr m
 replace q : IniOK [ob (.pointer (some ⟨b1_0, 0, none⟩)) (.box w0.heap.size 29 E_impl_RuleSet p0)] A w := q.sub [(0, ob (.pointer (some ⟨b1_0, 0, none⟩)) (.box w0.heap.size 29 E_impl_RuleSet p0))] ⟨Z, Z, N⟩
 obtain ⟨e103, c⟩ := ck_some c
 refine HT.u d j (eI y74 :: eI (y74 + 1) :: eI (y74 + 1) :: []) ?_ ?_
 exact om h5 <| op (fun Q U W H D=> of_add (D.g 0 Z) Z e103) <| oa <| oz
 intro R w m n p d j
 obtain ⟨h1, h3, h4⟩ := k3 n h1 h3 h4
 have h5 := p.r 2 Z
 replace f_u102 := f_u102.fr m
 replace q := q.fr m
 exact ei k (And.intro (Nat.lt_succ_self k) ⟨_, _, _, u102, c, d, j, B, q, h1, h3, h4, h5, f_u102⟩)
 have c := cnd_f c82 c
 refine HT.skip ?_
 obtain ⟨x104, q105, c⟩ := cl_some c
 obtain ⟨e106, c⟩ := ck_some c
 refine HT.su d j (eR wl_3 :: eR (.pointer (some ⟨b6_79, 0, none⟩)) :: eI ((gtD (gtD p0 y11) y74).1) :: eF (.rep eStr A x104) :: eF (.rep eStr A (y73 ++ x104)) :: eF (.rep eStr A (y73 ++ x104)) :: []) ?_ ?_
 exact om h3 <| op (fun Q U W H D=> of_fieldAddr_raw ((H 6 Z).trans h6) ff_82_0 Try.sizeOf3 (by decide) Z) <| op (fun Q U W H D=> OpF.int (of_load_box ((q.fr W).ok 1 _ Z).1 (D.g 0 Z) fl_impl_Test_0 Z Try.isAgg3 Try.sizeOf3)) <| op (fun Q U W H D=> of_call Try.call144 (M_spec_FeatureName_ok (q105 Z) (d.fr W.size) (D.g 0 Z))) <| op (fun Q U W H D=> of_cat ((f_wl_3.fr W).eq (D.g 0 Z)) (D.g 1 Z) e106) <| op (fun Q U W H D=> of_assign (D.g 0 Z)) <| oz
 intro R w m n p d j
 obtain ⟨h1, h4, h5, h6⟩ := k4 n h1 h4 h5 h6
 obtain ⟨u107, h3, f_u107⟩ : ∃ u, R 3 = u ∧ Rep eStr A w u (y73 ++ x104) := ⟨_, Z, p 5 _ _ Z Z Z⟩
 replace q := q.fr m
 refine HT.seq ?_
 refine HT.su d j (eR (.pointer (some ⟨b6_79, 2, none⟩)) :: eB ((gtD (gtD p0 y11) y74).2.2) :: []) ?_ ?_
 exact op (fun Q U W H D=> of_fieldAddr_raw ((H 6 Z).trans h6) ff_82_2 Try.sizeOf4 (by decide) Z) <| op (fun Q U W H D=> OpF.bool (of_load_box ((q.fr W).ok 1 _ Z).1 (D.g 0 Z) fl_impl_Test_2 Z Try.isAgg4 Try.sizeOf4)) <| oz
 intro R w m n p d j
 obtain ⟨h1, h3, h4, h5, h6⟩ := k5 n h1 h3 h4 h5 h6
 have h51 := p.r 1 Z
 replace f_u107 := f_u107.fr m
 replace q := q.fr m
 refine HT.cond ((gtD (gtD p0 y11) y74).2.2) h51 (fun c108 => ?_) (fun c108 => ?_)
 have c := cnd_t c108 c
 obtain ⟨e109, c⟩ := ck_some c
 refine HT.u d j (eR u107 :: eF (.rep eStr A ((y73 ++ x104) ++ ([60] : List UInt8))) :: eF (.rep eStr A ((y73 ++ x104) ++ ([60] : List UInt8))) :: []) ?_ ?_
 exact om h3 <| op (fun Q U W H D=> of_cat ((f_u107.fr W).eq (D.g 0 Z)) ⟨_, Z, ⟨_, Z, Z, by decide⟩⟩ e109) <| op (fun Q U W H D=> of_assign (D.g 0 Z)) <| oz
 intro R w m n p d j
 obtain ⟨h1, h4, h5, h6⟩ := k4 n h1 h4 h5 h6
 obtain ⟨u110, h3, f_u110⟩ : ∃ u, R 3 = u ∧ Rep eStr A w u ((y73 ++ x104) ++ ([60] : List UInt8)) := ⟨_, Z, p 2 _ _ Z Z Z⟩
 replace q := q.fr m
 obtain ⟨x111, q112, c⟩ := cl_some c
 obtain ⟨e113, c⟩ := ck_some c
 refine HT.u d j (eR u110 :: eR (.pointer (some ⟨b6_79, 1, none⟩)) :: eI ((gtD (gtD p0 y11) y74).2.1) :: eF (.rep eStr A x111) :: eF (.rep eStr A (((y73 ++ x104) ++ ([60] : List UInt8)) ++ x111)) :: eF (.rep eStr A (((y73 ++ x104) ++ ([60] : List UInt8)) ++ x111)) :: []) ?_ ?_
 exact om h3 <| op (fun Q U W H D=> of_fieldAddr_raw ((H 6 Z).trans h6) ff_82_1 Try.sizeOf3 (by decide) Z) <| op (fun Q U W H D=> OpF.int (of_load_box ((q.fr W).ok 1 _ Z).1 (D.g 0 Z) fl_impl_Test_1 Z Try.isAgg3 Try.sizeOf3)) <| op (fun Q U W H D=> of_call Try.call146 (M_spec_FormatInt_ok (q112 Z) (d.fr W.size) (D.g 0 Z))) <| op (fun Q U W H D=> of_cat ((f_u110.fr W).eq (D.g 0 Z)) (D.g 1 Z) e113) <| op (fun Q U W H D=> of_assign (D.g 0 Z)) <| oz
 intro R w m n p d j
 obtain ⟨h1, h4, h5⟩ := k3 n h1 h4 h5
 obtain ⟨u114, h3, f_u114⟩ : ∃ u, R 3 = u ∧ Rep eStr A w u (((y73 ++ x104) ++ ([60] : List UInt8)) ++ x111) := ⟨_, Z, p 5 _ _ Z Z Z⟩
 replace q := q.fr m
 replace q : IniOK [ob (.pointer (some ⟨b1_0, 0, none⟩)) (.box w0.heap.size 29 E_impl_RuleSet p0)] A w := q.sub [(0, ob (.pointer (some ⟨b1_0, 0, none⟩)) (.box w0.heap.size 29 E_impl_RuleSet p0))] ⟨Z, Z, N⟩
 obtain ⟨e115, c⟩ := ck_some c
 refine HT.u d j (eI y74 :: eI (y74 + 1) :: eI (y74 + 1) :: []) ?_ ?_
 exact om h5 <| op (fun Q U W H D=> of_add (D.g 0 Z) Z e115) <| oa <| oz
 intro R w m n p d j
 obtain ⟨h1, h3, h4⟩ := k3 n h1 h3 h4
 have h5 := p.r 2 Z
 replace f_u114 := f_u114.fr m
 replace q := q.fr m
 exact ei k (And.intro (Nat.lt_succ_self k) ⟨_, _, _, u114, c, d, j, B, q, h1, h3, h4, h5, f_u114⟩)
 have c := cnd_f c108 c
 obtain ⟨e116, c⟩ := ck_some c
 refine HT.u d j (eR u107 :: eF (.rep eStr A ((y73 ++ x104) ++ ([62, 61] : List UInt8))) :: eF (.rep eStr A ((y73 ++ x104) ++ ([62, 61] : List UInt8))) :: []) ?_ ?_
 exact om h3 <| op (fun Q U W H D=> of_cat ((f_u107.fr W).eq (D.g 0 Z)) ⟨_, Z, ⟨_, Z, Z, by decide⟩⟩ e116) <| op (fun Q U W H D=> of_assign (D.g 0 Z)) <| oz
 intro R w m n p d j
 obtain ⟨h1, h4, h5, h6⟩ := k4 n h1 h4 h5 h6
 obtain ⟨u117, h3, f_u117⟩ : ∃ u, R 3 = u ∧ Rep eStr A w u ((y73 ++ x104) ++ ([62, 61] : List UInt8)) := ⟨_, Z, p 2 _ _ Z Z Z⟩
 replace q := q.fr m
 obtain ⟨x118, q119, c⟩ := cl_some c
 obtain ⟨e120, c⟩ := ck_some c
 refine HT.u d j (eR u117 :: eR (.pointer (some ⟨b6_79, 1, none⟩)) :: eI ((gtD (gtD p0 y11) y74).2.1) :: eF (.rep eStr A x118) :: eF (.rep eStr A (((y73 ++ x104) ++ ([62, 61] : List UInt8)) ++ x118)) :: eF (.rep eStr A (((y73 ++ x104) ++ ([62, 61] : List UInt8)) ++ x118)) :: []) ?_ ?_
 exact om h3 <| op (fun Q U W H D=> of_fieldAddr_raw ((H 6 Z).trans h6) ff_82_1 Try.sizeOf3 (by decide) Z) <| op (fun Q U W H D=> OpF.int (of_load_box ((q.fr W).ok 1 _ Z).1 (D.g 0 Z) fl_impl_Test_1 Z Try.isAgg3 Try.sizeOf3)) <| op (fun Q U W H D=> of_call Try.call146 (M_spec_FormatInt_ok (q119 Z) (d.fr W.size) (D.g 0 Z))) <| op (fun Q U W H D=> of_cat ((f_u117.fr W).eq (D.g 0 Z)) (D.g 1 Z) e120) <| op (fun Q U W H D=> of_assign (D.g 0 Z)) <| oz
 intro R w m n p d j
 obtain ⟨h1, h4, h5⟩ := k3 n h1 h4 h5
 obtain ⟨u121, h3, f_u121⟩ : ∃ u, R 3 = u ∧ Rep eStr A w u (((y73 ++ x104) ++ ([62, 61] : List UInt8)) ++ x118) := ⟨_, Z, p 5 _ _ Z Z Z⟩
 replace q := q.fr m
 replace q : IniOK [ob (.pointer (some ⟨b1_0, 0, none⟩)) (.box w0.heap.size 29 E_impl_RuleSet p0)] A w := q.sub [(0, ob (.pointer (some ⟨b1_0, 0, none⟩)) (.box w0.heap.size 29 E_impl_RuleSet p0))] ⟨Z, Z, N⟩
 obtain ⟨e122, c⟩ := ck_some c
 refine HT.u d j (eI y74 :: eI (y74 + 1) :: eI (y74 + 1) :: []) ?_ ?_
 exact om h5 <| op (fun Q U W H D=> of_add (D.g 0 Z) Z e122) <| oa <| oz
 intro R w m n p d j
 obtain ⟨h1, h3, h4⟩ := k3 n h1 h3 h4
 have h5 := p.r 2 Z
 replace f_u121 := f_u121.fr m
 replace q := q.fr m
 exact ei k (And.intro (Nat.lt_succ_self k) ⟨_, _, _, u121, c, d, j, B, q, h1, h3, h4, h5, f_u121⟩)
 have c := cnd_f c76 c
 refine HT.exit ?_
 obtain rfl := si c
 exact ei _ ⟨_, wl_3, Z, d, j, B, q, h1, h3, h4, f_wl_3⟩
 rintro R w ⟨A, s72, wo_3, es, d, j, B, q, h1, h3, h4, f_wo_3⟩
 obtain rfl := es.symm
 obtain ⟨e123, c⟩ := ck_some c
 refine HT.u d j (eI y11 :: eI (y11 + 1) :: eI (y11 + 1) :: []) ?_ ?_
 exact om h4 <| op (fun Q U W H D=> of_add (D.g 0 Z) Z e123) <| oa <| oz
 intro R w m n p d j
 obtain ⟨h1, h3⟩ := k2 n h1 h3
 have h4 := p.r 2 Z
 replace f_wo_3 := f_wo_3.fr m
 replace q := q.fr m
 exact ei k (And.intro (Nat.lt_succ_self k) ⟨_, _, _, wo_3, c, d, j, B, q, h1, h3, h4, f_wo_3⟩)
 have c := cnd_f c12 c
 refine HT.exit ?_
 obtain rfl := si c
 replace q : IniOK [] A w := q.sub [] N
 exact ei _ ⟨_, wl_3, Z, d, j, B, q, h3, f_wl_3⟩
 rintro R w ⟨A, s9, wo_3, es, d, j, B, q, h3, f_wo_3⟩
 obtain rfl := es.symm
 refine HT.su d j (eR wo_3 :: eR wo_3 :: []) ?_ ?_
 exact om h3 <| oa <| oz
 intro R w m n p d j
 have h2 := p.r 1 Z
 replace f_wo_3 := f_wo_3.fr m
 replace q := q.fr m
 refine HT.ret ?_
 obtain rfl := si c
 exact ⟨.inr Z, [R 2], ⟨Z, N⟩, (f_wo_3.eq h2).down B, j⟩
end Go.Proofs.Ytmkgocdgkdglnaa
