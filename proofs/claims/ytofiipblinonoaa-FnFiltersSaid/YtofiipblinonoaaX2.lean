/- Printed by dec.py: plain functions and the proofs that the code computes them. No statement of the seat is proved here. -/
import Derived.Test.YtofiipblinonoaaX1
namespace Go.Proofs.Ytofiipblinonoaa
open Go.RowKit
set_option linter.unusedVariables false
set_option maxRecDepth 100000
set_option maxHeartbeats 4000000
def M_spec_l1Spoil (fu : Nat) (p0 : T_spec_l1Cur) (p1 : List UInt8) : Option ((List UInt8) × T_spec_l1Cur) :=
 bif ((p1.length : Int) == (0 : Int)) then (
  cl true (M_spec_l1Text fu p0 (3 : Int)) fun x3 =>
  some (x3.1, x3.2)
 ) else (
  cl true (M_spec_l1Below fu p0 (p1.length : Int)) fun x8 =>
  cl true (M_spec_l1Below fu x8.2 (4 : Int)) fun x12 =>
  bif (x12.1 == (0 : Int)) then (
   ck (subR 0 x8.1 p1.length) <|
   ck (i64B (x8.1 + (1 : Int))) <|
   ck (subR (x8.1 + (1 : Int)) (p1.length : Int) p1.length) <|
   ck (lenOK ((subL p1 0 x8.1) ++ (subL p1 (x8.1 + (1 : Int)) (p1.length : Int))).length) <|
   some (((subL p1 0 x8.1) ++ (subL p1 (x8.1 + (1 : Int)) (p1.length : Int))), x12.2)
  ) else (
   bif (x12.1 == (1 : Int)) then (
    ck (subR 0 x8.1 p1.length) <|
    cl true (M_spec_l1Byte fu x12.2) fun x22 =>
    ck (lenOK ((subL p1 0 x8.1) ++ (strB ([(IntKind.u8.wrap x22.1)] : List Int))).length) <|
    ck (subR x8.1 (p1.length : Int) p1.length) <|
    ck (lenOK (((subL p1 0 x8.1) ++ (strB ([(IntKind.u8.wrap x22.1)] : List Int))) ++ (subL p1 x8.1 (p1.length : Int))).length) <|
    some ((((subL p1 0 x8.1) ++ (strB ([(IntKind.u8.wrap x22.1)] : List Int))) ++ (subL p1 x8.1 (p1.length : Int))), x22.2)
   ) else (
    bif (x12.1 == (2 : Int)) then (
     ck (subR 0 x8.1 p1.length) <|
     some ((subL p1 0 x8.1), x12.2)
    ) else (
     ck (subR 0 x8.1 p1.length) <|
     ck (inR x8.1 p1.length) <|
     cl true (M_spec_l1Below fu x12.2 (255 : Int)) fun x35 =>
     ck (i64B ((1 : Int) + x35.1)) <|
     ck (lenOK ((subL p1 0 x8.1) ++ (strB ([(IntKind.u8.wrap (bitI (fun u v => u ^^^ v) .i64 (IntKind.i64.wrap (bAt p1 x8.1)) ((1 : Int) + x35.1)))] : List Int))).length) <|
     ck (i64B (x8.1 + (1 : Int))) <|
     ck (subR (x8.1 + (1 : Int)) (p1.length : Int) p1.length) <|
     ck (lenOK (((subL p1 0 x8.1) ++ (strB ([(IntKind.u8.wrap (bitI (fun u v => u ^^^ v) .i64 (IntKind.i64.wrap (bAt p1 x8.1)) ((1 : Int) + x35.1)))] : List Int))) ++ (subL p1 (x8.1 + (1 : Int)) (p1.length : Int))).length) <|
     some ((((subL p1 0 x8.1) ++ (strB ([(IntKind.u8.wrap (bitI (fun u v => u ^^^ v) .i64 (IntKind.i64.wrap (bAt p1 x8.1)) ((1 : Int) + x35.1)))] : List Int))) ++ (subL p1 (x8.1 + (1 : Int)) (p1.length : Int))), x35.2)
    )
   )
  )
 )
theorem M_spec_l1Spoil_ok {fu : Nat} {Aq : Av} {p0 : T_spec_l1Cur} {p1 : List UInt8} {r : (List UInt8) × T_spec_l1Cur} (hr : M_spec_l1Spoil fu p0 p1 = some r) {w : World} {v0 : Value} {v1 : Value} {b0 B0 : Nat} (hA : AvOK Aq w) (h0 : v0 = .pointer (some ⟨b0, 0, none⟩)) (hO0 : IniOK [ob (.pointer (some ⟨b0, 0, none⟩)) (.box B0 108 E_spec_l1Cur p0)] Aq w) (h1 : Rep eStr Aq w v1 p1) :
  Calls Try.prog 100 #[v0, v1] w fun e w' => ∃ v, e = .returned v ∧ (∃ (A1 : Av), GPost (subS Aq (ownsB (.pointer (some ⟨b0, 0, none⟩)))) (ownsB (.pointer (some ⟨b0, 0, none⟩))) w [ob (.pointer (some ⟨b0, 0, none⟩)) (.box B0 108 E_spec_l1Cur r.2)] A1 w' ∧ (Fact.rep eStr A1 r.1).ok v w') := by
 unfold M_spec_l1Spoil at hr
 obtain ⟨w0, hw0⟩ : ∃ w0, w0 = w := ⟨_, rfl⟩
 have hF : Ch (ownsB (.pointer (some ⟨b0, 0, none⟩))) w0 w := hw0 ▸ Ch.refl _ _
 obtain ⟨A0, hA0e⟩ : ∃ A0, A0 = subS Aq (ownsB (.pointer (some ⟨b0, 0, none⟩))) := ⟨_, rfl⟩
 have hA0 : ∀ b o, A0 b o → b < w0.heap.size := fun b o h => hw0 ▸ hA b o (hA0e ▸ h : subS Aq _ b o).1
 have hN : ∀ b o, A0 b o → ¬ (ownsB (.pointer (some ⟨b0, 0, none⟩))) b := fun b o h => (hA0e ▸ h : subS Aq _ b o).2
 have hA00 : AvOK A0 w0 := hA0
 rw [show GPost (subS Aq (ownsB (.pointer (some ⟨b0, 0, none⟩)))) (ownsB (.pointer (some ⟨b0, 0, none⟩))) w = GPost A0 (ownsB (.pointer (some ⟨b0, 0, none⟩))) w0 from by rw [hA0e, hw0]]
 clear hw0
 obtain ⟨A, hAe⟩ : ∃ A, A = Aq := ⟨_, rfl⟩
 have hAA : ∀ b o, A0 b o → A b o := fun b o h => hAe ▸ (hA0e ▸ h : subS Aq _ b o).1
 replace hA : AvOK A w := hAe ▸ hA
 have hO : IniOK [ob (.pointer (some ⟨b0, 0, none⟩)) (.box B0 108 E_spec_l1Cur p0)] A w := hAe ▸ hO0
 clear hA0e hO0
 refine calls_of_HT2 [.tmp 4] Try.func100 Try.ntmps100 (by decide) rfl rfl (Nat.le_of_ble_eq_true rfl) ?_
 intro R hR
 replace h0 : R 0 = .pointer (some ⟨b0, 0, none⟩) := (hR 0 _ rfl).trans h0
 have f_v1 : Rep eStr A w v1 p1 := hAe ▸ h1
 replace h1 : R 1 = v1 := hR 1 _ rfl
 clear hR hAe
 refine HT.seq ?_
 refine HT.text (l := ⟨_, true, .rep eStr A ([] : List UInt8)⟩ :: []) (tl := []) (by kernel_rfl) (by kernel_rfl) (by kernel_rfl) ?_ ?_
 ·exact
   Obls.p (fun R' w' hw hs hd => of_assign ⟨_, rfl, ⟨_, rfl, rfl, by decide⟩⟩) <|
   Obls.nil
 intro R w hw hs hF'
 replace h0 := (hs 0 rfl).trans h0
 replace h1 := (hs 1 rfl).trans h1
 replace f_v1 := f_v1.fr hw
 replace hO := hO.fr hw
 replace hA := hA.fr hw.size
 replace hF := hF.tr (hw.ch noB) fun _ h => False.elim h
 clear hs hF' hw
 refine seqR_nil ?_
 refine HT.seq ?_
 refine HT.seq ?_
 refine HT.text (l := ⟨_, true, .raw v1⟩ :: ⟨_, true, .raw (.int .i64 (p1.length : Int))⟩ :: ⟨_, true, .raw (.bool ((p1.length : Int) == (0 : Int)))⟩ :: []) (tl := []) (by kernel_rfl) (by kernel_rfl) (by kernel_rfl) ?_ ?_
 ·exact
   Obls.p (fun R' w' hw hs hd => of_move ((hs 1 rfl).trans h1)) <|
   Obls.p (fun R' w' hw hs hd => by have a0 : R' 6 = v1 := hd.g 0 rfl; have ra0 := (f_v1.fr hw).eq a0; exact of_len_str ra0 Try.underlying9) <|
   Obls.p (fun R' w' hw hs hd => by have a0 : R' 7 = .int .i64 (p1.length : Int) := hd.g 0 rfl; exact of_eql a0 rfl) <|
   Obls.nil
 intro R w hw hs hF'
 replace h0 := (hs 0 rfl).trans h0
 replace h1 := (hs 1 rfl).trans h1
 have h8 : R 8 = .bool ((p1.length : Int) == (0 : Int)) := hF' 2 _ _ rfl rfl rfl
 replace f_v1 := f_v1.fr hw
 replace hO := hO.fr hw
 replace hA := hA.fr hw.size
 replace hF := hF.tr (hw.ch noB) fun _ h => False.elim h
 clear hs hF' hw
 refine seqR_nil ?_
 refine HT.cond ((p1.length : Int) == (0 : Int)) h8 (fun c1 => ?_) (fun c1 => ?_)
 ·have hr := cnd_t c1 hr
  refine HT.seq ?_
  refine SG.of ?_
  refine SG.textR [ob (.pointer (some ⟨b0, 0, none⟩)) (.box B0 108 E_spec_l1Cur p0)] (⟨_, true, [], none, true, fun A => .raw (.pointer (some ⟨b0, 0, none⟩))⟩ :: []) 1 rfl rfl rfl (by kernel_rfl) (by kernel_rfl) (Wf.mk' (by kernel_rfl) (UAll.cons ust_raw (UAll.nil)) (by kernel_rfl) (by kernel_rfl)) hO hA (trivial) ?_ ?_
  ·exact
    OblsR.p (fun A' R' w' ho hd => of_move ((ho.old 0 rfl).trans h0)) <|
    OblsR.nil
  intro done ρ σ A R w hdn hI
  have z2 := hI.inivR 0 rfl
  have h9 : R 9 = (.pointer (some ⟨b0, 0, none⟩)) := hI.fact hdn (i := 0) rfl rfl rfl
  replace hAA := hI.lowK hAA hA0 hN (hO.geK (⟨.inr (fun k h => .inr h), trivial⟩))
  replace hF : Ch (ownsB (.pointer (some ⟨b0, 0, none⟩))) w0 w := hF.tr hI.ch (hO.geK (⟨.inr (fun k h => .inr h), trivial⟩))
  replace hO : IniOK [ob (.pointer (some ⟨b0, 0, none⟩)) (.box B0 108 E_spec_l1Cur p0)] A w := hI.left hdn [(0, ob (.pointer (some ⟨b0, 0, none⟩)) (.box B0 108 E_spec_l1Cur p0))] ⟨rfl, rfl, z2, rfl, rfl, trivial⟩
  replace hA := hI.avok
  clear hI
  obtain ⟨x3, q4, hr⟩ := cl_some hr
  have hFz : w0.heap.size ≤ w.heap.size := hF.size
  refine SG.op 10 rfl rfl rfl rfl (call_run Try.call132 (M_spec_l1Text_ok (q4 rfl) hA h9 (hO.sub [(0, ob (.pointer (some ⟨b0, 0, none⟩)) (.box B0 108 E_spec_l1Cur p0))] ⟨rfl, rfl, trivial⟩) rfl)) ?_
  rintro v_ w ⟨A, hG1, hv⟩ R hs hd
  have hst := stp_call hA hG1 (hO.ok 0 _ rfl).2
  replace hAA : ∀ b o, A0 b o → A b o := low_callK hAA hA0 hN (hO.geK (⟨.inr (fun k h => .inr h), trivial⟩)) 0 rfl hG1
  replace hF : Ch (ownsB (.pointer (some ⟨b0, 0, none⟩))) w0 w := hF.tr hG1.ch (fun k hk => (hO.geK (⟨.inr (fun k h => .inr h), trivial⟩)) k ⟨0, _, rfl, hk⟩)
  replace hO := GPost.next hO hA 0 rfl hG1
  replace hA := hG1.avok
  replace hO : IniOK [ob (.pointer (some ⟨b0, 0, none⟩)) (.box B0 108 E_spec_l1Cur x3.2)] A w := hO
  replace h9 := (hs 9 rfl).trans h9
  obtain ⟨u5, h10, f_u5⟩ : ∃ u, R 10 = u ∧ Rep eStr A w u x3.1 := ⟨_, rfl, hd ▸ hv⟩
  clear hFz hG1 hv hs hd
  refine SG.textR [ob (.pointer (some ⟨b0, 0, none⟩)) (.box B0 108 E_spec_l1Cur x3.2)] (⟨_, true, [], none, true, fun A => .raw (.pointer (some ⟨b0, 0, none⟩))⟩ :: ⟨_, true, [], none, true, fun A => .raw u5⟩ :: ⟨_, true, [], none, true, fun A => .raw u5⟩ :: []) 3 rfl rfl rfl (by kernel_rfl) (by kernel_rfl) (Wf.mk' (by kernel_rfl) (UAll.cons ust_raw (UAll.cons ust_raw (UAll.cons ust_raw (UAll.nil)))) (by kernel_rfl) (by kernel_rfl)) hO hA (⟨⟨rfl, rfl, rfl, h9⟩, ⟨⟨rfl, rfl, rfl, h10⟩, trivial⟩⟩) ?_ ?_
  ·exact
    OblsR.p (fun A' R' w' ho hd => by have a0 : R' 10 = u5 := hd.g 0 rfl; exact of_assign a0) <|
    OblsR.nil
  intro done ρ σ A R w hdn hI
  have z6 := hI.inivR 0 rfl
  have h4 : R 4 = u5 := hI.fact hdn (i := 2) rfl rfl rfl
  replace f_u5 := f_u5.stp hI.stp
  replace hAA := hI.lowK hAA hA0 hN (hO.geK (⟨.inr (fun k h => .inr h), trivial⟩))
  replace hF : Ch (ownsB (.pointer (some ⟨b0, 0, none⟩))) w0 w := hF.tr hI.ch (hO.geK (⟨.inr (fun k h => .inr h), trivial⟩))
  replace hO : IniOK [ob (.pointer (some ⟨b0, 0, none⟩)) (.box B0 108 E_spec_l1Cur x3.2)] A w := hI.left hdn [(0, ob (.pointer (some ⟨b0, 0, none⟩)) (.box B0 108 E_spec_l1Cur x3.2))] ⟨rfl, rfl, z6, rfl, rfl, trivial⟩
  replace hA := hI.avok
  clear hI
  refine SG.fin rfl ?_
  refine HT.ret ?_
  obtain rfl := Option.some.inj hr
  obtain ⟨A1, hA1, hG1⟩ := GPost.of hO hA hAA (hO.geK (⟨.inr (fun k h => .inr h), trivial⟩)) hF
  exact ⟨.inr rfl, [R 4], ⟨rfl, trivial⟩, A1, hG1, (f_u5.eq h4).down hA1⟩
 ·have hr := cnd_f c1 hr
  refine HT.skip ?_
  refine HT.seq ?_
  refine SG.of ?_
  refine SG.textR [ob (.pointer (some ⟨b0, 0, none⟩)) (.box B0 108 E_spec_l1Cur p0)] (⟨_, true, [], none, true, fun A => .raw (.pointer (some ⟨b0, 0, none⟩))⟩ :: ⟨_, true, [], none, true, fun A => .raw v1⟩ :: ⟨_, true, [], none, true, fun A => .raw (.int .i64 (p1.length : Int))⟩ :: []) 3 rfl rfl rfl (by kernel_rfl) (by kernel_rfl) (Wf.mk' (by kernel_rfl) (UAll.cons ust_raw (UAll.cons ust_raw (UAll.cons ust_raw (UAll.nil)))) (by kernel_rfl) (by kernel_rfl)) hO hA (trivial) ?_ ?_
  ·exact
    OblsR.p (fun A' R' w' ho hd => of_move ((ho.old 0 rfl).trans h0)) <|
    OblsR.p (fun A' R' w' ho hd => of_move ((ho.old 1 rfl).trans h1)) <|
    OblsR.p (fun A' R' w' ho hd => by have a0 : R' 12 = v1 := hd.g 0 rfl; have ra0 := (f_v1.stp ho.stp).eq a0; exact of_len_str ra0 Try.underlying9) <|
    OblsR.nil
  intro done ρ σ A R w hdn hI
  replace h0 : R 0 = (.pointer (some ⟨b0, 0, none⟩)) := (hI.reg rfl).trans h0
  replace h1 : R 1 = v1 := (hI.reg rfl).trans h1
  have z7 := hI.inivR 0 rfl
  have h11 : R 11 = (.pointer (some ⟨b0, 0, none⟩)) := hI.fact hdn (i := 0) rfl rfl rfl
  have h13 : R 13 = .int .i64 (p1.length : Int) := hI.fact hdn (i := 2) rfl rfl rfl
  replace f_v1 := f_v1.stp hI.stp
  replace hAA := hI.lowK hAA hA0 hN (hO.geK (⟨.inr (fun k h => .inr h), trivial⟩))
  replace hF : Ch (ownsB (.pointer (some ⟨b0, 0, none⟩))) w0 w := hF.tr hI.ch (hO.geK (⟨.inr (fun k h => .inr h), trivial⟩))
  replace hO : IniOK [ob (.pointer (some ⟨b0, 0, none⟩)) (.box B0 108 E_spec_l1Cur p0)] A w := hI.left hdn [(0, ob (.pointer (some ⟨b0, 0, none⟩)) (.box B0 108 E_spec_l1Cur p0))] ⟨rfl, rfl, z7, rfl, rfl, trivial⟩
  replace hA := hI.avok
  clear hI
  obtain ⟨x8, q9, hr⟩ := cl_some hr
  have hFz : w0.heap.size ≤ w.heap.size := hF.size
  refine SG.op 14 rfl rfl rfl rfl (call_run Try.call64 (M_spec_l1Below_ok (q9 rfl) hA h11 (hO.sub [(0, ob (.pointer (some ⟨b0, 0, none⟩)) (.box B0 108 E_spec_l1Cur p0))] ⟨rfl, rfl, trivial⟩) h13)) ?_
  rintro v_ w ⟨A, hG1, hv⟩ R hs hd
  have hst := stp_call hA hG1 (hO.ok 0 _ rfl).2
  replace hAA : ∀ b o, A0 b o → A b o := low_callK hAA hA0 hN (hO.geK (⟨.inr (fun k h => .inr h), trivial⟩)) 0 rfl hG1
  replace hF : Ch (ownsB (.pointer (some ⟨b0, 0, none⟩))) w0 w := hF.tr hG1.ch (fun k hk => (hO.geK (⟨.inr (fun k h => .inr h), trivial⟩)) k ⟨0, _, rfl, hk⟩)
  replace hO := GPost.next hO hA 0 rfl hG1
  replace hA := hG1.avok
  replace hO : IniOK [ob (.pointer (some ⟨b0, 0, none⟩)) (.box B0 108 E_spec_l1Cur x8.2)] A w := hO
  replace h0 := (hs 0 rfl).trans h0
  replace h1 := (hs 1 rfl).trans h1
  replace h11 := (hs 11 rfl).trans h11
  replace h13 := (hs 13 rfl).trans h13
  replace f_v1 := f_v1.stp hst
  have h14 : R 14 = .int .i64 x8.1 := hd.trans hv
  clear hFz hG1 hv hs hd
  refine SG.textR [ob (.pointer (some ⟨b0, 0, none⟩)) (.box B0 108 E_spec_l1Cur x8.2)] (⟨_, true, [], none, true, fun A => .raw (.pointer (some ⟨b0, 0, none⟩))⟩ :: ⟨_, true, [], none, true, fun A => .any⟩ :: ⟨_, true, [], none, true, fun A => .raw (.int .i64 (p1.length : Int))⟩ :: ⟨_, true, [], none, true, fun A => .raw (.int .i64 x8.1)⟩ :: ⟨_, true, [], none, true, fun A => .raw (.int .i64 x8.1)⟩ :: []) 5 rfl rfl rfl (by kernel_rfl) (by kernel_rfl) (Wf.mk' (by kernel_rfl) (UAll.cons ust_raw (UAll.cons ust_any (UAll.cons ust_raw (UAll.cons ust_raw (UAll.cons ust_raw (UAll.nil)))))) (by kernel_rfl) (by kernel_rfl)) hO hA (⟨⟨rfl, rfl, rfl, h11⟩, ⟨⟨rfl, rfl, rfl, trivial⟩, ⟨⟨rfl, rfl, rfl, h13⟩, ⟨⟨rfl, rfl, rfl, h14⟩, trivial⟩⟩⟩⟩) ?_ ?_
  ·exact
    OblsR.p (fun A' R' w' ho hd => by have a0 : R' 14 = .int .i64 x8.1 := hd.g 0 rfl; exact of_assign a0) <|
    OblsR.nil
  intro done ρ σ A R w hdn hI
  replace h0 : R 0 = (.pointer (some ⟨b0, 0, none⟩)) := (hI.reg rfl).trans h0
  replace h1 : R 1 = v1 := (hI.reg rfl).trans h1
  have z10 := hI.inivR 0 rfl
  have h5 : R 5 = .int .i64 x8.1 := hI.fact hdn (i := 4) rfl rfl rfl
  replace f_v1 := f_v1.stp hI.stp
  replace hAA := hI.lowK hAA hA0 hN (hO.geK (⟨.inr (fun k h => .inr h), trivial⟩))
  replace hF : Ch (ownsB (.pointer (some ⟨b0, 0, none⟩))) w0 w := hF.tr hI.ch (hO.geK (⟨.inr (fun k h => .inr h), trivial⟩))
  replace hO : IniOK [ob (.pointer (some ⟨b0, 0, none⟩)) (.box B0 108 E_spec_l1Cur x8.2)] A w := hI.left hdn [(0, ob (.pointer (some ⟨b0, 0, none⟩)) (.box B0 108 E_spec_l1Cur x8.2))] ⟨rfl, rfl, z10, rfl, rfl, trivial⟩
  replace hA := hI.avok
  clear hI
  refine SG.fin rfl ?_
  refine HT.seq ?_
  refine HT.seq ?_
  refine SG.of ?_
  refine SG.textR [ob (.pointer (some ⟨b0, 0, none⟩)) (.box B0 108 E_spec_l1Cur x8.2)] (⟨_, true, [], none, true, fun A => .raw (.pointer (some ⟨b0, 0, none⟩))⟩ :: []) 1 rfl rfl rfl (by kernel_rfl) (by kernel_rfl) (Wf.mk' (by kernel_rfl) (UAll.cons ust_raw (UAll.nil)) (by kernel_rfl) (by kernel_rfl)) hO hA (trivial) ?_ ?_
  ·exact
    OblsR.p (fun A' R' w' ho hd => of_move ((ho.old 0 rfl).trans h0)) <|
    OblsR.nil
  intro done ρ σ A R w hdn hI
  replace h0 : R 0 = (.pointer (some ⟨b0, 0, none⟩)) := (hI.reg rfl).trans h0
  replace h1 : R 1 = v1 := (hI.reg rfl).trans h1
  replace h5 : R 5 = .int .i64 x8.1 := (hI.reg rfl).trans h5
  have z11 := hI.inivR 0 rfl
  have h15 : R 15 = (.pointer (some ⟨b0, 0, none⟩)) := hI.fact hdn (i := 0) rfl rfl rfl
  replace f_v1 := f_v1.stp hI.stp
  replace hAA := hI.lowK hAA hA0 hN (hO.geK (⟨.inr (fun k h => .inr h), trivial⟩))
  replace hF : Ch (ownsB (.pointer (some ⟨b0, 0, none⟩))) w0 w := hF.tr hI.ch (hO.geK (⟨.inr (fun k h => .inr h), trivial⟩))
  replace hO : IniOK [ob (.pointer (some ⟨b0, 0, none⟩)) (.box B0 108 E_spec_l1Cur x8.2)] A w := hI.left hdn [(0, ob (.pointer (some ⟨b0, 0, none⟩)) (.box B0 108 E_spec_l1Cur x8.2))] ⟨rfl, rfl, z11, rfl, rfl, trivial⟩
  replace hA := hI.avok
  clear hI
  obtain ⟨x12, q13, hr⟩ := cl_some hr
  have hFz : w0.heap.size ≤ w.heap.size := hF.size
  refine SG.op 16 rfl rfl rfl rfl (call_run Try.call64 (M_spec_l1Below_ok (q13 rfl) hA h15 (hO.sub [(0, ob (.pointer (some ⟨b0, 0, none⟩)) (.box B0 108 E_spec_l1Cur x8.2))] ⟨rfl, rfl, trivial⟩) rfl)) ?_
  rintro v_ w ⟨A, hG1, hv⟩ R hs hd
  have hst := stp_call hA hG1 (hO.ok 0 _ rfl).2
  replace hAA : ∀ b o, A0 b o → A b o := low_callK hAA hA0 hN (hO.geK (⟨.inr (fun k h => .inr h), trivial⟩)) 0 rfl hG1
  replace hF : Ch (ownsB (.pointer (some ⟨b0, 0, none⟩))) w0 w := hF.tr hG1.ch (fun k hk => (hO.geK (⟨.inr (fun k h => .inr h), trivial⟩)) k ⟨0, _, rfl, hk⟩)
  replace hO := GPost.next hO hA 0 rfl hG1
  replace hA := hG1.avok
  replace hO : IniOK [ob (.pointer (some ⟨b0, 0, none⟩)) (.box B0 108 E_spec_l1Cur x12.2)] A w := hO
  replace h0 := (hs 0 rfl).trans h0
  replace h1 := (hs 1 rfl).trans h1
  replace h5 := (hs 5 rfl).trans h5
  replace h15 := (hs 15 rfl).trans h15
  replace f_v1 := f_v1.stp hst
  have h16 : R 16 = .int .i64 x12.1 := hd.trans hv
  clear hFz hG1 hv hs hd
  refine SG.fin rfl ?_
  refine HT.block ?_
  refine HT.seq ?_
  refine HT.text (l := ⟨_, true, .raw (.bool (x12.1 == (0 : Int)))⟩ :: ⟨_, true, .raw (.bool (x12.1 == (0 : Int)))⟩ :: []) (tl := []) (by kernel_rfl) (by kernel_rfl) (by kernel_rfl) ?_ ?_
  ·exact
    Obls.p (fun R' w' hw hs hd => of_eql ((hs 16 rfl).trans h16) rfl) <|
    Obls.p (fun R' w' hw hs hd => by have a0 : R' 18 = .bool (x12.1 == (0 : Int)) := hd.g 0 rfl; exact of_assign a0) <|
    Obls.nil
  intro R w hw hs hF'
  replace h0 := (hs 0 rfl).trans h0
  replace h1 := (hs 1 rfl).trans h1
  replace h5 := (hs 5 rfl).trans h5
  replace h16 := (hs 16 rfl).trans h16
  have h17 : R 17 = .bool (x12.1 == (0 : Int)) := hF' 1 _ _ rfl rfl rfl
  replace f_v1 := f_v1.fr hw
  replace hO := hO.fr hw
  replace hA := hA.fr hw.size
  replace hF := hF.tr (hw.ch noB) fun _ h => False.elim h
  clear hs hF' hw
  refine seqR_nil ?_
  refine HT.cond (x12.1 == (0 : Int)) h17 (fun c14 => ?_) (fun c14 => ?_)
  ·have hr := cnd_t c14 hr
   refine HT.seq ?_
   obtain ⟨e15, hr⟩ := ck_some hr
   obtain ⟨e16, hr⟩ := ck_some hr
   obtain ⟨e17, hr⟩ := ck_some hr
   obtain ⟨e18, hr⟩ := ck_some hr
   refine HT.draw (by kernel_rfl) (l := ⟨_, true, .raw v1⟩ :: ⟨_, true, .raw (.int .i64 x8.1)⟩ :: ⟨_, true, .rep eStr A (subL p1 0 x8.1)⟩ :: ⟨_, true, .raw v1⟩ :: ⟨_, true, .raw (.int .i64 x8.1)⟩ :: ⟨_, true, .raw (.int .i64 (x8.1 + (1 : Int)))⟩ :: ⟨_, true, .rep eStr A (subL p1 (x8.1 + (1 : Int)) (p1.length : Int))⟩ :: ⟨_, true, .rep eStr A ((subL p1 0 x8.1) ++ (subL p1 (x8.1 + (1 : Int)) (p1.length : Int)))⟩ :: ⟨_, true, .rep eStr A ((subL p1 0 x8.1) ++ (subL p1 (x8.1 + (1 : Int)) (p1.length : Int)))⟩ :: []) (tl := []) (by kernel_rfl) (by kernel_rfl) (by kernel_rfl) (by kernel_rfl) ?_ ?_
   ·exact
     Obls.p (fun R' w' hw hs hd => of_move ((hs 1 rfl).trans h1)) <|
     Obls.p (fun R' w' hw hs hd => of_move ((hs 5 rfl).trans h5)) <|
     Obls.p (fun R' w' hw hs hd => by have a0 : R' 19 = v1 := hd.g 0 rfl; have a1 : R' 20 = .int .i64 x8.1 := hd.g 1 rfl; have ra0 := (f_v1.fr hw).eq a0; exact of_slice_str_hi ra0 a1 Try.underlying9  e15) <|
     Obls.p (fun R' w' hw hs hd => of_move ((hs 1 rfl).trans h1)) <|
     Obls.p (fun R' w' hw hs hd => of_move ((hs 5 rfl).trans h5)) <|
     Obls.p (fun R' w' hw hs hd => by have a0 : R' 23 = .int .i64 x8.1 := hd.g 0 rfl; exact of_add a0 rfl e16) <|
     Obls.p (fun R' w' hw hs hd => by have a0 : R' 22 = v1 := hd.g 0 rfl; have a1 : R' 24 = .int .i64 (x8.1 + (1 : Int)) := hd.g 1 rfl; have ra0 := (f_v1.fr hw).eq a0; exact of_slice_str_lo ra0 a1 Try.underlying9  e17) <|
     Obls.p (fun R' w' hw hs hd => by have a0 : Rep eStr A w' (R' 21) (subL p1 0 x8.1) := hd.g 0 rfl; have a1 : Rep eStr A w' (R' 25) (subL p1 (x8.1 + (1 : Int)) (p1.length : Int)) := hd.g 1 rfl; exact of_cat a0 a1 e18) <|
     Obls.p (fun R' w' hw hs hd => by have a0 : Rep eStr A w' (R' 26) ((subL p1 0 x8.1) ++ (subL p1 (x8.1 + (1 : Int)) (p1.length : Int))) := hd.g 0 rfl; exact of_assign a0) <|
     Obls.nil
   intro R w hw hs hF'
   obtain ⟨u19, h4, f_u19⟩ : ∃ u, R 4 = u ∧ Rep eStr A w u ((subL p1 0 x8.1) ++ (subL p1 (x8.1 + (1 : Int)) (p1.length : Int))) := ⟨_, rfl, hF' 8 _ _ rfl rfl rfl⟩
   replace hO := hO.fr hw
   replace hA := hA.fr hw.size
   replace hF := hF.tr (hw.ch noB) fun _ h => False.elim h
   clear hs hF' hw
   refine seqR_nil ?_
   refine HT.ret ?_
   obtain rfl := Option.some.inj hr
   obtain ⟨A1, hA1, hG1⟩ := GPost.of hO hA hAA (hO.geK (⟨.inr (fun k h => .inr h), trivial⟩)) hF
   exact ⟨.inr rfl, [R 4], ⟨rfl, trivial⟩, A1, hG1, (f_u19.eq h4).down hA1⟩
  ·have hr := cnd_f c14 hr
   refine HT.seq ?_
   refine HT.text (l := ⟨_, true, .raw (.bool (x12.1 == (1 : Int)))⟩ :: ⟨_, true, .raw (.bool (x12.1 == (1 : Int)))⟩ :: []) (tl := []) (by kernel_rfl) (by kernel_rfl) (by kernel_rfl) ?_ ?_
   ·exact
     Obls.p (fun R' w' hw hs hd => of_eql ((hs 16 rfl).trans h16) rfl) <|
     Obls.p (fun R' w' hw hs hd => by have a0 : R' 28 = .bool (x12.1 == (1 : Int)) := hd.g 0 rfl; exact of_assign a0) <|
     Obls.nil
   intro R w hw hs hF'
   replace h0 := (hs 0 rfl).trans h0
   replace h1 := (hs 1 rfl).trans h1
   replace h5 := (hs 5 rfl).trans h5
   replace h16 := (hs 16 rfl).trans h16
   have h27 : R 27 = .bool (x12.1 == (1 : Int)) := hF' 1 _ _ rfl rfl rfl
   replace f_v1 := f_v1.fr hw
   replace hO := hO.fr hw
   replace hA := hA.fr hw.size
   replace hF := hF.tr (hw.ch noB) fun _ h => False.elim h
   clear hs hF' hw
   refine seqR_nil ?_
   refine HT.cond (x12.1 == (1 : Int)) h27 (fun c20 => ?_) (fun c20 => ?_)
   ·have hr := cnd_t c20 hr
    refine HT.seq ?_
    obtain ⟨e21, hr⟩ := ck_some hr
    obtain ⟨x22, q23, hr⟩ := cl_some hr
    obtain ⟨e24, hr⟩ := ck_some hr
    obtain ⟨e25, hr⟩ := ck_some hr
    obtain ⟨e26, hr⟩ := ck_some hr
    refine HT.drawR [ob (.pointer (some ⟨b0, 0, none⟩)) (.box B0 108 E_spec_l1Cur x12.2)] (⟨_, true, [], none, true, fun A => .raw v1⟩ :: ⟨_, true, [], none, true, fun A => .raw (.int .i64 x8.1)⟩ :: ⟨_, true, [], none, true, fun A => .rep eStr A (subL p1 0 x8.1)⟩ :: ⟨_, true, [], none, true, fun A => .raw (.pointer (some ⟨b0, 0, none⟩))⟩ :: ⟨_, true, [0], some (.box B0 108 E_spec_l1Cur x22.2), false, fun A => .raw (.int .i64 x22.1)⟩ :: ⟨_, true, [], none, true, fun A => .raw (.int .u8 (IntKind.u8.wrap x22.1))⟩ :: ⟨_, true, [], none, true, fun A => .rep (eSl (eInt .u8)) A ([(IntKind.u8.wrap x22.1)] : List Int)⟩ :: ⟨_, true, [], none, true, fun A => .rep eStr A (strB ([(IntKind.u8.wrap x22.1)] : List Int))⟩ :: ⟨_, true, [], none, true, fun A => .rep eStr A ((subL p1 0 x8.1) ++ (strB ([(IntKind.u8.wrap x22.1)] : List Int)))⟩ :: ⟨_, true, [], none, true, fun A => .raw v1⟩ :: ⟨_, true, [], none, true, fun A => .raw (.int .i64 x8.1)⟩ :: ⟨_, true, [], none, true, fun A => .rep eStr A (subL p1 x8.1 (p1.length : Int))⟩ :: ⟨_, true, [], none, true, fun A => .rep eStr A (((subL p1 0 x8.1) ++ (strB ([(IntKind.u8.wrap x22.1)] : List Int))) ++ (subL p1 x8.1 (p1.length : Int)))⟩ :: ⟨_, true, [], none, true, fun A => .rep eStr A (((subL p1 0 x8.1) ++ (strB ([(IntKind.u8.wrap x22.1)] : List Int))) ++ (subL p1 x8.1 (p1.length : Int)))⟩ :: []) (by kernel_rfl) (by kernel_rfl) (by kernel_rfl) (Wf.mk' (by kernel_rfl) (UAll.cons ust_raw (UAll.cons ust_raw (UAll.cons ust_rep (UAll.cons ust_raw (UAll.cons ust_raw (UAll.cons ust_raw (UAll.cons ust_rep (UAll.cons ust_rep (UAll.cons ust_rep (UAll.cons ust_raw (UAll.cons ust_raw (UAll.cons ust_rep (UAll.cons ust_rep (UAll.cons ust_rep (UAll.nil))))))))))))))) (by kernel_rfl) (by kernel_rfl)) hO hA ?_ ?_
    ·exact
      OblsR.p (fun A' R' w' ho hd => of_move ((ho.old 1 rfl).trans h1)) <|
      OblsR.p (fun A' R' w' ho hd => of_move ((ho.old 5 rfl).trans h5)) <|
      OblsR.p (fun A' R' w' ho hd => by have a0 : R' 29 = v1 := hd.g 0 rfl; have a1 : R' 30 = .int .i64 x8.1 := hd.g 1 rfl; have ra0 := (f_v1.stp ho.stp).eq a0; exact of_slice_str_hi ra0 a1 Try.underlying9  e21) <|
      OblsR.p (fun A' R' w' ho hd => of_move ((ho.old 0 rfl).trans h0)) <|
      OblsR.cons (OblR.took 0 _ _ rfl rfl rfl rfl rfl fun A' R' w' ho hd u hok hav hin hop hds => by have a0 : R' 32 = (.pointer (some ⟨b0, 0, none⟩)) := hd.g 0 rfl; have e0 := hin _ rfl; rw [e0] at hok hav ⊢; exact took_G Try.call101 hok hav ho.av (fun hI => M_spec_l1Byte_ok (q23 rfl) ho.av a0 hI)) <|
      OblsR.p (fun A' R' w' ho hd => by have a0 : R' 33 = .int .i64 x22.1 := hd.g 0 rfl; exact of_conv_int a0 Try.underlying3 Try.underlying5) <|
      OblsR.p (fun A' R' w' ho hd => by have a0 : R' 34 = .int .u8 (IntKind.u8.wrap x22.1) := hd.g 0 rfl; exact of_build [_] (E := eInt .u8) ⟨(rep_int.eq a0), trivial⟩ Try.underlying33 Try.sizeOf5 Try.zeroValue5 rfl rfl rfl ho.av) <|
      OblsR.p (fun A' R' w' ho hd => by have a0 : Rep (eSl (eInt .u8)) A' w' (R' 35) ([(IntKind.u8.wrap x22.1)] : List Int) := hd.g 0 rfl; exact of_conv_bytes a0 Try.underlying33 Try.underlying5 Try.underlying9) <|
      OblsR.p (fun A' R' w' ho hd => by have a0 : Rep eStr A' w' (R' 31) (subL p1 0 x8.1) := hd.g 0 rfl; have a1 : Rep eStr A' w' (R' 36) (strB ([(IntKind.u8.wrap x22.1)] : List Int)) := hd.g 1 rfl; exact of_cat a0 a1 e24) <|
      OblsR.p (fun A' R' w' ho hd => of_move ((ho.old 1 rfl).trans h1)) <|
      OblsR.p (fun A' R' w' ho hd => of_move ((ho.old 5 rfl).trans h5)) <|
      OblsR.p (fun A' R' w' ho hd => by have a0 : R' 38 = v1 := hd.g 0 rfl; have a1 : R' 39 = .int .i64 x8.1 := hd.g 1 rfl; have ra0 := (f_v1.stp ho.stp).eq a0; exact of_slice_str_lo ra0 a1 Try.underlying9  e25) <|
      OblsR.p (fun A' R' w' ho hd => by have a0 : Rep eStr A' w' (R' 37) ((subL p1 0 x8.1) ++ (strB ([(IntKind.u8.wrap x22.1)] : List Int))) := hd.g 0 rfl; have a1 : Rep eStr A' w' (R' 40) (subL p1 x8.1 (p1.length : Int)) := hd.g 1 rfl; exact of_cat a0 a1 e26) <|
      OblsR.p (fun A' R' w' ho hd => by have a0 : Rep eStr A' w' (R' 41) (((subL p1 0 x8.1) ++ (strB ([(IntKind.u8.wrap x22.1)] : List Int))) ++ (subL p1 x8.1 (p1.length : Int))) := hd.g 0 rfl; exact of_assign a0) <|
      OblsR.nil
    intro done ρ σ A R w hdn hI
    have z27 := hI.inivR 0 rfl
    have z28 := (hI.opnR hdn 5 4 rfl rfl rfl rfl rfl).trans z27
    obtain ⟨u29, h4, f_u29⟩ : ∃ u, R 4 = u ∧ Rep eStr A w u (((subL p1 0 x8.1) ++ (strB ([(IntKind.u8.wrap x22.1)] : List Int))) ++ (subL p1 x8.1 (p1.length : Int))) := ⟨_, rfl, hI.fact hdn (i := 13) rfl rfl rfl⟩
    replace hAA := hI.lowK hAA hA0 hN (hO.geK (⟨.inr (fun k h => .inr h), trivial⟩))
    replace hF : Ch (ownsB (.pointer (some ⟨b0, 0, none⟩))) w0 w := hF.tr hI.ch (hO.geK (⟨.inr (fun k h => .inr h), trivial⟩))
    replace hO : IniOK [ob (.pointer (some ⟨b0, 0, none⟩)) (.box B0 108 E_spec_l1Cur x22.2)] A w := hI.left hdn [(5, ob (.pointer (some ⟨b0, 0, none⟩)) (.box B0 108 E_spec_l1Cur x22.2))] ⟨rfl, rfl, z28, rfl, rfl, trivial⟩
    replace hA := hI.avok
    clear hI
    refine HT.ret ?_
    obtain rfl := Option.some.inj hr
    obtain ⟨A1, hA1, hG1⟩ := GPost.of hO hA hAA (hO.geK (⟨.inr (fun k h => .inr h), trivial⟩)) hF
    exact ⟨.inr rfl, [R 4], ⟨rfl, trivial⟩, A1, hG1, (f_u29.eq h4).down hA1⟩
   ·have hr := cnd_f c20 hr
    refine HT.seq ?_
    refine HT.text (l := ⟨_, true, .raw (.bool (x12.1 == (2 : Int)))⟩ :: ⟨_, true, .raw (.bool (x12.1 == (2 : Int)))⟩ :: []) (tl := []) (by kernel_rfl) (by kernel_rfl) (by kernel_rfl) ?_ ?_
    ·exact
      Obls.p (fun R' w' hw hs hd => of_eql ((hs 16 rfl).trans h16) rfl) <|
      Obls.p (fun R' w' hw hs hd => by have a0 : R' 43 = .bool (x12.1 == (2 : Int)) := hd.g 0 rfl; exact of_assign a0) <|
      Obls.nil
    intro R w hw hs hF'
    replace h0 := (hs 0 rfl).trans h0
    replace h1 := (hs 1 rfl).trans h1
    replace h5 := (hs 5 rfl).trans h5
    have h42 : R 42 = .bool (x12.1 == (2 : Int)) := hF' 1 _ _ rfl rfl rfl
    replace f_v1 := f_v1.fr hw
    replace hO := hO.fr hw
    replace hA := hA.fr hw.size
    replace hF := hF.tr (hw.ch noB) fun _ h => False.elim h
    clear hs hF' hw
    refine seqR_nil ?_
    refine HT.cond (x12.1 == (2 : Int)) h42 (fun c30 => ?_) (fun c30 => ?_)
    ·have hr := cnd_t c30 hr
     refine HT.seq ?_
     obtain ⟨e31, hr⟩ := ck_some hr
     refine HT.text (l := ⟨_, true, .raw v1⟩ :: ⟨_, true, .raw (.int .i64 x8.1)⟩ :: ⟨_, true, .rep eStr A (subL p1 0 x8.1)⟩ :: ⟨_, true, .rep eStr A (subL p1 0 x8.1)⟩ :: []) (tl := []) (by kernel_rfl) (by kernel_rfl) (by kernel_rfl) ?_ ?_
     ·exact
       Obls.p (fun R' w' hw hs hd => of_move ((hs 1 rfl).trans h1)) <|
       Obls.p (fun R' w' hw hs hd => of_move ((hs 5 rfl).trans h5)) <|
       Obls.p (fun R' w' hw hs hd => by have a0 : R' 44 = v1 := hd.g 0 rfl; have a1 : R' 45 = .int .i64 x8.1 := hd.g 1 rfl; have ra0 := (f_v1.fr hw).eq a0; exact of_slice_str_hi ra0 a1 Try.underlying9  e31) <|
       Obls.p (fun R' w' hw hs hd => by have a0 : Rep eStr A w' (R' 46) (subL p1 0 x8.1) := hd.g 0 rfl; exact of_assign a0) <|
       Obls.nil
     intro R w hw hs hF'
     obtain ⟨u32, h4, f_u32⟩ : ∃ u, R 4 = u ∧ Rep eStr A w u (subL p1 0 x8.1) := ⟨_, rfl, hF' 3 _ _ rfl rfl rfl⟩
     replace hO := hO.fr hw
     replace hA := hA.fr hw.size
     replace hF := hF.tr (hw.ch noB) fun _ h => False.elim h
     clear hs hF' hw
     refine seqR_nil ?_
     refine HT.ret ?_
     obtain rfl := Option.some.inj hr
     obtain ⟨A1, hA1, hG1⟩ := GPost.of hO hA hAA (hO.geK (⟨.inr (fun k h => .inr h), trivial⟩)) hF
     exact ⟨.inr rfl, [R 4], ⟨rfl, trivial⟩, A1, hG1, (f_u32.eq h4).down hA1⟩
    ·have hr := cnd_f c30 hr
     refine HT.skip ?_
     refine HT.seq ?_
     obtain ⟨e33, hr⟩ := ck_some hr
     obtain ⟨e34, hr⟩ := ck_some hr
     obtain ⟨x35, q36, hr⟩ := cl_some hr
     obtain ⟨e37, hr⟩ := ck_some hr
     obtain ⟨e38, hr⟩ := ck_some hr
     obtain ⟨e39, hr⟩ := ck_some hr
     obtain ⟨e40, hr⟩ := ck_some hr
     obtain ⟨e41, hr⟩ := ck_some hr
     refine HT.drawR [ob (.pointer (some ⟨b0, 0, none⟩)) (.box B0 108 E_spec_l1Cur x12.2)] (⟨_, true, [], none, true, fun A => .raw v1⟩ :: ⟨_, true, [], none, true, fun A => .raw (.int .i64 x8.1)⟩ :: ⟨_, true, [], none, true, fun A => .rep eStr A (subL p1 0 x8.1)⟩ :: ⟨_, true, [], none, true, fun A => .raw v1⟩ :: ⟨_, true, [], none, true, fun A => .raw (.int .i64 x8.1)⟩ :: ⟨_, true, [], none, true, fun A => .raw (.int .u8 (bAt p1 x8.1))⟩ :: ⟨_, true, [], none, true, fun A => .raw (.int .i64 (IntKind.i64.wrap (bAt p1 x8.1)))⟩ :: ⟨_, true, [], none, true, fun A => .raw (.pointer (some ⟨b0, 0, none⟩))⟩ :: ⟨_, true, [0], some (.box B0 108 E_spec_l1Cur x35.2), false, fun A => .raw (.int .i64 x35.1)⟩ :: ⟨_, true, [], none, true, fun A => .raw (.int .i64 ((1 : Int) + x35.1))⟩ :: ⟨_, true, [], none, true, fun A => .raw (.int .i64 (bitI (fun u v => u ^^^ v) .i64 (IntKind.i64.wrap (bAt p1 x8.1)) ((1 : Int) + x35.1)))⟩ :: ⟨_, true, [], none, true, fun A => .raw (.int .u8 (IntKind.u8.wrap (bitI (fun u v => u ^^^ v) .i64 (IntKind.i64.wrap (bAt p1 x8.1)) ((1 : Int) + x35.1))))⟩ :: ⟨_, true, [], none, true, fun A => .rep (eSl (eInt .u8)) A ([(IntKind.u8.wrap (bitI (fun u v => u ^^^ v) .i64 (IntKind.i64.wrap (bAt p1 x8.1)) ((1 : Int) + x35.1)))] : List Int)⟩ :: ⟨_, true, [], none, true, fun A => .rep eStr A (strB ([(IntKind.u8.wrap (bitI (fun u v => u ^^^ v) .i64 (IntKind.i64.wrap (bAt p1 x8.1)) ((1 : Int) + x35.1)))] : List Int))⟩ :: ⟨_, true, [], none, true, fun A => .rep eStr A ((subL p1 0 x8.1) ++ (strB ([(IntKind.u8.wrap (bitI (fun u v => u ^^^ v) .i64 (IntKind.i64.wrap (bAt p1 x8.1)) ((1 : Int) + x35.1)))] : List Int)))⟩ :: ⟨_, true, [], none, true, fun A => .raw v1⟩ :: ⟨_, true, [], none, true, fun A => .raw (.int .i64 x8.1)⟩ :: ⟨_, true, [], none, true, fun A => .raw (.int .i64 (x8.1 + (1 : Int)))⟩ :: ⟨_, true, [], none, true, fun A => .rep eStr A (subL p1 (x8.1 + (1 : Int)) (p1.length : Int))⟩ :: ⟨_, true, [], none, true, fun A => .rep eStr A (((subL p1 0 x8.1) ++ (strB ([(IntKind.u8.wrap (bitI (fun u v => u ^^^ v) .i64 (IntKind.i64.wrap (bAt p1 x8.1)) ((1 : Int) + x35.1)))] : List Int))) ++ (subL p1 (x8.1 + (1 : Int)) (p1.length : Int)))⟩ :: ⟨_, true, [], none, true, fun A => .rep eStr A (((subL p1 0 x8.1) ++ (strB ([(IntKind.u8.wrap (bitI (fun u v => u ^^^ v) .i64 (IntKind.i64.wrap (bAt p1 x8.1)) ((1 : Int) + x35.1)))] : List Int))) ++ (subL p1 (x8.1 + (1 : Int)) (p1.length : Int)))⟩ :: []) (by kernel_rfl) (by kernel_rfl) (by kernel_rfl) (Wf.mk' (by kernel_rfl) (UAll.cons ust_raw (UAll.cons ust_raw (UAll.cons ust_rep (UAll.cons ust_raw (UAll.cons ust_raw (UAll.cons ust_raw (UAll.cons ust_raw (UAll.cons ust_raw (UAll.cons ust_raw (UAll.cons ust_raw (UAll.cons ust_raw (UAll.cons ust_raw (UAll.cons ust_rep (UAll.cons ust_rep (UAll.cons ust_rep (UAll.cons ust_raw (UAll.cons ust_raw (UAll.cons ust_raw (UAll.cons ust_rep (UAll.cons ust_rep (UAll.cons ust_rep (UAll.nil)))))))))))))))))))))) (by kernel_rfl) (by kernel_rfl)) hO hA ?_ ?_
     ·exact
       OblsR.p (fun A' R' w' ho hd => of_move ((ho.old 1 rfl).trans h1)) <|
       OblsR.p (fun A' R' w' ho hd => of_move ((ho.old 5 rfl).trans h5)) <|
       OblsR.p (fun A' R' w' ho hd => by have a0 : R' 47 = v1 := hd.g 0 rfl; have a1 : R' 48 = .int .i64 x8.1 := hd.g 1 rfl; have ra0 := (f_v1.stp ho.stp).eq a0; exact of_slice_str_hi ra0 a1 Try.underlying9  e33) <|
       OblsR.p (fun A' R' w' ho hd => of_move ((ho.old 1 rfl).trans h1)) <|
       OblsR.p (fun A' R' w' ho hd => of_move ((ho.old 5 rfl).trans h5)) <|
       OblsR.p (fun A' R' w' ho hd => by have a0 : R' 50 = v1 := hd.g 0 rfl; have ra0 := (f_v1.stp ho.stp).eq a0; have a1 : R' 51 = .int .i64 x8.1 := hd.g 1 rfl; exact of_strIndex ra0 a1 Try.underlying9 e34) <|
       OblsR.p (fun A' R' w' ho hd => by have a0 : R' 52 = .int .u8 (bAt p1 x8.1) := hd.g 0 rfl; exact of_conv_int a0 Try.underlying5 Try.underlying3) <|
       OblsR.p (fun A' R' w' ho hd => of_move ((ho.old 0 rfl).trans h0)) <|
       OblsR.cons (OblR.took 0 _ _ rfl rfl rfl rfl rfl fun A' R' w' ho hd u hok hav hin hop hds => by have a0 : R' 54 = (.pointer (some ⟨b0, 0, none⟩)) := hd.g 0 rfl; have e0 := hin _ rfl; rw [e0] at hok hav ⊢; exact took_G Try.call64 hok hav ho.av (fun hI => M_spec_l1Below_ok (q36 rfl) ho.av a0 hI rfl)) <|
       OblsR.p (fun A' R' w' ho hd => by have a1 : R' 55 = .int .i64 x35.1 := hd.g 0 rfl; exact of_add rfl a1 e37) <|
       OblsR.p (fun A' R' w' ho hd => by have a0 : R' 53 = .int .i64 (IntKind.i64.wrap (bAt p1 x8.1)) := hd.g 0 rfl; have a1 : R' 56 = .int .i64 ((1 : Int) + x35.1) := hd.g 1 rfl; exact of_xor a0 a1) <|
       OblsR.p (fun A' R' w' ho hd => by have a0 : R' 57 = .int .i64 (bitI (fun u v => u ^^^ v) .i64 (IntKind.i64.wrap (bAt p1 x8.1)) ((1 : Int) + x35.1)) := hd.g 0 rfl; exact of_conv_int a0 Try.underlying3 Try.underlying5) <|
       OblsR.p (fun A' R' w' ho hd => by have a0 : R' 58 = .int .u8 (IntKind.u8.wrap (bitI (fun u v => u ^^^ v) .i64 (IntKind.i64.wrap (bAt p1 x8.1)) ((1 : Int) + x35.1))) := hd.g 0 rfl; exact of_build [_] (E := eInt .u8) ⟨(rep_int.eq a0), trivial⟩ Try.underlying33 Try.sizeOf5 Try.zeroValue5 rfl rfl rfl ho.av) <|
       OblsR.p (fun A' R' w' ho hd => by have a0 : Rep (eSl (eInt .u8)) A' w' (R' 59) ([(IntKind.u8.wrap (bitI (fun u v => u ^^^ v) .i64 (IntKind.i64.wrap (bAt p1 x8.1)) ((1 : Int) + x35.1)))] : List Int) := hd.g 0 rfl; exact of_conv_bytes a0 Try.underlying33 Try.underlying5 Try.underlying9) <|
       OblsR.p (fun A' R' w' ho hd => by have a0 : Rep eStr A' w' (R' 49) (subL p1 0 x8.1) := hd.g 0 rfl; have a1 : Rep eStr A' w' (R' 60) (strB ([(IntKind.u8.wrap (bitI (fun u v => u ^^^ v) .i64 (IntKind.i64.wrap (bAt p1 x8.1)) ((1 : Int) + x35.1)))] : List Int)) := hd.g 1 rfl; exact of_cat a0 a1 e38) <|
       OblsR.p (fun A' R' w' ho hd => of_move ((ho.old 1 rfl).trans h1)) <|
       OblsR.p (fun A' R' w' ho hd => of_move ((ho.old 5 rfl).trans h5)) <|
       OblsR.p (fun A' R' w' ho hd => by have a0 : R' 63 = .int .i64 x8.1 := hd.g 0 rfl; exact of_add a0 rfl e39) <|
       OblsR.p (fun A' R' w' ho hd => by have a0 : R' 62 = v1 := hd.g 0 rfl; have a1 : R' 64 = .int .i64 (x8.1 + (1 : Int)) := hd.g 1 rfl; have ra0 := (f_v1.stp ho.stp).eq a0; exact of_slice_str_lo ra0 a1 Try.underlying9  e40) <|
       OblsR.p (fun A' R' w' ho hd => by have a0 : Rep eStr A' w' (R' 61) ((subL p1 0 x8.1) ++ (strB ([(IntKind.u8.wrap (bitI (fun u v => u ^^^ v) .i64 (IntKind.i64.wrap (bAt p1 x8.1)) ((1 : Int) + x35.1)))] : List Int))) := hd.g 0 rfl; have a1 : Rep eStr A' w' (R' 65) (subL p1 (x8.1 + (1 : Int)) (p1.length : Int)) := hd.g 1 rfl; exact of_cat a0 a1 e41) <|
       OblsR.p (fun A' R' w' ho hd => by have a0 : Rep eStr A' w' (R' 66) (((subL p1 0 x8.1) ++ (strB ([(IntKind.u8.wrap (bitI (fun u v => u ^^^ v) .i64 (IntKind.i64.wrap (bAt p1 x8.1)) ((1 : Int) + x35.1)))] : List Int))) ++ (subL p1 (x8.1 + (1 : Int)) (p1.length : Int))) := hd.g 0 rfl; exact of_assign a0) <|
       OblsR.nil
     intro done ρ σ A R w hdn hI
     have z42 := hI.inivR 0 rfl
     have z43 := (hI.opnR hdn 9 8 rfl rfl rfl rfl rfl).trans z42
     obtain ⟨u44, h4, f_u44⟩ : ∃ u, R 4 = u ∧ Rep eStr A w u (((subL p1 0 x8.1) ++ (strB ([(IntKind.u8.wrap (bitI (fun u v => u ^^^ v) .i64 (IntKind.i64.wrap (bAt p1 x8.1)) ((1 : Int) + x35.1)))] : List Int))) ++ (subL p1 (x8.1 + (1 : Int)) (p1.length : Int))) := ⟨_, rfl, hI.fact hdn (i := 20) rfl rfl rfl⟩
     replace hAA := hI.lowK hAA hA0 hN (hO.geK (⟨.inr (fun k h => .inr h), trivial⟩))
     replace hF : Ch (ownsB (.pointer (some ⟨b0, 0, none⟩))) w0 w := hF.tr hI.ch (hO.geK (⟨.inr (fun k h => .inr h), trivial⟩))
     replace hO : IniOK [ob (.pointer (some ⟨b0, 0, none⟩)) (.box B0 108 E_spec_l1Cur x35.2)] A w := hI.left hdn [(9, ob (.pointer (some ⟨b0, 0, none⟩)) (.box B0 108 E_spec_l1Cur x35.2))] ⟨rfl, rfl, z43, rfl, rfl, trivial⟩
     replace hA := hI.avok
     clear hI
     refine HT.ret ?_
     obtain rfl := Option.some.inj hr
     obtain ⟨A1, hA1, hG1⟩ := GPost.of hO hA hAA (hO.geK (⟨.inr (fun k h => .inr h), trivial⟩)) hF
     exact ⟨.inr rfl, [R 4], ⟨rfl, trivial⟩, A1, hG1, (f_u44.eq h4).down hA1⟩
def M_spec_l2Text_L0 (fu : Nat) : Nat → (List UInt8) → Int → T_spec_l1Cur → Option ((List UInt8) × T_spec_l1Cur)
 | 0, _, _, _ => none
 | k + 1, y30, y31, y32 =>
  bif (decide ((0 : Int) < y31)) then (
   cl true (M_spec_l1Pick fu y32 ([([97] : List UInt8), ([32] : List UInt8), ([90] : List UInt8), ([45] : List UInt8)] : List (List UInt8))) fun x36 =>
   ck (lenOK (y30 ++ x36.1).length) <|
   ck (i64B (y31 - (1 : Int))) <|
   M_spec_l2Text_L0 fu k (y30 ++ x36.1) (y31 - (1 : Int)) x36.2
  ) else (
   some (y30, y32)
  )
def M_spec_l2Text (fu : Nat) (p0 : T_spec_l1Cur) : Option ((List UInt8) × T_spec_l1Cur) :=
 cl true (M_spec_l1Below fu p0 (12 : Int)) fun x2 =>
 bif (x2.1 == (0 : Int)) then (
  cl true (M_spec_l2Name fu x2.2) fun x6 =>
  cl true (M_spec_l1Spoil fu x6.2 x6.1) fun x9 =>
  some (x9.1, x9.2)
 ) else (
  bif (x2.1 == (1 : Int)) then (
   cl true (M_spec_l1Pick fu x2.2 ([([] : List UInt8), ([32] : List UInt8), ([32, 32, 97, 32, 32] : List UInt8), ([65, 45, 66] : List UInt8), ([120, 46, 121] : List UInt8), ([100, 111, 110, 39, 116] : List UInt8), ([9] : List UInt8), ([97, 128, 98] : List UInt8), ([95, 95, 95] : List UInt8)] : List (List UInt8))) fun x16 =>
   some (x16.1, x16.2)
  ) else (
   bif (x2.1 == (2 : Int)) then (
    cl true (M_spec_l1Below fu x2.2 (7 : Int)) fun x23 =>
    ck (i64B ((36 : Int) + x23.1)) <|
    cl true (M_spec_l2Text_L0 fu fu ([] : List UInt8) ((36 : Int) + x23.1) x23.2) fun s29 =>
    some (s29.1, s29.2)
   ) else (
    cl true (M_spec_l2Name fu x2.2) fun x44 =>
    some (x44.1, x44.2)
   )
  )
 )
theorem M_spec_l2Text_ok {fu : Nat} {Aq : Av} {p0 : T_spec_l1Cur} {r : (List UInt8) × T_spec_l1Cur} (hr : M_spec_l2Text fu p0 = some r) {w : World} {v0 : Value} {b0 B0 : Nat} (hA : AvOK Aq w) (h0 : v0 = .pointer (some ⟨b0, 0, none⟩)) (hO0 : IniOK [ob (.pointer (some ⟨b0, 0, none⟩)) (.box B0 108 E_spec_l1Cur p0)] Aq w) :
  Calls Try.prog 68 #[v0] w fun e w' => ∃ v, e = .returned v ∧ (∃ (A1 : Av), GPost (subS Aq (ownsB (.pointer (some ⟨b0, 0, none⟩)))) (ownsB (.pointer (some ⟨b0, 0, none⟩))) w [ob (.pointer (some ⟨b0, 0, none⟩)) (.box B0 108 E_spec_l1Cur r.2)] A1 w' ∧ (Fact.rep eStr A1 r.1).ok v w') := by
 unfold M_spec_l2Text at hr
 obtain ⟨w0, hw0⟩ : ∃ w0, w0 = w := ⟨_, rfl⟩
 have hF : Ch (ownsB (.pointer (some ⟨b0, 0, none⟩))) w0 w := hw0 ▸ Ch.refl _ _
 obtain ⟨A0, hA0e⟩ : ∃ A0, A0 = subS Aq (ownsB (.pointer (some ⟨b0, 0, none⟩))) := ⟨_, rfl⟩
 have hA0 : ∀ b o, A0 b o → b < w0.heap.size := fun b o h => hw0 ▸ hA b o (hA0e ▸ h : subS Aq _ b o).1
 have hN : ∀ b o, A0 b o → ¬ (ownsB (.pointer (some ⟨b0, 0, none⟩))) b := fun b o h => (hA0e ▸ h : subS Aq _ b o).2
 have hA00 : AvOK A0 w0 := hA0
 rw [show GPost (subS Aq (ownsB (.pointer (some ⟨b0, 0, none⟩)))) (ownsB (.pointer (some ⟨b0, 0, none⟩))) w = GPost A0 (ownsB (.pointer (some ⟨b0, 0, none⟩))) w0 from by rw [hA0e, hw0]]
 clear hw0
 obtain ⟨A, hAe⟩ : ∃ A, A = Aq := ⟨_, rfl⟩
 have hAA : ∀ b o, A0 b o → A b o := fun b o h => hAe ▸ (hA0e ▸ h : subS Aq _ b o).1
 replace hA : AvOK A w := hAe ▸ hA
 have hO : IniOK [ob (.pointer (some ⟨b0, 0, none⟩)) (.box B0 108 E_spec_l1Cur p0)] A w := hAe ▸ hO0
 clear hA0e hO0
 refine calls_of_HT2 [.tmp 2] Try.func68 Try.ntmps68 (by decide) rfl rfl (Nat.le_of_ble_eq_true rfl) ?_
 intro R hR
 replace h0 : R 0 = .pointer (some ⟨b0, 0, none⟩) := (hR 0 _ rfl).trans h0
 clear hR hAe
 refine HT.seq ?_
 refine HT.text (l := ⟨_, true, .rep eStr A ([] : List UInt8)⟩ :: []) (tl := []) (by kernel_rfl) (by kernel_rfl) (by kernel_rfl) ?_ ?_
 ·exact
   Obls.p (fun R' w' hw hs hd => of_assign ⟨_, rfl, ⟨_, rfl, rfl, by decide⟩⟩) <|
   Obls.nil
 intro R w hw hs hF'
 replace h0 := (hs 0 rfl).trans h0
 replace hO := hO.fr hw
 replace hA := hA.fr hw.size
 replace hF := hF.tr (hw.ch noB) fun _ h => False.elim h
 clear hs hF' hw
 refine seqR_nil ?_
 refine HT.seq ?_
 refine HT.seq ?_
 refine SG.of ?_
 refine SG.textR [ob (.pointer (some ⟨b0, 0, none⟩)) (.box B0 108 E_spec_l1Cur p0)] (⟨_, true, [], none, true, fun A => .raw (.pointer (some ⟨b0, 0, none⟩))⟩ :: []) 1 rfl rfl rfl (by kernel_rfl) (by kernel_rfl) (Wf.mk' (by kernel_rfl) (UAll.cons ust_raw (UAll.nil)) (by kernel_rfl) (by kernel_rfl)) hO hA (trivial) ?_ ?_
 ·exact
   OblsR.p (fun A' R' w' ho hd => of_move ((ho.old 0 rfl).trans h0)) <|
   OblsR.nil
 intro done ρ σ A R w hdn hI
 replace h0 : R 0 = (.pointer (some ⟨b0, 0, none⟩)) := (hI.reg rfl).trans h0
 have z1 := hI.inivR 0 rfl
 have h5 : R 5 = (.pointer (some ⟨b0, 0, none⟩)) := hI.fact hdn (i := 0) rfl rfl rfl
 replace hAA := hI.lowK hAA hA0 hN (hO.geK (⟨.inr (fun k h => .inr h), trivial⟩))
 replace hF : Ch (ownsB (.pointer (some ⟨b0, 0, none⟩))) w0 w := hF.tr hI.ch (hO.geK (⟨.inr (fun k h => .inr h), trivial⟩))
 replace hO : IniOK [ob (.pointer (some ⟨b0, 0, none⟩)) (.box B0 108 E_spec_l1Cur p0)] A w := hI.left hdn [(0, ob (.pointer (some ⟨b0, 0, none⟩)) (.box B0 108 E_spec_l1Cur p0))] ⟨rfl, rfl, z1, rfl, rfl, trivial⟩
 replace hA := hI.avok
 clear hI
 obtain ⟨x2, q3, hr⟩ := cl_some hr
 have hFz : w0.heap.size ≤ w.heap.size := hF.size
 refine SG.op 6 rfl rfl rfl rfl (call_run Try.call64 (M_spec_l1Below_ok (q3 rfl) hA h5 (hO.sub [(0, ob (.pointer (some ⟨b0, 0, none⟩)) (.box B0 108 E_spec_l1Cur p0))] ⟨rfl, rfl, trivial⟩) rfl)) ?_
 rintro v_ w ⟨A, hG1, hv⟩ R hs hd
 have hst := stp_call hA hG1 (hO.ok 0 _ rfl).2
 replace hAA : ∀ b o, A0 b o → A b o := low_callK hAA hA0 hN (hO.geK (⟨.inr (fun k h => .inr h), trivial⟩)) 0 rfl hG1
 replace hF : Ch (ownsB (.pointer (some ⟨b0, 0, none⟩))) w0 w := hF.tr hG1.ch (fun k hk => (hO.geK (⟨.inr (fun k h => .inr h), trivial⟩)) k ⟨0, _, rfl, hk⟩)
 replace hO := GPost.next hO hA 0 rfl hG1
 replace hA := hG1.avok
 replace hO : IniOK [ob (.pointer (some ⟨b0, 0, none⟩)) (.box B0 108 E_spec_l1Cur x2.2)] A w := hO
 replace h0 := (hs 0 rfl).trans h0
 replace h5 := (hs 5 rfl).trans h5
 have h6 : R 6 = .int .i64 x2.1 := hd.trans hv
 clear hFz hG1 hv hs hd
 refine SG.fin rfl ?_
 refine HT.block ?_
 refine HT.seq ?_
 refine HT.text (l := ⟨_, true, .raw (.bool (x2.1 == (0 : Int)))⟩ :: ⟨_, true, .raw (.bool (x2.1 == (0 : Int)))⟩ :: []) (tl := []) (by kernel_rfl) (by kernel_rfl) (by kernel_rfl) ?_ ?_
 ·exact
   Obls.p (fun R' w' hw hs hd => of_eql ((hs 6 rfl).trans h6) rfl) <|
   Obls.p (fun R' w' hw hs hd => by have a0 : R' 8 = .bool (x2.1 == (0 : Int)) := hd.g 0 rfl; exact of_assign a0) <|
   Obls.nil
 intro R w hw hs hF'
 replace h0 := (hs 0 rfl).trans h0
 replace h6 := (hs 6 rfl).trans h6
 have h7 : R 7 = .bool (x2.1 == (0 : Int)) := hF' 1 _ _ rfl rfl rfl
 replace hO := hO.fr hw
 replace hA := hA.fr hw.size
 replace hF := hF.tr (hw.ch noB) fun _ h => False.elim h
 clear hs hF' hw
 refine seqR_nil ?_
 refine HT.cond (x2.1 == (0 : Int)) h7 (fun c4 => ?_) (fun c4 => ?_)
 ·have hr := cnd_t c4 hr
  refine HT.seq ?_
  refine SG.of ?_
  refine SG.textR [ob (.pointer (some ⟨b0, 0, none⟩)) (.box B0 108 E_spec_l1Cur x2.2)] (⟨_, true, [], none, true, fun A => .raw (.pointer (some ⟨b0, 0, none⟩))⟩ :: ⟨_, true, [], none, true, fun A => .raw (.pointer (some ⟨b0, 0, none⟩))⟩ :: []) 2 rfl rfl rfl (by kernel_rfl) (by kernel_rfl) (Wf.mk' (by kernel_rfl) (UAll.cons ust_raw (UAll.cons ust_raw (UAll.nil))) (by kernel_rfl) (by kernel_rfl)) hO hA (trivial) ?_ ?_
  ·exact
    OblsR.p (fun A' R' w' ho hd => of_move ((ho.old 0 rfl).trans h0)) <|
    OblsR.p (fun A' R' w' ho hd => of_move ((ho.old 0 rfl).trans h0)) <|
    OblsR.nil
  intro done ρ σ A R w hdn hI
  have z5 := hI.inivR 0 rfl
  have h9 : R 9 = (.pointer (some ⟨b0, 0, none⟩)) := hI.fact hdn (i := 0) rfl rfl rfl
  have h10 : R 10 = (.pointer (some ⟨b0, 0, none⟩)) := hI.fact hdn (i := 1) rfl rfl rfl
  replace hAA := hI.lowK hAA hA0 hN (hO.geK (⟨.inr (fun k h => .inr h), trivial⟩))
  replace hF : Ch (ownsB (.pointer (some ⟨b0, 0, none⟩))) w0 w := hF.tr hI.ch (hO.geK (⟨.inr (fun k h => .inr h), trivial⟩))
  replace hO : IniOK [ob (.pointer (some ⟨b0, 0, none⟩)) (.box B0 108 E_spec_l1Cur x2.2)] A w := hI.left hdn [(0, ob (.pointer (some ⟨b0, 0, none⟩)) (.box B0 108 E_spec_l1Cur x2.2))] ⟨rfl, rfl, z5, rfl, rfl, trivial⟩
  replace hA := hI.avok
  clear hI
  obtain ⟨x6, q7, hr⟩ := cl_some hr
  have hFz : w0.heap.size ≤ w.heap.size := hF.size
  refine SG.op 11 rfl rfl rfl rfl (call_run Try.call105 (M_spec_l2Name_ok (q7 rfl) hA h10 (hO.sub [(0, ob (.pointer (some ⟨b0, 0, none⟩)) (.box B0 108 E_spec_l1Cur x2.2))] ⟨rfl, rfl, trivial⟩))) ?_
  rintro v_ w ⟨A, hG1, hv⟩ R hs hd
  have hst := stp_call hA hG1 (hO.ok 0 _ rfl).2
  replace hAA : ∀ b o, A0 b o → A b o := low_callK hAA hA0 hN (hO.geK (⟨.inr (fun k h => .inr h), trivial⟩)) 0 rfl hG1
  replace hF : Ch (ownsB (.pointer (some ⟨b0, 0, none⟩))) w0 w := hF.tr hG1.ch (fun k hk => (hO.geK (⟨.inr (fun k h => .inr h), trivial⟩)) k ⟨0, _, rfl, hk⟩)
  replace hO := GPost.next hO hA 0 rfl hG1
  replace hA := hG1.avok
  replace hO : IniOK [ob (.pointer (some ⟨b0, 0, none⟩)) (.box B0 108 E_spec_l1Cur x6.2)] A w := hO
  replace h9 := (hs 9 rfl).trans h9
  replace h10 := (hs 10 rfl).trans h10
  obtain ⟨u8, h11, f_u8⟩ : ∃ u, R 11 = u ∧ Rep eStr A w u x6.1 := ⟨_, rfl, hd ▸ hv⟩
  clear hFz hG1 hv hs hd
  obtain ⟨x9, q10, hr⟩ := cl_some hr
  have hFz : w0.heap.size ≤ w.heap.size := hF.size
  refine SG.op 12 rfl rfl rfl rfl (call_run Try.call100 (M_spec_l1Spoil_ok (q10 rfl) hA h9 (hO.sub [(0, ob (.pointer (some ⟨b0, 0, none⟩)) (.box B0 108 E_spec_l1Cur x6.2))] ⟨rfl, rfl, trivial⟩) (f_u8.eq h11))) ?_
  rintro v_ w ⟨A, hG1, hv⟩ R hs hd
  have hst := stp_call hA hG1 (hO.ok 0 _ rfl).2
  replace hAA : ∀ b o, A0 b o → A b o := low_callK hAA hA0 hN (hO.geK (⟨.inr (fun k h => .inr h), trivial⟩)) 0 rfl hG1
  replace hF : Ch (ownsB (.pointer (some ⟨b0, 0, none⟩))) w0 w := hF.tr hG1.ch (fun k hk => (hO.geK (⟨.inr (fun k h => .inr h), trivial⟩)) k ⟨0, _, rfl, hk⟩)
  replace hO := GPost.next hO hA 0 rfl hG1
  replace hA := hG1.avok
  replace hO : IniOK [ob (.pointer (some ⟨b0, 0, none⟩)) (.box B0 108 E_spec_l1Cur x9.2)] A w := hO
  replace h9 := (hs 9 rfl).trans h9
  replace h11 := (hs 11 rfl).trans h11
  replace f_u8 := f_u8.stp hst
  obtain ⟨u11, h12, f_u11⟩ : ∃ u, R 12 = u ∧ Rep eStr A w u x9.1 := ⟨_, rfl, hd ▸ hv⟩
  clear hFz hG1 hv hs hd
  refine SG.textR [ob (.pointer (some ⟨b0, 0, none⟩)) (.box B0 108 E_spec_l1Cur x9.2)] (⟨_, true, [], none, true, fun A => .raw (.pointer (some ⟨b0, 0, none⟩))⟩ :: ⟨_, true, [], none, true, fun A => .any⟩ :: ⟨_, true, [], none, true, fun A => .raw u8⟩ :: ⟨_, true, [], none, true, fun A => .raw u11⟩ :: ⟨_, true, [], none, true, fun A => .raw u11⟩ :: []) 5 rfl rfl rfl (by kernel_rfl) (by kernel_rfl) (Wf.mk' (by kernel_rfl) (UAll.cons ust_raw (UAll.cons ust_any (UAll.cons ust_raw (UAll.cons ust_raw (UAll.cons ust_raw (UAll.nil)))))) (by kernel_rfl) (by kernel_rfl)) hO hA (⟨⟨rfl, rfl, rfl, h9⟩, ⟨⟨rfl, rfl, rfl, trivial⟩, ⟨⟨rfl, rfl, rfl, h11⟩, ⟨⟨rfl, rfl, rfl, h12⟩, trivial⟩⟩⟩⟩) ?_ ?_
  ·exact
    OblsR.p (fun A' R' w' ho hd => by have a0 : R' 12 = u11 := hd.g 0 rfl; exact of_assign a0) <|
    OblsR.nil
  intro done ρ σ A R w hdn hI
  have z12 := hI.inivR 0 rfl
  have h2 : R 2 = u11 := hI.fact hdn (i := 4) rfl rfl rfl
  replace f_u11 := f_u11.stp hI.stp
  replace hAA := hI.lowK hAA hA0 hN (hO.geK (⟨.inr (fun k h => .inr h), trivial⟩))
  replace hF : Ch (ownsB (.pointer (some ⟨b0, 0, none⟩))) w0 w := hF.tr hI.ch (hO.geK (⟨.inr (fun k h => .inr h), trivial⟩))
  replace hO : IniOK [ob (.pointer (some ⟨b0, 0, none⟩)) (.box B0 108 E_spec_l1Cur x9.2)] A w := hI.left hdn [(0, ob (.pointer (some ⟨b0, 0, none⟩)) (.box B0 108 E_spec_l1Cur x9.2))] ⟨rfl, rfl, z12, rfl, rfl, trivial⟩
  replace hA := hI.avok
  clear hI
  refine SG.fin rfl ?_
  refine HT.ret ?_
  obtain rfl := Option.some.inj hr
  obtain ⟨A1, hA1, hG1⟩ := GPost.of hO hA hAA (hO.geK (⟨.inr (fun k h => .inr h), trivial⟩)) hF
  exact ⟨.inr rfl, [R 2], ⟨rfl, trivial⟩, A1, hG1, (f_u11.eq h2).down hA1⟩
 ·have hr := cnd_f c4 hr
  refine HT.seq ?_
  refine HT.text (l := ⟨_, true, .raw (.bool (x2.1 == (1 : Int)))⟩ :: ⟨_, true, .raw (.bool (x2.1 == (1 : Int)))⟩ :: []) (tl := []) (by kernel_rfl) (by kernel_rfl) (by kernel_rfl) ?_ ?_
  ·exact
    Obls.p (fun R' w' hw hs hd => of_eql ((hs 6 rfl).trans h6) rfl) <|
    Obls.p (fun R' w' hw hs hd => by have a0 : R' 14 = .bool (x2.1 == (1 : Int)) := hd.g 0 rfl; exact of_assign a0) <|
    Obls.nil
  intro R w hw hs hF'
  replace h0 := (hs 0 rfl).trans h0
  replace h6 := (hs 6 rfl).trans h6
  have h13 : R 13 = .bool (x2.1 == (1 : Int)) := hF' 1 _ _ rfl rfl rfl
  replace hO := hO.fr hw
  replace hA := hA.fr hw.size
  replace hF := hF.tr (hw.ch noB) fun _ h => False.elim h
  clear hs hF' hw
  refine seqR_nil ?_
  refine HT.cond (x2.1 == (1 : Int)) h13 (fun c13 => ?_) (fun c13 => ?_)
  ·have hr := cnd_t c13 hr
   refine HT.seq ?_
   refine SG.of ?_
   refine SG.textR [ob (.pointer (some ⟨b0, 0, none⟩)) (.box B0 108 E_spec_l1Cur x2.2)] (⟨_, true, [], none, true, fun A => .raw (.pointer (some ⟨b0, 0, none⟩))⟩ :: ⟨_, true, [], none, true, fun A => .rep (eSl eStr) A ([([] : List UInt8), ([32] : List UInt8), ([32, 32, 97, 32, 32] : List UInt8), ([65, 45, 66] : List UInt8), ([120, 46, 121] : List UInt8), ([100, 111, 110, 39, 116] : List UInt8), ([9] : List UInt8), ([97, 128, 98] : List UInt8), ([95, 95, 95] : List UInt8)] : List (List UInt8))⟩ :: []) 2 rfl rfl rfl (by kernel_rfl) (by kernel_rfl) (Wf.mk' (by kernel_rfl) (UAll.cons ust_raw (UAll.cons ust_rep (UAll.nil))) (by kernel_rfl) (by kernel_rfl)) hO hA (trivial) ?_ ?_
   ·exact
     OblsR.p (fun A' R' w' ho hd => of_move ((ho.old 0 rfl).trans h0)) <|
     OblsR.p (fun A' R' w' ho hd => of_build [_, _, _, _, _, _, _, _, _] (E := eStr) ⟨⟨_, rfl, ⟨_, rfl, rfl, by decide⟩⟩, ⟨⟨_, rfl, ⟨_, rfl, rfl, by decide⟩⟩, ⟨⟨_, rfl, ⟨_, rfl, rfl, by decide⟩⟩, ⟨⟨_, rfl, ⟨_, rfl, rfl, by decide⟩⟩, ⟨⟨_, rfl, ⟨_, rfl, rfl, by decide⟩⟩, ⟨⟨_, rfl, ⟨_, rfl, rfl, by decide⟩⟩, ⟨⟨_, rfl, ⟨_, rfl, rfl, by decide⟩⟩, ⟨⟨_, rfl, ⟨_, rfl, rfl, by decide⟩⟩, ⟨⟨_, rfl, ⟨_, rfl, rfl, by decide⟩⟩, trivial⟩⟩⟩⟩⟩⟩⟩⟩⟩ Try.underlying22 Try.sizeOf9 Try.zeroValue9 rfl rfl rfl ho.av) <|
     OblsR.nil
   intro done ρ σ A R w hdn hI
   have z14 := hI.inivR 0 rfl
   have h15 : R 15 = (.pointer (some ⟨b0, 0, none⟩)) := hI.fact hdn (i := 0) rfl rfl rfl
   obtain ⟨u15, h16, f_u15⟩ : ∃ u, R 16 = u ∧ Rep (eSl eStr) A w u ([([] : List UInt8), ([32] : List UInt8), ([32, 32, 97, 32, 32] : List UInt8), ([65, 45, 66] : List UInt8), ([120, 46, 121] : List UInt8), ([100, 111, 110, 39, 116] : List UInt8), ([9] : List UInt8), ([97, 128, 98] : List UInt8), ([95, 95, 95] : List UInt8)] : List (List UInt8)) := ⟨_, rfl, hI.fact hdn (i := 1) rfl rfl rfl⟩
   replace hAA := hI.lowK hAA hA0 hN (hO.geK (⟨.inr (fun k h => .inr h), trivial⟩))
   replace hF : Ch (ownsB (.pointer (some ⟨b0, 0, none⟩))) w0 w := hF.tr hI.ch (hO.geK (⟨.inr (fun k h => .inr h), trivial⟩))
   replace hO : IniOK [ob (.pointer (some ⟨b0, 0, none⟩)) (.box B0 108 E_spec_l1Cur x2.2)] A w := hI.left hdn [(0, ob (.pointer (some ⟨b0, 0, none⟩)) (.box B0 108 E_spec_l1Cur x2.2))] ⟨rfl, rfl, z14, rfl, rfl, trivial⟩
   replace hA := hI.avok
   clear hI
   obtain ⟨x16, q17, hr⟩ := cl_some hr
   have hFz : w0.heap.size ≤ w.heap.size := hF.size
   refine SG.op 17 rfl rfl rfl rfl (call_run Try.call106 (M_spec_l1Pick_ok (q17 rfl) hA h15 (hO.sub [(0, ob (.pointer (some ⟨b0, 0, none⟩)) (.box B0 108 E_spec_l1Cur x2.2))] ⟨rfl, rfl, trivial⟩) (f_u15.eq h16))) ?_
   rintro v_ w ⟨A, hG1, hv⟩ R hs hd
   have hst := stp_call hA hG1 (hO.ok 0 _ rfl).2
   replace hAA : ∀ b o, A0 b o → A b o := low_callK hAA hA0 hN (hO.geK (⟨.inr (fun k h => .inr h), trivial⟩)) 0 rfl hG1
   replace hF : Ch (ownsB (.pointer (some ⟨b0, 0, none⟩))) w0 w := hF.tr hG1.ch (fun k hk => (hO.geK (⟨.inr (fun k h => .inr h), trivial⟩)) k ⟨0, _, rfl, hk⟩)
   replace hO := GPost.next hO hA 0 rfl hG1
   replace hA := hG1.avok
   replace hO : IniOK [ob (.pointer (some ⟨b0, 0, none⟩)) (.box B0 108 E_spec_l1Cur x16.2)] A w := hO
   replace h15 := (hs 15 rfl).trans h15
   replace h16 := (hs 16 rfl).trans h16
   replace f_u15 := f_u15.stp hst
   obtain ⟨u18, h17, f_u18⟩ : ∃ u, R 17 = u ∧ Rep eStr A w u x16.1 := ⟨_, rfl, hd ▸ hv⟩
   clear hFz hG1 hv hs hd
   refine SG.textR [ob (.pointer (some ⟨b0, 0, none⟩)) (.box B0 108 E_spec_l1Cur x16.2)] (⟨_, true, [], none, true, fun A => .raw (.pointer (some ⟨b0, 0, none⟩))⟩ :: ⟨_, true, [], none, true, fun A => .raw u15⟩ :: ⟨_, true, [], none, true, fun A => .raw u18⟩ :: ⟨_, true, [], none, true, fun A => .raw u18⟩ :: []) 4 rfl rfl rfl (by kernel_rfl) (by kernel_rfl) (Wf.mk' (by kernel_rfl) (UAll.cons ust_raw (UAll.cons ust_raw (UAll.cons ust_raw (UAll.cons ust_raw (UAll.nil))))) (by kernel_rfl) (by kernel_rfl)) hO hA (⟨⟨rfl, rfl, rfl, h15⟩, ⟨⟨rfl, rfl, rfl, h16⟩, ⟨⟨rfl, rfl, rfl, h17⟩, trivial⟩⟩⟩) ?_ ?_
   ·exact
     OblsR.p (fun A' R' w' ho hd => by have a0 : R' 17 = u18 := hd.g 0 rfl; exact of_assign a0) <|
     OblsR.nil
   intro done ρ σ A R w hdn hI
   have z19 := hI.inivR 0 rfl
   have h2 : R 2 = u18 := hI.fact hdn (i := 3) rfl rfl rfl
   replace f_u18 := f_u18.stp hI.stp
   replace hAA := hI.lowK hAA hA0 hN (hO.geK (⟨.inr (fun k h => .inr h), trivial⟩))
   replace hF : Ch (ownsB (.pointer (some ⟨b0, 0, none⟩))) w0 w := hF.tr hI.ch (hO.geK (⟨.inr (fun k h => .inr h), trivial⟩))
   replace hO : IniOK [ob (.pointer (some ⟨b0, 0, none⟩)) (.box B0 108 E_spec_l1Cur x16.2)] A w := hI.left hdn [(0, ob (.pointer (some ⟨b0, 0, none⟩)) (.box B0 108 E_spec_l1Cur x16.2))] ⟨rfl, rfl, z19, rfl, rfl, trivial⟩
   replace hA := hI.avok
   clear hI
   refine SG.fin rfl ?_
   refine HT.ret ?_
   obtain rfl := Option.some.inj hr
   obtain ⟨A1, hA1, hG1⟩ := GPost.of hO hA hAA (hO.geK (⟨.inr (fun k h => .inr h), trivial⟩)) hF
   exact ⟨.inr rfl, [R 2], ⟨rfl, trivial⟩, A1, hG1, (f_u18.eq h2).down hA1⟩
  ·have hr := cnd_f c13 hr
   refine HT.seq ?_
   refine HT.text (l := ⟨_, true, .raw (.bool (x2.1 == (2 : Int)))⟩ :: ⟨_, true, .raw (.bool (x2.1 == (2 : Int)))⟩ :: []) (tl := []) (by kernel_rfl) (by kernel_rfl) (by kernel_rfl) ?_ ?_
   ·exact
     Obls.p (fun R' w' hw hs hd => of_eql ((hs 6 rfl).trans h6) rfl) <|
     Obls.p (fun R' w' hw hs hd => by have a0 : R' 19 = .bool (x2.1 == (2 : Int)) := hd.g 0 rfl; exact of_assign a0) <|
     Obls.nil
   intro R w hw hs hF'
   replace h0 := (hs 0 rfl).trans h0
   have h18 : R 18 = .bool (x2.1 == (2 : Int)) := hF' 1 _ _ rfl rfl rfl
   replace hO := hO.fr hw
   replace hA := hA.fr hw.size
   replace hF := hF.tr (hw.ch noB) fun _ h => False.elim h
   clear hs hF' hw
   refine seqR_nil ?_
   refine HT.cond (x2.1 == (2 : Int)) h18 (fun c20 => ?_) (fun c20 => ?_)
   ·have hr := cnd_t c20 hr
    refine HT.seq ?_
    refine HT.text (l := ⟨_, true, .rep eStr A ([] : List UInt8)⟩ :: []) (tl := []) (by kernel_rfl) (by kernel_rfl) (by kernel_rfl) ?_ ?_
    ·exact
      Obls.p (fun R' w' hw hs hd => of_assign ⟨_, rfl, ⟨_, rfl, rfl, by decide⟩⟩) <|
      Obls.nil
    intro R w hw hs hF'
    replace h0 := (hs 0 rfl).trans h0
    obtain ⟨u21, h3, f_u21⟩ : ∃ u, R 3 = u ∧ Rep eStr A w u ([] : List UInt8) := ⟨_, rfl, hF' 0 _ _ rfl rfl rfl⟩
    replace hO := hO.fr hw
    replace hA := hA.fr hw.size
    replace hF := hF.tr (hw.ch noB) fun _ h => False.elim h
    clear hs hF' hw
    refine seqR_nil ?_
    refine HT.seq ?_
    refine HT.seq ?_
    refine SG.of ?_
    refine SG.textR [ob (.pointer (some ⟨b0, 0, none⟩)) (.box B0 108 E_spec_l1Cur x2.2)] (⟨_, true, [], none, true, fun A => .raw (.pointer (some ⟨b0, 0, none⟩))⟩ :: []) 1 rfl rfl rfl (by kernel_rfl) (by kernel_rfl) (Wf.mk' (by kernel_rfl) (UAll.cons ust_raw (UAll.nil)) (by kernel_rfl) (by kernel_rfl)) hO hA (trivial) ?_ ?_
    ·exact
      OblsR.p (fun A' R' w' ho hd => of_move ((ho.old 0 rfl).trans h0)) <|
      OblsR.nil
    intro done ρ σ A R w hdn hI
    replace h0 : R 0 = (.pointer (some ⟨b0, 0, none⟩)) := (hI.reg rfl).trans h0
    replace h3 : R 3 = u21 := (hI.reg rfl).trans h3
    have z22 := hI.inivR 0 rfl
    have h20 : R 20 = (.pointer (some ⟨b0, 0, none⟩)) := hI.fact hdn (i := 0) rfl rfl rfl
    replace f_u21 := f_u21.stp hI.stp
    replace hAA := hI.lowK hAA hA0 hN (hO.geK (⟨.inr (fun k h => .inr h), trivial⟩))
    replace hF : Ch (ownsB (.pointer (some ⟨b0, 0, none⟩))) w0 w := hF.tr hI.ch (hO.geK (⟨.inr (fun k h => .inr h), trivial⟩))
    replace hO : IniOK [ob (.pointer (some ⟨b0, 0, none⟩)) (.box B0 108 E_spec_l1Cur x2.2)] A w := hI.left hdn [(0, ob (.pointer (some ⟨b0, 0, none⟩)) (.box B0 108 E_spec_l1Cur x2.2))] ⟨rfl, rfl, z22, rfl, rfl, trivial⟩
    replace hA := hI.avok
    clear hI
    obtain ⟨x23, q24, hr⟩ := cl_some hr
    have hFz : w0.heap.size ≤ w.heap.size := hF.size
    refine SG.op 21 rfl rfl rfl rfl (call_run Try.call64 (M_spec_l1Below_ok (q24 rfl) hA h20 (hO.sub [(0, ob (.pointer (some ⟨b0, 0, none⟩)) (.box B0 108 E_spec_l1Cur x2.2))] ⟨rfl, rfl, trivial⟩) rfl)) ?_
    rintro v_ w ⟨A, hG1, hv⟩ R hs hd
    have hst := stp_call hA hG1 (hO.ok 0 _ rfl).2
    replace hAA : ∀ b o, A0 b o → A b o := low_callK hAA hA0 hN (hO.geK (⟨.inr (fun k h => .inr h), trivial⟩)) 0 rfl hG1
    replace hF : Ch (ownsB (.pointer (some ⟨b0, 0, none⟩))) w0 w := hF.tr hG1.ch (fun k hk => (hO.geK (⟨.inr (fun k h => .inr h), trivial⟩)) k ⟨0, _, rfl, hk⟩)
    replace hO := GPost.next hO hA 0 rfl hG1
    replace hA := hG1.avok
    replace hO : IniOK [ob (.pointer (some ⟨b0, 0, none⟩)) (.box B0 108 E_spec_l1Cur x23.2)] A w := hO
    replace h0 := (hs 0 rfl).trans h0
    replace h3 := (hs 3 rfl).trans h3
    replace h20 := (hs 20 rfl).trans h20
    replace f_u21 := f_u21.stp hst
    have h21 : R 21 = .int .i64 x23.1 := hd.trans hv
    clear hFz hG1 hv hs hd
    obtain ⟨e25, hr⟩ := ck_some hr
    refine SG.textR [ob (.pointer (some ⟨b0, 0, none⟩)) (.box B0 108 E_spec_l1Cur x23.2)] (⟨_, true, [], none, true, fun A => .raw (.pointer (some ⟨b0, 0, none⟩))⟩ :: ⟨_, true, [], none, true, fun A => .raw (.int .i64 x23.1)⟩ :: ⟨_, true, [], none, true, fun A => .raw (.int .i64 ((36 : Int) + x23.1))⟩ :: ⟨_, true, [], none, true, fun A => .raw (.int .i64 ((36 : Int) + x23.1))⟩ :: []) 4 rfl rfl rfl (by kernel_rfl) (by kernel_rfl) (Wf.mk' (by kernel_rfl) (UAll.cons ust_raw (UAll.cons ust_raw (UAll.cons ust_raw (UAll.cons ust_raw (UAll.nil))))) (by kernel_rfl) (by kernel_rfl)) hO hA (⟨⟨rfl, rfl, rfl, h20⟩, ⟨⟨rfl, rfl, rfl, h21⟩, trivial⟩⟩) ?_ ?_
    ·exact
      OblsR.p (fun A' R' w' ho hd => by have a1 : R' 21 = .int .i64 x23.1 := hd.g 0 rfl; exact of_add rfl a1 e25) <|
      OblsR.p (fun A' R' w' ho hd => by have a0 : R' 22 = .int .i64 ((36 : Int) + x23.1) := hd.g 0 rfl; exact of_assign a0) <|
      OblsR.nil
    intro done ρ σ A R w hdn hI
    replace h0 : R 0 = (.pointer (some ⟨b0, 0, none⟩)) := (hI.reg rfl).trans h0
    replace h3 : R 3 = u21 := (hI.reg rfl).trans h3
    have z26 := hI.inivR 0 rfl
    have h4 : R 4 = .int .i64 ((36 : Int) + x23.1) := hI.fact hdn (i := 3) rfl rfl rfl
    replace f_u21 := f_u21.stp hI.stp
    replace hAA := hI.lowK hAA hA0 hN (hO.geK (⟨.inr (fun k h => .inr h), trivial⟩))
    replace hF : Ch (ownsB (.pointer (some ⟨b0, 0, none⟩))) w0 w := hF.tr hI.ch (hO.geK (⟨.inr (fun k h => .inr h), trivial⟩))
    replace hO : IniOK [ob (.pointer (some ⟨b0, 0, none⟩)) (.box B0 108 E_spec_l1Cur x23.2)] A w := hI.left hdn [(0, ob (.pointer (some ⟨b0, 0, none⟩)) (.box B0 108 E_spec_l1Cur x23.2))] ⟨rfl, rfl, z26, rfl, rfl, trivial⟩
    replace hA := hI.avok
    clear hI
    refine SG.fin rfl ?_
    obtain ⟨rl27, q28, hr⟩ := cl_some hr
    replace q28 := q28 rfl
    refine HT.cut0 (fun R w => ∃ A : Av, ∃ (s29 : (List UInt8) × T_spec_l1Cur) (wo_3 : Value), rl27 = s29 ∧ AvOK A w ∧ Ch (ownsB (.pointer (some ⟨b0, 0, none⟩))) w0 w ∧ (∀ b o, A0 b o → A b o) ∧ IniOK [ob (.pointer (some ⟨b0, 0, none⟩)) (.box B0 108 E_spec_l1Cur s29.2)] A w ∧ R 3 = wo_3 ∧ Rep eStr A w wo_3 s29.1) ?_ ?_
    ·refine HT.block ?_
     refine HT.loop (fun k R w => ∃ A : Av, ∃ (y30 : List UInt8) (y31 : Int) (y32 : T_spec_l1Cur) (wl_3 : Value), M_spec_l2Text_L0 fu k y30 y31 y32 = some rl27 ∧ AvOK A w ∧ Ch (ownsB (.pointer (some ⟨b0, 0, none⟩))) w0 w ∧ (∀ b o, A0 b o → A b o) ∧ IniOK [ob (.pointer (some ⟨b0, 0, none⟩)) (.box B0 108 E_spec_l1Cur y32)] A w ∧ R 0 = (.pointer (some ⟨b0, 0, none⟩)) ∧ R 3 = wl_3 ∧ R 4 = .int .i64 y31 ∧ Rep eStr A w wl_3 y30) fu ⟨_, _, _, _, u21, q28, hA, hF, hAA, hO, h0, h3, h4, f_u21⟩ ?_
     have hr0 := hr; clear hr q28
     rintro k R w ⟨A, y30, y31, y32, wl_3, hr, hA, hF, hAA, hO, h0, h3, h4, f_wl_3⟩
     rcases k with _ | k
     ·cases (show none = some _ from hr)
     rw [M_spec_l2Text_L0] at hr
     refine HT.seq ?_
     refine HT.seq ?_
     refine HT.text (l := ⟨_, true, .raw (.int .i64 y31)⟩ :: ⟨_, true, .raw (.bool (decide ((0 : Int) < y31)))⟩ :: []) (tl := []) (by kernel_rfl) (by kernel_rfl) (by kernel_rfl) ?_ ?_
     ·exact
       Obls.p (fun R' w' hw hs hd => of_move ((hs 4 rfl).trans h4)) <|
       Obls.p (fun R' w' hw hs hd => by have a0 : R' 23 = .int .i64 y31 := hd.g 0 rfl; exact of_gtr a0 rfl) <|
       Obls.nil
     intro R w hw hs hF'
     replace h0 := (hs 0 rfl).trans h0
     replace h3 := (hs 3 rfl).trans h3
     replace h4 := (hs 4 rfl).trans h4
     have h24 : R 24 = .bool (decide ((0 : Int) < y31)) := hF' 1 _ _ rfl rfl rfl
     replace f_wl_3 := f_wl_3.fr hw
     replace hO := hO.fr hw
     replace hA := hA.fr hw.size
     replace hF := hF.tr (hw.ch noB) fun _ h => False.elim h
     clear hs hF' hw
     refine seqR_nil ?_
     refine HT.cond (decide ((0 : Int) < y31)) h24 (fun c33 => ?_) (fun c33 => ?_)
     ·have hr := cnd_t c33 hr
      refine HT.skip ?_
      refine HT.seq ?_
      refine HT.block ?_
      refine SG.of ?_
      refine SG.textR [ob (.pointer (some ⟨b0, 0, none⟩)) (.box B0 108 E_spec_l1Cur y32)] (⟨_, true, [], none, true, fun A => .raw wl_3⟩ :: ⟨_, true, [], none, true, fun A => .raw (.pointer (some ⟨b0, 0, none⟩))⟩ :: ⟨_, true, [], none, true, fun A => .rep (eSl eStr) A ([([97] : List UInt8), ([32] : List UInt8), ([90] : List UInt8), ([45] : List UInt8)] : List (List UInt8))⟩ :: []) 3 rfl rfl rfl (by kernel_rfl) (by kernel_rfl) (Wf.mk' (by kernel_rfl) (UAll.cons ust_raw (UAll.cons ust_raw (UAll.cons ust_rep (UAll.nil)))) (by kernel_rfl) (by kernel_rfl)) hO hA (trivial) ?_ ?_
      ·exact
        OblsR.p (fun A' R' w' ho hd => of_move ((ho.old 3 rfl).trans h3)) <|
        OblsR.p (fun A' R' w' ho hd => of_move ((ho.old 0 rfl).trans h0)) <|
        OblsR.p (fun A' R' w' ho hd => of_build [_, _, _, _] (E := eStr) ⟨⟨_, rfl, ⟨_, rfl, rfl, by decide⟩⟩, ⟨⟨_, rfl, ⟨_, rfl, rfl, by decide⟩⟩, ⟨⟨_, rfl, ⟨_, rfl, rfl, by decide⟩⟩, ⟨⟨_, rfl, ⟨_, rfl, rfl, by decide⟩⟩, trivial⟩⟩⟩⟩ Try.underlying22 Try.sizeOf9 Try.zeroValue9 rfl rfl rfl ho.av) <|
        OblsR.nil
      intro done ρ σ A R w hdn hI
      replace h0 : R 0 = (.pointer (some ⟨b0, 0, none⟩)) := (hI.reg rfl).trans h0
      replace h3 : R 3 = wl_3 := (hI.reg rfl).trans h3
      replace h4 : R 4 = .int .i64 y31 := (hI.reg rfl).trans h4
      have z34 := hI.inivR 0 rfl
      have h27 : R 27 = wl_3 := hI.fact hdn (i := 0) rfl rfl rfl
      have h28 : R 28 = (.pointer (some ⟨b0, 0, none⟩)) := hI.fact hdn (i := 1) rfl rfl rfl
      obtain ⟨u35, h29, f_u35⟩ : ∃ u, R 29 = u ∧ Rep (eSl eStr) A w u ([([97] : List UInt8), ([32] : List UInt8), ([90] : List UInt8), ([45] : List UInt8)] : List (List UInt8)) := ⟨_, rfl, hI.fact hdn (i := 2) rfl rfl rfl⟩
      replace f_wl_3 := f_wl_3.stp hI.stp
      replace hAA := hI.lowK hAA hA0 hN (hO.geK (⟨.inr (fun k h => .inr h), trivial⟩))
      replace hF : Ch (ownsB (.pointer (some ⟨b0, 0, none⟩))) w0 w := hF.tr hI.ch (hO.geK (⟨.inr (fun k h => .inr h), trivial⟩))
      replace hO : IniOK [ob (.pointer (some ⟨b0, 0, none⟩)) (.box B0 108 E_spec_l1Cur y32)] A w := hI.left hdn [(0, ob (.pointer (some ⟨b0, 0, none⟩)) (.box B0 108 E_spec_l1Cur y32))] ⟨rfl, rfl, z34, rfl, rfl, trivial⟩
      replace hA := hI.avok
      clear hI
      obtain ⟨x36, q37, hr⟩ := cl_some hr
      have hFz : w0.heap.size ≤ w.heap.size := hF.size
      refine SG.op 30 rfl rfl rfl rfl (call_run Try.call106 (M_spec_l1Pick_ok (q37 rfl) hA h28 (hO.sub [(0, ob (.pointer (some ⟨b0, 0, none⟩)) (.box B0 108 E_spec_l1Cur y32))] ⟨rfl, rfl, trivial⟩) (f_u35.eq h29))) ?_
      rintro v_ w ⟨A, hG1, hv⟩ R hs hd
      have hst := stp_call hA hG1 (hO.ok 0 _ rfl).2
      replace hAA : ∀ b o, A0 b o → A b o := low_callK hAA hA0 hN (hO.geK (⟨.inr (fun k h => .inr h), trivial⟩)) 0 rfl hG1
      replace hF : Ch (ownsB (.pointer (some ⟨b0, 0, none⟩))) w0 w := hF.tr hG1.ch (fun k hk => (hO.geK (⟨.inr (fun k h => .inr h), trivial⟩)) k ⟨0, _, rfl, hk⟩)
      replace hO := GPost.next hO hA 0 rfl hG1
      replace hA := hG1.avok
      replace hO : IniOK [ob (.pointer (some ⟨b0, 0, none⟩)) (.box B0 108 E_spec_l1Cur x36.2)] A w := hO
      replace h0 := (hs 0 rfl).trans h0
      replace h3 := (hs 3 rfl).trans h3
      replace h4 := (hs 4 rfl).trans h4
      replace h27 := (hs 27 rfl).trans h27
      replace h28 := (hs 28 rfl).trans h28
      replace h29 := (hs 29 rfl).trans h29
      replace f_u35 := f_u35.stp hst
      replace f_wl_3 := f_wl_3.stp hst
      obtain ⟨u38, h30, f_u38⟩ : ∃ u, R 30 = u ∧ Rep eStr A w u x36.1 := ⟨_, rfl, hd ▸ hv⟩
      clear hFz hG1 hv hs hd
      obtain ⟨e39, hr⟩ := ck_some hr
      refine SG.textR [ob (.pointer (some ⟨b0, 0, none⟩)) (.box B0 108 E_spec_l1Cur x36.2)] (⟨_, true, [], none, true, fun A => .raw wl_3⟩ :: ⟨_, true, [], none, true, fun A => .raw (.pointer (some ⟨b0, 0, none⟩))⟩ :: ⟨_, true, [], none, true, fun A => .raw u35⟩ :: ⟨_, true, [], none, true, fun A => .raw u38⟩ :: ⟨_, true, [], none, true, fun A => .rep eStr A (y30 ++ x36.1)⟩ :: ⟨_, true, [], none, true, fun A => .rep eStr A (y30 ++ x36.1)⟩ :: []) 6 rfl rfl rfl (by kernel_rfl) (by kernel_rfl) (Wf.mk' (by kernel_rfl) (UAll.cons ust_raw (UAll.cons ust_raw (UAll.cons ust_raw (UAll.cons ust_raw (UAll.cons ust_rep (UAll.cons ust_rep (UAll.nil))))))) (by kernel_rfl) (by kernel_rfl)) hO hA (⟨⟨rfl, rfl, rfl, h27⟩, ⟨⟨rfl, rfl, rfl, h28⟩, ⟨⟨rfl, rfl, rfl, h29⟩, ⟨⟨rfl, rfl, rfl, h30⟩, trivial⟩⟩⟩⟩) ?_ ?_
      ·exact
        OblsR.p (fun A' R' w' ho hd => by have a0 : R' 27 = wl_3 := hd.g 0 rfl; have ra0 := (f_wl_3.stp ho.stp).eq a0; have a1 : R' 30 = u38 := hd.g 1 rfl; have ra1 := (f_u38.stp ho.stp).eq a1; exact of_cat ra0 ra1 e39) <|
        OblsR.p (fun A' R' w' ho hd => by have a0 : Rep eStr A' w' (R' 31) (y30 ++ x36.1) := hd.g 0 rfl; exact of_assign a0) <|
        OblsR.nil
      intro done ρ σ A R w hdn hI
      replace h0 : R 0 = (.pointer (some ⟨b0, 0, none⟩)) := (hI.reg rfl).trans h0
      replace h4 : R 4 = .int .i64 y31 := (hI.reg rfl).trans h4
      have z40 := hI.inivR 0 rfl
      obtain ⟨u41, h3, f_u41⟩ : ∃ u, R 3 = u ∧ Rep eStr A w u (y30 ++ x36.1) := ⟨_, rfl, hI.fact hdn (i := 5) rfl rfl rfl⟩
      replace hAA := hI.lowK hAA hA0 hN (hO.geK (⟨.inr (fun k h => .inr h), trivial⟩))
      replace hF : Ch (ownsB (.pointer (some ⟨b0, 0, none⟩))) w0 w := hF.tr hI.ch (hO.geK (⟨.inr (fun k h => .inr h), trivial⟩))
      replace hO : IniOK [ob (.pointer (some ⟨b0, 0, none⟩)) (.box B0 108 E_spec_l1Cur x36.2)] A w := hI.left hdn [(0, ob (.pointer (some ⟨b0, 0, none⟩)) (.box B0 108 E_spec_l1Cur x36.2))] ⟨rfl, rfl, z40, rfl, rfl, trivial⟩
      replace hA := hI.avok
      clear hI
      refine SG.fin rfl ?_
      obtain ⟨e42, hr⟩ := ck_some hr
      refine HT.text (l := ⟨_, true, .raw (.int .i64 y31)⟩ :: ⟨_, true, .raw (.int .i64 (y31 - (1 : Int)))⟩ :: ⟨_, true, .raw (.int .i64 (y31 - (1 : Int)))⟩ :: []) (tl := []) (by kernel_rfl) (by kernel_rfl) (by kernel_rfl) ?_ ?_
      ·exact
        Obls.p (fun R' w' hw hs hd => of_move ((hs 4 rfl).trans h4)) <|
        Obls.p (fun R' w' hw hs hd => by have a0 : R' 25 = .int .i64 y31 := hd.g 0 rfl; exact of_sub a0 rfl e42) <|
        Obls.p (fun R' w' hw hs hd => by have a0 : R' 26 = .int .i64 (y31 - (1 : Int)) := hd.g 0 rfl; exact of_assign a0) <|
        Obls.nil
      intro R w hw hs hF'
      replace h0 := (hs 0 rfl).trans h0
      replace h3 := (hs 3 rfl).trans h3
      have h4 : R 4 = .int .i64 (y31 - (1 : Int)) := hF' 2 _ _ rfl rfl rfl
      replace f_u41 := f_u41.fr hw
      replace hO := hO.fr hw
      replace hA := hA.fr hw.size
      replace hF := hF.tr (hw.ch noB) fun _ h => False.elim h
      clear hs hF' hw
      refine seqR_nil ?_
      exact Exists.intro k (And.intro (Nat.lt_succ_self k) ⟨_, _, _, _, u41, hr, hA, hF, hAA, hO, h0, h3, h4, f_u41⟩)
     ·have hr := cnd_f c33 hr
      refine HT.exit ?_
      obtain rfl := Option.some.inj hr
      exact Exists.intro _ ⟨_, wl_3, rfl, hA, hF, hAA, hO, h3, f_wl_3⟩
    rintro R w ⟨A, s29, wo_3, es, hA, hF, hAA, hO, h3, f_wo_3⟩
    obtain rfl := es.symm
    refine HT.seq ?_
    refine HT.text (l := ⟨_, true, .raw wo_3⟩ :: ⟨_, true, .raw wo_3⟩ :: []) (tl := []) (by kernel_rfl) (by kernel_rfl) (by kernel_rfl) ?_ ?_
    ·exact
      Obls.p (fun R' w' hw hs hd => of_move ((hs 3 rfl).trans h3)) <|
      Obls.p (fun R' w' hw hs hd => by have a0 : R' 32 = wo_3 := hd.g 0 rfl; exact of_assign a0) <|
      Obls.nil
    intro R w hw hs hF'
    have h2 : R 2 = wo_3 := hF' 1 _ _ rfl rfl rfl
    replace f_wo_3 := f_wo_3.fr hw
    replace hO := hO.fr hw
    replace hA := hA.fr hw.size
    replace hF := hF.tr (hw.ch noB) fun _ h => False.elim h
    clear hs hF' hw
    refine seqR_nil ?_
    refine HT.ret ?_
    obtain rfl := Option.some.inj hr
    obtain ⟨A1, hA1, hG1⟩ := GPost.of hO hA hAA (hO.geK (⟨.inr (fun k h => .inr h), trivial⟩)) hF
    exact ⟨.inr rfl, [R 2], ⟨rfl, trivial⟩, A1, hG1, (f_wo_3.eq h2).down hA1⟩
   ·have hr := cnd_f c20 hr
    refine HT.skip ?_
    refine HT.seq ?_
    refine SG.of ?_
    refine SG.textR [ob (.pointer (some ⟨b0, 0, none⟩)) (.box B0 108 E_spec_l1Cur x2.2)] (⟨_, true, [], none, true, fun A => .raw (.pointer (some ⟨b0, 0, none⟩))⟩ :: []) 1 rfl rfl rfl (by kernel_rfl) (by kernel_rfl) (Wf.mk' (by kernel_rfl) (UAll.cons ust_raw (UAll.nil)) (by kernel_rfl) (by kernel_rfl)) hO hA (trivial) ?_ ?_
    ·exact
      OblsR.p (fun A' R' w' ho hd => of_move ((ho.old 0 rfl).trans h0)) <|
      OblsR.nil
    intro done ρ σ A R w hdn hI
    have z43 := hI.inivR 0 rfl
    have h33 : R 33 = (.pointer (some ⟨b0, 0, none⟩)) := hI.fact hdn (i := 0) rfl rfl rfl
    replace hAA := hI.lowK hAA hA0 hN (hO.geK (⟨.inr (fun k h => .inr h), trivial⟩))
    replace hF : Ch (ownsB (.pointer (some ⟨b0, 0, none⟩))) w0 w := hF.tr hI.ch (hO.geK (⟨.inr (fun k h => .inr h), trivial⟩))
    replace hO : IniOK [ob (.pointer (some ⟨b0, 0, none⟩)) (.box B0 108 E_spec_l1Cur x2.2)] A w := hI.left hdn [(0, ob (.pointer (some ⟨b0, 0, none⟩)) (.box B0 108 E_spec_l1Cur x2.2))] ⟨rfl, rfl, z43, rfl, rfl, trivial⟩
    replace hA := hI.avok
    clear hI
    obtain ⟨x44, q45, hr⟩ := cl_some hr
    have hFz : w0.heap.size ≤ w.heap.size := hF.size
    refine SG.op 34 rfl rfl rfl rfl (call_run Try.call105 (M_spec_l2Name_ok (q45 rfl) hA h33 (hO.sub [(0, ob (.pointer (some ⟨b0, 0, none⟩)) (.box B0 108 E_spec_l1Cur x2.2))] ⟨rfl, rfl, trivial⟩))) ?_
    rintro v_ w ⟨A, hG1, hv⟩ R hs hd
    have hst := stp_call hA hG1 (hO.ok 0 _ rfl).2
    replace hAA : ∀ b o, A0 b o → A b o := low_callK hAA hA0 hN (hO.geK (⟨.inr (fun k h => .inr h), trivial⟩)) 0 rfl hG1
    replace hF : Ch (ownsB (.pointer (some ⟨b0, 0, none⟩))) w0 w := hF.tr hG1.ch (fun k hk => (hO.geK (⟨.inr (fun k h => .inr h), trivial⟩)) k ⟨0, _, rfl, hk⟩)
    replace hO := GPost.next hO hA 0 rfl hG1
    replace hA := hG1.avok
    replace hO : IniOK [ob (.pointer (some ⟨b0, 0, none⟩)) (.box B0 108 E_spec_l1Cur x44.2)] A w := hO
    replace h33 := (hs 33 rfl).trans h33
    obtain ⟨u46, h34, f_u46⟩ : ∃ u, R 34 = u ∧ Rep eStr A w u x44.1 := ⟨_, rfl, hd ▸ hv⟩
    clear hFz hG1 hv hs hd
    refine SG.textR [ob (.pointer (some ⟨b0, 0, none⟩)) (.box B0 108 E_spec_l1Cur x44.2)] (⟨_, true, [], none, true, fun A => .raw (.pointer (some ⟨b0, 0, none⟩))⟩ :: ⟨_, true, [], none, true, fun A => .raw u46⟩ :: ⟨_, true, [], none, true, fun A => .raw u46⟩ :: []) 3 rfl rfl rfl (by kernel_rfl) (by kernel_rfl) (Wf.mk' (by kernel_rfl) (UAll.cons ust_raw (UAll.cons ust_raw (UAll.cons ust_raw (UAll.nil)))) (by kernel_rfl) (by kernel_rfl)) hO hA (⟨⟨rfl, rfl, rfl, h33⟩, ⟨⟨rfl, rfl, rfl, h34⟩, trivial⟩⟩) ?_ ?_
    ·exact
      OblsR.p (fun A' R' w' ho hd => by have a0 : R' 34 = u46 := hd.g 0 rfl; exact of_assign a0) <|
      OblsR.nil
    intro done ρ σ A R w hdn hI
    have z47 := hI.inivR 0 rfl
    have h2 : R 2 = u46 := hI.fact hdn (i := 2) rfl rfl rfl
    replace f_u46 := f_u46.stp hI.stp
    replace hAA := hI.lowK hAA hA0 hN (hO.geK (⟨.inr (fun k h => .inr h), trivial⟩))
    replace hF : Ch (ownsB (.pointer (some ⟨b0, 0, none⟩))) w0 w := hF.tr hI.ch (hO.geK (⟨.inr (fun k h => .inr h), trivial⟩))
    replace hO : IniOK [ob (.pointer (some ⟨b0, 0, none⟩)) (.box B0 108 E_spec_l1Cur x44.2)] A w := hI.left hdn [(0, ob (.pointer (some ⟨b0, 0, none⟩)) (.box B0 108 E_spec_l1Cur x44.2))] ⟨rfl, rfl, z47, rfl, rfl, trivial⟩
    replace hA := hI.avok
    clear hI
    refine SG.fin rfl ?_
    refine HT.ret ?_
    obtain rfl := Option.some.inj hr
    obtain ⟨A1, hA1, hG1⟩ := GPost.of hO hA hAA (hO.geK (⟨.inr (fun k h => .inr h), trivial⟩)) hF
    exact ⟨.inr rfl, [R 2], ⟨rfl, trivial⟩, A1, hG1, (f_u46.eq h2).down hA1⟩
def M_spec_FoldCase_L0 (fu : Nat) (p0 : List UInt8) : Nat → Int → (List Int) → Option (List Int)
 | 0, _, _ => none
 | k + 1, y5, y6 =>
  bif (decide (y5 < (p0.length : Int))) then (
   ck (inR y5 p0.length) <|
   bd ((decide ((65 : Int) ≤ (bAt p0 y5))) && (decide ((bAt p0 y5) ≤ (90 : Int)))) fun x9 =>
   bif x9 then (
    ck (lenOK (y6.length + ([(IntKind.u8.wrap ((bAt p0 y5) + (32 : Int)))] : List Int).length)) <|
    ck (i64B (y5 + (1 : Int))) <|
    M_spec_FoldCase_L0 fu p0 k (y5 + (1 : Int)) (y6 ++ ([(IntKind.u8.wrap ((bAt p0 y5) + (32 : Int)))] : List Int))
   ) else (
    ck (lenOK (y6.length + ([(bAt p0 y5)] : List Int).length)) <|
    ck (i64B (y5 + (1 : Int))) <|
    M_spec_FoldCase_L0 fu p0 k (y5 + (1 : Int)) (y6 ++ ([(bAt p0 y5)] : List Int))
   )
  ) else (
   some y6
  )
def M_spec_FoldCase (fu : Nat) (p0 : List UInt8) : Option (List UInt8) :=
 cl true (M_spec_FoldCase_L0 fu p0 fu (0 : Int) ([] : List Int)) fun s4 =>
 some (strB s4)
theorem M_spec_FoldCase_ok {fu : Nat} {A0 : Av} {p0 : List UInt8} {r : List UInt8} (hr : M_spec_FoldCase fu p0 = some r) {w : World} {v0 : Value} (hA : AvOK A0 w) (h0 : Rep eStr A0 w v0 p0) :
  Calls Try.prog 104 #[v0] w fun e w' => ∃ v, e = .returned v ∧ (Rep eStr A0 w' v r ∧ Fr w w') := by
 unfold M_spec_FoldCase at hr
 obtain ⟨w0, hw0⟩ : ∃ w0, w0 = w := ⟨_, rfl⟩
 have hF : Fr w0 w := hw0 ▸ Fr.refl _
 have hA0 : ∀ b o, A0 b o → b < w0.heap.size := fun b o h => hw0 ▸ hA b o h
 have hA00 : AvOK A0 w0 := hA0
 rw [show Fr w = Fr w0 from hw0 ▸ rfl]
 clear hw0
 obtain ⟨A, hAe⟩ : ∃ A, A = A0 := ⟨_, rfl⟩
 have hAA : ∀ b o, A0 b o → A b o := fun b o h => hAe ▸ h
 replace hA : AvOK A w := hAe ▸ hA
 have hO : IniOK [] A w := IniOK.nil
 refine calls_of_HT2 [.tmp 2] Try.func104 Try.ntmps104 (by decide) rfl rfl (Nat.le_of_ble_eq_true rfl) ?_
 intro R hR
 have f_v0 : Rep eStr A w v0 p0 := hAe ▸ h0
 replace h0 : R 0 = v0 := hR 0 _ rfl
 clear hR hAe
 refine HT.seq ?_
 refine HT.text (l := ⟨_, true, .rep eStr A ([] : List UInt8)⟩ :: []) (tl := []) (by kernel_rfl) (by kernel_rfl) (by kernel_rfl) ?_ ?_
 ·exact
   Obls.p (fun R' w' hw hs hd => of_assign ⟨_, rfl, ⟨_, rfl, rfl, by decide⟩⟩) <|
   Obls.nil
 intro R w hw hs hF'
 replace h0 := (hs 0 rfl).trans h0
 replace f_v0 := f_v0.fr hw
 replace hO := hO.fr hw
 replace hA := hA.fr hw.size
 replace hF := hF.trans hw
 clear hs hF' hw
 refine seqR_nil ?_
 refine HT.seq ?_
 refine HT.textR [] (⟨_, true, [], some (.vec w0.heap.size 5 (eInt .u8) ([] : List Int)), true, fun A => .any⟩ :: ⟨_, true, [0], some (.vec w0.heap.size 5 (eInt .u8) ([] : List Int)), true, fun A => .any⟩ :: []) (by kernel_rfl) (by kernel_rfl) (Wf.mk' (by kernel_rfl) (UAll.cons ust_any (UAll.cons ust_any (UAll.nil))) (by kernel_rfl) (by kernel_rfl)) hO hA ?_ ?_
 ·exact
   OblsR.cons (OblR.made _ rfl rfl rfl rfl fun A' R' w' ho hd => by exact made_build [] (E := eInt .u8) trivial Try.underlying33 Try.sizeOf5 Try.zeroValue5 rfl rfl rfl (Nat.le_trans hF.size ho.ch.size)) <|
   OblsR.cons (OblR.took 0 _ _ rfl rfl rfl rfl rfl fun A' R' w' ho hd u hok hav hin hop hds => by exact took_assign (hop _ _ rfl rfl rfl rfl).symm hok hav) <|
   OblsR.nil
 intro done ρ σ A R w hdn hI
 replace h0 : R 0 = v0 := (hI.reg rfl).trans h0
 obtain ⟨u1, e_u1⟩ : ∃ u, ρ 1 = u := ⟨_, rfl⟩
 have h3 : R 3 = u1 := (hI.opvR hdn 1 1 rfl rfl rfl rfl rfl).symm.trans e_u1
 replace f_v0 := f_v0.stp hI.stp
 replace hAA := hI.low' hAA hA0 (hO.ge (trivial))
 replace hF : Fr w0 w := hF.tr hI.ch (hO.ge (trivial))
 replace hO : IniOK [ob u1 (.vec w0.heap.size 5 (eInt .u8) ([] : List Int))] A w := hI.left hdn [(1, ob u1 (.vec w0.heap.size 5 (eInt .u8) ([] : List Int)))] ⟨rfl, rfl, e_u1, rfl, rfl, trivial⟩
 replace hA := hI.avok
 clear hI
 refine HT.seq ?_
 refine HT.seq ?_
 refine HT.text (l := ⟨_, true, .raw (.int .i64 (0 : Int))⟩ :: []) (tl := []) (by kernel_rfl) (by kernel_rfl) (by kernel_rfl) ?_ ?_
 ·exact
   Obls.p (fun R' w' hw hs hd => of_assign rfl) <|
   Obls.nil
 intro R w hw hs hF'
 replace h0 := (hs 0 rfl).trans h0
 replace h3 := (hs 3 rfl).trans h3
 have h4 : R 4 = .int .i64 (0 : Int) := hF' 0 _ _ rfl rfl rfl
 replace f_v0 := f_v0.fr hw
 replace hO := hO.fr hw
 replace hA := hA.fr hw.size
 replace hF := hF.trans hw
 clear hs hF' hw
 refine seqR_nil ?_
 obtain ⟨rl2, q3, hr⟩ := cl_some hr
 replace q3 := q3 rfl
 refine HT.cut0 (fun R w => ∃ A : Av, ∃ (s4 : (List Int)) (uo_u1 : Value), rl2 = s4 ∧ AvOK A w ∧ Fr w0 w ∧ (∀ b o, A0 b o → A b o) ∧ IniOK [ob uo_u1 (.vec w0.heap.size 5 (eInt .u8) s4)] A w ∧ R 3 = uo_u1) ?_ ?_
 ·refine HT.block ?_
  refine HT.loop (fun k R w => ∃ A : Av, ∃ (y5 : Int) (y6 : List Int) (ul_u1 : Value), M_spec_FoldCase_L0 fu p0 k y5 y6 = some rl2 ∧ AvOK A w ∧ Fr w0 w ∧ (∀ b o, A0 b o → A b o) ∧ IniOK [ob ul_u1 (.vec w0.heap.size 5 (eInt .u8) y6)] A w ∧ R 0 = v0 ∧ R 3 = ul_u1 ∧ R 4 = .int .i64 y5 ∧ Rep eStr A w v0 p0) fu ⟨_, _, _, u1, q3, hA, hF, hAA, hO, h0, h3, h4, f_v0⟩ ?_
  have hr0 := hr; clear hr q3
  rintro k R w ⟨A, y5, y6, ul_u1, hr, hA, hF, hAA, hO, h0, h3, h4, f_v0⟩
  rcases k with _ | k
  ·cases (show none = some _ from hr)
  rw [M_spec_FoldCase_L0] at hr
  refine HT.seq ?_
  refine HT.seq ?_
  refine HT.text (l := ⟨_, true, .raw (.int .i64 y5)⟩ :: ⟨_, true, .raw v0⟩ :: ⟨_, true, .raw (.int .i64 (p0.length : Int))⟩ :: ⟨_, true, .raw (.bool (decide (y5 < (p0.length : Int))))⟩ :: []) (tl := []) (by kernel_rfl) (by kernel_rfl) (by kernel_rfl) ?_ ?_
  ·exact
    Obls.p (fun R' w' hw hs hd => of_move ((hs 4 rfl).trans h4)) <|
    Obls.p (fun R' w' hw hs hd => of_move ((hs 0 rfl).trans h0)) <|
    Obls.p (fun R' w' hw hs hd => by have a0 : R' 8 = v0 := hd.g 0 rfl; have ra0 := (f_v0.fr hw).eq a0; exact of_len_str ra0 Try.underlying9) <|
    Obls.p (fun R' w' hw hs hd => by have a0 : R' 7 = .int .i64 y5 := hd.g 0 rfl; have a1 : R' 9 = .int .i64 (p0.length : Int) := hd.g 1 rfl; exact of_lss a0 a1) <|
    Obls.nil
  intro R w hw hs hF'
  replace h0 := (hs 0 rfl).trans h0
  replace h3 := (hs 3 rfl).trans h3
  replace h4 := (hs 4 rfl).trans h4
  have h10 : R 10 = .bool (decide (y5 < (p0.length : Int))) := hF' 3 _ _ rfl rfl rfl
  replace f_v0 := f_v0.fr hw
  replace hO := hO.fr hw
  replace hA := hA.fr hw.size
  replace hF := hF.trans hw
  clear hs hF' hw
  refine seqR_nil ?_
  refine HT.cond (decide (y5 < (p0.length : Int))) h10 (fun c7 => ?_) (fun c7 => ?_)
  ·have hr := cnd_t c7 hr
   refine HT.skip ?_
   refine HT.seq ?_
   refine HT.block ?_
   refine HT.seq ?_
   obtain ⟨e8, hr⟩ := ck_some hr
   refine HT.text (l := ⟨_, true, .raw v0⟩ :: ⟨_, true, .raw (.int .i64 y5)⟩ :: ⟨_, true, .raw (.int .u8 (bAt p0 y5))⟩ :: ⟨_, true, .raw (.int .u8 (bAt p0 y5))⟩ :: []) (tl := []) (by kernel_rfl) (by kernel_rfl) (by kernel_rfl) ?_ ?_
   ·exact
     Obls.p (fun R' w' hw hs hd => of_move ((hs 0 rfl).trans h0)) <|
     Obls.p (fun R' w' hw hs hd => of_move ((hs 4 rfl).trans h4)) <|
     Obls.p (fun R' w' hw hs hd => by have a0 : R' 13 = v0 := hd.g 0 rfl; have ra0 := (f_v0.fr hw).eq a0; have a1 : R' 14 = .int .i64 y5 := hd.g 1 rfl; exact of_strIndex ra0 a1 Try.underlying9 e8) <|
     Obls.p (fun R' w' hw hs hd => by have a0 : R' 15 = .int .u8 (bAt p0 y5) := hd.g 0 rfl; exact of_assign a0) <|
     Obls.nil
   intro R w hw hs hF'
   replace h0 := (hs 0 rfl).trans h0
   replace h3 := (hs 3 rfl).trans h3
   replace h4 := (hs 4 rfl).trans h4
   have h5 : R 5 = .int .u8 (bAt p0 y5) := hF' 3 _ _ rfl rfl rfl
   replace f_v0 := f_v0.fr hw
   replace hO := hO.fr hw
   replace hA := hA.fr hw.size
   replace hF := hF.trans hw
   clear hs hF' hw
   refine seqR_nil ?_
   refine HT.seq ?_
   refine HT.seq ?_
   obtain ⟨x9, q10, hr⟩ := bd_some hr
   refine HT.text (l := ⟨_, true, .raw (.int .u8 (bAt p0 y5))⟩ :: ⟨_, true, .raw (.bool (decide ((65 : Int) ≤ (bAt p0 y5))))⟩ :: ⟨_, true, .raw (.bool (decide ((65 : Int) ≤ (bAt p0 y5))))⟩ :: ⟨_, (true && ((decide ((65 : Int) ≤ (bAt p0 y5))) == true)), .raw (.int .u8 (bAt p0 y5))⟩ :: ⟨_, (true && ((decide ((65 : Int) ≤ (bAt p0 y5))) == true)), .raw (.bool (decide ((bAt p0 y5) ≤ (90 : Int))))⟩ :: ⟨_, true, .raw (.bool x9)⟩ :: []) (tl := []) (by kernel_rfl) (by kernel_rfl) (by kernel_rfl) ?_ ?_
   ·exact
     Obls.p (fun R' w' hw hs hd => of_move ((hs 5 rfl).trans h5)) <|
     Obls.p (fun R' w' hw hs hd => by have a0 : R' 16 = .int .u8 (bAt p0 y5) := hd.g 0 rfl; exact of_geq a0 rfl) <|
     Obls.p (fun R' w' hw hs hd => by have a0 : R' 17 = .bool (decide ((65 : Int) ≤ (bAt p0 y5))) := hd.g 0 rfl; exact of_move a0) <|
     Obls.cons (Obl.grd 2 true _ _ _ rfl rfl rfl rfl rfl (by kernel_rfl) fun hg R' w' hw hs hd => by have a0 : R' 5 = .int .u8 (bAt p0 y5) := (hs 5 rfl).trans h5; exact of_move a0) <|
     Obls.cons (Obl.grd 2 true _ _ _ rfl rfl rfl rfl rfl (by kernel_rfl) fun hg R' w' hw hs hd => by have a0 : R' 19 = .int .u8 (bAt p0 y5) := hd 0 _ _ _ rfl rfl rfl rfl hg; exact of_leq a0 rfl) <|
     Obls.p (fun R' w' hw hs hd => by have a0 : R' 18 = .bool (decide ((65 : Int) ≤ (bAt p0 y5))) := hd.g 0 rfl; exact of_pick (decide ((65 : Int) ≤ (bAt p0 y5))) a0 (fun hc => by have a1 : R' 20 = .bool (decide ((bAt p0 y5) ≤ (90 : Int))) := hd 1 _ _ _ rfl rfl rfl rfl (g_and rfl (beq_of hc)); show _ = Value.bool x9; rw [q10, hc]; exact a1) (fun hc => by show _ = Value.bool x9; rw [q10, hc]; exact rfl)) <|
     Obls.nil
   intro R w hw hs hF'
   replace h0 := (hs 0 rfl).trans h0
   replace h3 := (hs 3 rfl).trans h3
   replace h4 := (hs 4 rfl).trans h4
   replace h5 := (hs 5 rfl).trans h5
   have h21 : R 21 = .bool x9 := hF' 5 _ _ rfl rfl rfl
   replace f_v0 := f_v0.fr hw
   replace hO := hO.fr hw
   replace hA := hA.fr hw.size
   replace hF := hF.trans hw
   clear hs hF' hw
   refine seqR_nil ?_
   refine HT.cond x9 h21 (fun c11 => ?_) (fun c11 => ?_)
   ·have hr := cnd_t c11 hr
    refine HT.text (l := ⟨_, true, .raw (.int .u8 (bAt p0 y5))⟩ :: ⟨_, true, .raw (.int .u8 (IntKind.u8.wrap ((bAt p0 y5) + (32 : Int))))⟩ :: ⟨_, true, .raw (.int .u8 (IntKind.u8.wrap ((bAt p0 y5) + (32 : Int))))⟩ :: []) (tl := []) (by kernel_rfl) (by kernel_rfl) (by kernel_rfl) ?_ ?_
    ·exact
      Obls.p (fun R' w' hw hs hd => of_move ((hs 5 rfl).trans h5)) <|
      Obls.p (fun R' w' hw hs hd => by have a0 : R' 22 = .int .u8 (bAt p0 y5) := hd.g 0 rfl; exact of_add_w a0 rfl) <|
      Obls.p (fun R' w' hw hs hd => by have a0 : R' 23 = .int .u8 (IntKind.u8.wrap ((bAt p0 y5) + (32 : Int))) := hd.g 0 rfl; exact of_assign a0) <|
      Obls.nil
    intro R w hw hs hF'
    replace h0 := (hs 0 rfl).trans h0
    replace h3 := (hs 3 rfl).trans h3
    replace h4 := (hs 4 rfl).trans h4
    have h5 : R 5 = .int .u8 (IntKind.u8.wrap ((bAt p0 y5) + (32 : Int))) := hF' 2 _ _ rfl rfl rfl
    replace f_v0 := f_v0.fr hw
    replace hO := hO.fr hw
    replace hA := hA.fr hw.size
    replace hF := hF.trans hw
    clear hs hF' hw
    refine seqR_nil ?_
    obtain ⟨e12, hr⟩ := ck_some hr
    refine HT.textR [ob ul_u1 (.vec w0.heap.size 5 (eInt .u8) y6)] (⟨_, true, [], none, true, fun A => .raw ul_u1⟩ :: ⟨_, true, [], none, true, fun A => .raw (.int .u8 (IntKind.u8.wrap ((bAt p0 y5) + (32 : Int))))⟩ :: ⟨_, true, [], none, true, fun A => .rep (eSl (eInt .u8)) A ([(IntKind.u8.wrap ((bAt p0 y5) + (32 : Int)))] : List Int)⟩ :: ⟨_, true, [0], some (.vec w0.heap.size 5 (eInt .u8) (y6 ++ ([(IntKind.u8.wrap ((bAt p0 y5) + (32 : Int)))] : List Int))), true, fun A => .any⟩ :: ⟨_, true, [4], some (.vec w0.heap.size 5 (eInt .u8) (y6 ++ ([(IntKind.u8.wrap ((bAt p0 y5) + (32 : Int)))] : List Int))), true, fun A => .any⟩ :: []) (by kernel_rfl) (by kernel_rfl) (Wf.mk' (by kernel_rfl) (UAll.cons ust_raw (UAll.cons ust_raw (UAll.cons ust_rep (UAll.cons ust_any (UAll.cons ust_any (UAll.nil)))))) (by kernel_rfl) (by kernel_rfl)) hO hA ?_ ?_
    ·exact
      OblsR.p (fun A' R' w' ho hd => of_move ((ho.old 3 rfl).trans h3)) <|
      OblsR.p (fun A' R' w' ho hd => of_move ((ho.old 5 rfl).trans h5)) <|
      OblsR.p (fun A' R' w' ho hd => by have a0 : R' 25 = .int .u8 (IntKind.u8.wrap ((bAt p0 y5) + (32 : Int))) := hd.g 0 rfl; exact of_build [_] (E := eInt .u8) ⟨(rep_int.eq a0), trivial⟩ Try.underlying33 Try.sizeOf5 Try.zeroValue5 rfl rfl rfl ho.av) <|
      OblsR.cons (OblR.took 0 _ _ rfl rfl rfl rfl rfl fun A' R' w' ho hd u hok hav hin hop hds => by have a0 : R' 24 = ul_u1 := hd.g 0 rfl; have a1 : Rep (eSl (eInt .u8)) A' w' (R' 26) ([(IntKind.u8.wrap ((bAt p0 y5) + (32 : Int)))] : List Int) := hd.g 1 rfl; exact took_append (a0.trans (hin _ rfl).symm) hok hav (Nat.le_trans hF.size ho.ch.size) a1 Try.underlying33 el_5 e12) <|
      OblsR.cons (OblR.took 4 _ _ rfl rfl rfl rfl rfl fun A' R' w' ho hd u hok hav hin hop hds => by exact took_assign (hop _ _ rfl rfl rfl rfl).symm hok hav) <|
      OblsR.nil
    intro done ρ σ A R w hdn hI
    replace h0 : R 0 = v0 := (hI.reg rfl).trans h0
    replace h4 : R 4 = .int .i64 y5 := (hI.reg rfl).trans h4
    obtain ⟨u13, e_u13⟩ : ∃ u, ρ 5 = u := ⟨_, rfl⟩
    have h3 : R 3 = u13 := (hI.opvR hdn 5 4 rfl rfl rfl rfl rfl).symm.trans e_u13
    replace f_v0 := f_v0.stp hI.stp
    replace hAA := hI.low' hAA hA0 (hO.ge (⟨rfl, trivial⟩))
    replace hF : Fr w0 w := hF.tr hI.ch (hO.ge (⟨rfl, trivial⟩))
    replace hO : IniOK [ob u13 (.vec w0.heap.size 5 (eInt .u8) (y6 ++ ([(IntKind.u8.wrap ((bAt p0 y5) + (32 : Int)))] : List Int)))] A w := hI.left hdn [(5, ob u13 (.vec w0.heap.size 5 (eInt .u8) (y6 ++ ([(IntKind.u8.wrap ((bAt p0 y5) + (32 : Int)))] : List Int))))] ⟨rfl, rfl, e_u13, rfl, rfl, trivial⟩
    replace hA := hI.avok
    clear hI
    obtain ⟨e14, hr⟩ := ck_some hr
    refine HT.text (l := ⟨_, true, .raw (.int .i64 y5)⟩ :: ⟨_, true, .raw (.int .i64 (y5 + (1 : Int)))⟩ :: ⟨_, true, .raw (.int .i64 (y5 + (1 : Int)))⟩ :: []) (tl := []) (by kernel_rfl) (by kernel_rfl) (by kernel_rfl) ?_ ?_
    ·exact
      Obls.p (fun R' w' hw hs hd => of_move ((hs 4 rfl).trans h4)) <|
      Obls.p (fun R' w' hw hs hd => by have a0 : R' 11 = .int .i64 y5 := hd.g 0 rfl; exact of_add a0 rfl e14) <|
      Obls.p (fun R' w' hw hs hd => by have a0 : R' 12 = .int .i64 (y5 + (1 : Int)) := hd.g 0 rfl; exact of_assign a0) <|
      Obls.nil
    intro R w hw hs hF'
    replace h0 := (hs 0 rfl).trans h0
    replace h3 := (hs 3 rfl).trans h3
    have h4 : R 4 = .int .i64 (y5 + (1 : Int)) := hF' 2 _ _ rfl rfl rfl
    replace f_v0 := f_v0.fr hw
    replace hO := hO.fr hw
    replace hA := hA.fr hw.size
    replace hF := hF.trans hw
    clear hs hF' hw
    refine seqR_nil ?_
    exact Exists.intro k (And.intro (Nat.lt_succ_self k) ⟨_, _, _, u13, hr, hA, hF, hAA, hO, h0, h3, h4, f_v0⟩)
   ·have hr := cnd_f c11 hr
    refine HT.skip ?_
    obtain ⟨e15, hr⟩ := ck_some hr
    refine HT.textR [ob ul_u1 (.vec w0.heap.size 5 (eInt .u8) y6)] (⟨_, true, [], none, true, fun A => .raw ul_u1⟩ :: ⟨_, true, [], none, true, fun A => .raw (.int .u8 (bAt p0 y5))⟩ :: ⟨_, true, [], none, true, fun A => .rep (eSl (eInt .u8)) A ([(bAt p0 y5)] : List Int)⟩ :: ⟨_, true, [0], some (.vec w0.heap.size 5 (eInt .u8) (y6 ++ ([(bAt p0 y5)] : List Int))), true, fun A => .any⟩ :: ⟨_, true, [4], some (.vec w0.heap.size 5 (eInt .u8) (y6 ++ ([(bAt p0 y5)] : List Int))), true, fun A => .any⟩ :: []) (by kernel_rfl) (by kernel_rfl) (Wf.mk' (by kernel_rfl) (UAll.cons ust_raw (UAll.cons ust_raw (UAll.cons ust_rep (UAll.cons ust_any (UAll.cons ust_any (UAll.nil)))))) (by kernel_rfl) (by kernel_rfl)) hO hA ?_ ?_
    ·exact
      OblsR.p (fun A' R' w' ho hd => of_move ((ho.old 3 rfl).trans h3)) <|
      OblsR.p (fun A' R' w' ho hd => of_move ((ho.old 5 rfl).trans h5)) <|
      OblsR.p (fun A' R' w' ho hd => by have a0 : R' 25 = .int .u8 (bAt p0 y5) := hd.g 0 rfl; exact of_build [_] (E := eInt .u8) ⟨(rep_int.eq a0), trivial⟩ Try.underlying33 Try.sizeOf5 Try.zeroValue5 rfl rfl rfl ho.av) <|
      OblsR.cons (OblR.took 0 _ _ rfl rfl rfl rfl rfl fun A' R' w' ho hd u hok hav hin hop hds => by have a0 : R' 24 = ul_u1 := hd.g 0 rfl; have a1 : Rep (eSl (eInt .u8)) A' w' (R' 26) ([(bAt p0 y5)] : List Int) := hd.g 1 rfl; exact took_append (a0.trans (hin _ rfl).symm) hok hav (Nat.le_trans hF.size ho.ch.size) a1 Try.underlying33 el_5 e15) <|
      OblsR.cons (OblR.took 4 _ _ rfl rfl rfl rfl rfl fun A' R' w' ho hd u hok hav hin hop hds => by exact took_assign (hop _ _ rfl rfl rfl rfl).symm hok hav) <|
      OblsR.nil
    intro done ρ σ A R w hdn hI
    replace h0 : R 0 = v0 := (hI.reg rfl).trans h0
    replace h4 : R 4 = .int .i64 y5 := (hI.reg rfl).trans h4
    obtain ⟨u16, e_u16⟩ : ∃ u, ρ 5 = u := ⟨_, rfl⟩
    have h3 : R 3 = u16 := (hI.opvR hdn 5 4 rfl rfl rfl rfl rfl).symm.trans e_u16
    replace f_v0 := f_v0.stp hI.stp
    replace hAA := hI.low' hAA hA0 (hO.ge (⟨rfl, trivial⟩))
    replace hF : Fr w0 w := hF.tr hI.ch (hO.ge (⟨rfl, trivial⟩))
    replace hO : IniOK [ob u16 (.vec w0.heap.size 5 (eInt .u8) (y6 ++ ([(bAt p0 y5)] : List Int)))] A w := hI.left hdn [(5, ob u16 (.vec w0.heap.size 5 (eInt .u8) (y6 ++ ([(bAt p0 y5)] : List Int))))] ⟨rfl, rfl, e_u16, rfl, rfl, trivial⟩
    replace hA := hI.avok
    clear hI
    obtain ⟨e17, hr⟩ := ck_some hr
    refine HT.text (l := ⟨_, true, .raw (.int .i64 y5)⟩ :: ⟨_, true, .raw (.int .i64 (y5 + (1 : Int)))⟩ :: ⟨_, true, .raw (.int .i64 (y5 + (1 : Int)))⟩ :: []) (tl := []) (by kernel_rfl) (by kernel_rfl) (by kernel_rfl) ?_ ?_
    ·exact
      Obls.p (fun R' w' hw hs hd => of_move ((hs 4 rfl).trans h4)) <|
      Obls.p (fun R' w' hw hs hd => by have a0 : R' 11 = .int .i64 y5 := hd.g 0 rfl; exact of_add a0 rfl e17) <|
      Obls.p (fun R' w' hw hs hd => by have a0 : R' 12 = .int .i64 (y5 + (1 : Int)) := hd.g 0 rfl; exact of_assign a0) <|
      Obls.nil
    intro R w hw hs hF'
    replace h0 := (hs 0 rfl).trans h0
    replace h3 := (hs 3 rfl).trans h3
    have h4 : R 4 = .int .i64 (y5 + (1 : Int)) := hF' 2 _ _ rfl rfl rfl
    replace f_v0 := f_v0.fr hw
    replace hO := hO.fr hw
    replace hA := hA.fr hw.size
    replace hF := hF.trans hw
    clear hs hF' hw
    refine seqR_nil ?_
    exact Exists.intro k (And.intro (Nat.lt_succ_self k) ⟨_, _, _, u16, hr, hA, hF, hAA, hO, h0, h3, h4, f_v0⟩)
  ·have hr := cnd_f c7 hr
   refine HT.exit ?_
   obtain rfl := Option.some.inj hr
   exact Exists.intro _ ⟨_, ul_u1, rfl, hA, hF, hAA, hO, h3⟩
 rintro R w ⟨A, s4, uo_u1, es, hA, hF, hAA, hO, h3⟩
 obtain rfl := es.symm
 refine HT.seq ?_
 refine HT.text (l := ⟨_, true, .raw uo_u1⟩ :: ⟨_, true, .rep eStr A (strB s4)⟩ :: ⟨_, true, .rep eStr A (strB s4)⟩ :: []) (tl := []) (by kernel_rfl) (by kernel_rfl) (by kernel_rfl) ?_ ?_
 ·exact
   Obls.p (fun R' w' hw hs hd => of_move ((hs 3 rfl).trans h3)) <|
   Obls.p (fun R' w' hw hs hd => by have a0 : R' 28 = uo_u1 := hd.g 0 rfl; have ra0 := (vec_rep ((hO.fr hw).ok 0 _ rfl).1 hAA hA0).eq a0; exact of_conv_bytes ra0 Try.underlying33 Try.underlying5 Try.underlying9) <|
   Obls.p (fun R' w' hw hs hd => by have a0 : Rep eStr A w' (R' 29) (strB s4) := hd.g 0 rfl; exact of_assign a0) <|
   Obls.nil
 intro R w hw hs hF'
 obtain ⟨u18, h2, f_u18⟩ : ∃ u, R 2 = u ∧ Rep eStr A w u (strB s4) := ⟨_, rfl, hF' 2 _ _ rfl rfl rfl⟩
 replace hO := hO.fr hw
 replace hO : IniOK [] A w := hO.sub [] trivial
 replace hA := hA.fr hw.size
 replace hF := hF.trans hw
 clear hs hF' hw
 refine seqR_nil ?_
 refine HT.ret ?_
 obtain rfl := Option.some.inj hr
 exact ⟨.inr rfl, [R 2], ⟨rfl, trivial⟩, (f_u18.eq h2).down hAA, hF⟩
def M_spec_l2Word (fu : Nat) (p0 : Int) : Option Bool :=
 bd ((decide ((97 : Int) ≤ p0)) && (decide (p0 ≤ (122 : Int)))) fun x1 =>
 bd ((decide ((65 : Int) ≤ p0)) && (decide (p0 ≤ (90 : Int)))) fun x3 =>
 bd (x1 || x3) fun x5 =>
 bd ((decide ((48 : Int) ≤ p0)) && (decide (p0 ≤ (57 : Int)))) fun x7 =>
 bd (x5 || x7) fun x9 =>
 some x9
theorem M_spec_l2Word_ok {fu : Nat} {A : Av} {p0 : Int} {r : Bool} (hr : M_spec_l2Word fu p0 = some r) {w : World} {v0 : Value} (hA : AvOK A w) (h0 : v0 = .int .u8 p0) :
  Calls Try.prog 133 #[v0] w fun e w' => ∃ v, e = .returned v ∧ (v = .bool r ∧ Fr w w') := by
 unfold M_spec_l2Word at hr
 obtain ⟨w0, hw0⟩ : ∃ w0, w0 = w := ⟨_, rfl⟩
 have hF : Fr w0 w := hw0 ▸ Fr.refl _
 rw [show Fr w = Fr w0 from hw0 ▸ rfl]
 clear hw0
 refine calls_of_HT2 [.tmp 2] Try.func133 Try.ntmps133 (by decide) rfl rfl (Nat.le_of_ble_eq_true rfl) ?_
 intro R hR
 replace h0 : R 0 = .int .u8 p0 := (hR 0 _ rfl).trans h0
 clear hR
 refine HT.seq ?_
 refine HT.text (l := ⟨_, true, .raw (.bool false)⟩ :: []) (tl := []) (by kernel_rfl) (by kernel_rfl) (by kernel_rfl) ?_ ?_
 ·exact
   Obls.p (fun R' w' hw hs hd => of_assign rfl) <|
   Obls.nil
 intro R w hw hs hF'
 replace h0 := (hs 0 rfl).trans h0
 replace hA := hA.fr hw.size
 replace hF := hF.trans hw
 clear hs hF' hw
 refine seqR_nil ?_
 refine HT.seq ?_
 obtain ⟨x1, q2, hr⟩ := bd_some hr
 obtain ⟨x3, q4, hr⟩ := bd_some hr
 obtain ⟨x5, q6, hr⟩ := bd_some hr
 obtain ⟨x7, q8, hr⟩ := bd_some hr
 obtain ⟨x9, q10, hr⟩ := bd_some hr
 refine HT.text (l := ⟨_, true, .raw (.int .u8 p0)⟩ :: ⟨_, true, .raw (.bool (decide ((97 : Int) ≤ p0)))⟩ :: ⟨_, true, .raw (.bool (decide ((97 : Int) ≤ p0)))⟩ :: ⟨_, (true && ((decide ((97 : Int) ≤ p0)) == true)), .raw (.int .u8 p0)⟩ :: ⟨_, (true && ((decide ((97 : Int) ≤ p0)) == true)), .raw (.bool (decide (p0 ≤ (122 : Int))))⟩ :: ⟨_, true, .raw (.bool x1)⟩ :: ⟨_, true, .raw (.bool x1)⟩ :: ⟨_, (true && (x1 == false)), .raw (.int .u8 p0)⟩ :: ⟨_, (true && (x1 == false)), .raw (.bool (decide ((65 : Int) ≤ p0)))⟩ :: ⟨_, (true && (x1 == false)), .raw (.bool (decide ((65 : Int) ≤ p0)))⟩ :: ⟨_, ((true && (x1 == false)) && ((decide ((65 : Int) ≤ p0)) == true)), .raw (.int .u8 p0)⟩ :: ⟨_, ((true && (x1 == false)) && ((decide ((65 : Int) ≤ p0)) == true)), .raw (.bool (decide (p0 ≤ (90 : Int))))⟩ :: ⟨_, (true && (x1 == false)), .raw (.bool x3)⟩ :: ⟨_, true, .raw (.bool x5)⟩ :: ⟨_, true, .raw (.bool x5)⟩ :: ⟨_, (true && (x5 == false)), .raw (.int .u8 p0)⟩ :: ⟨_, (true && (x5 == false)), .raw (.bool (decide ((48 : Int) ≤ p0)))⟩ :: ⟨_, (true && (x5 == false)), .raw (.bool (decide ((48 : Int) ≤ p0)))⟩ :: ⟨_, ((true && (x5 == false)) && ((decide ((48 : Int) ≤ p0)) == true)), .raw (.int .u8 p0)⟩ :: ⟨_, ((true && (x5 == false)) && ((decide ((48 : Int) ≤ p0)) == true)), .raw (.bool (decide (p0 ≤ (57 : Int))))⟩ :: ⟨_, (true && (x5 == false)), .raw (.bool x7)⟩ :: ⟨_, true, .raw (.bool x9)⟩ :: ⟨_, true, .raw (.bool x9)⟩ :: []) (tl := []) (by kernel_rfl) (by kernel_rfl) (by kernel_rfl) ?_ ?_
 ·exact
   Obls.p (fun R' w' hw hs hd => of_move ((hs 0 rfl).trans h0)) <|
   Obls.p (fun R' w' hw hs hd => by have a0 : R' 3 = .int .u8 p0 := hd.g 0 rfl; exact of_geq a0 rfl) <|
   Obls.p (fun R' w' hw hs hd => by have a0 : R' 4 = .bool (decide ((97 : Int) ≤ p0)) := hd.g 0 rfl; exact of_move a0) <|
   Obls.cons (Obl.grd 2 true _ _ _ rfl rfl rfl rfl rfl (by kernel_rfl) fun hg R' w' hw hs hd => by have a0 : R' 0 = .int .u8 p0 := (hs 0 rfl).trans h0; exact of_move a0) <|
   Obls.cons (Obl.grd 2 true _ _ _ rfl rfl rfl rfl rfl (by kernel_rfl) fun hg R' w' hw hs hd => by have a0 : R' 6 = .int .u8 p0 := hd 0 _ _ _ rfl rfl rfl rfl hg; exact of_leq a0 rfl) <|
   Obls.p (fun R' w' hw hs hd => by have a0 : R' 5 = .bool (decide ((97 : Int) ≤ p0)) := hd.g 0 rfl; exact of_pick (decide ((97 : Int) ≤ p0)) a0 (fun hc => by have a1 : R' 7 = .bool (decide (p0 ≤ (122 : Int))) := hd 1 _ _ _ rfl rfl rfl rfl (g_and rfl (beq_of hc)); show _ = Value.bool x1; rw [q2, hc]; exact a1) (fun hc => by show _ = Value.bool x1; rw [q2, hc]; exact rfl)) <|
   Obls.p (fun R' w' hw hs hd => by have a0 : R' 8 = .bool x1 := hd.g 0 rfl; exact of_move a0) <|
   Obls.cons (Obl.grd 6 false _ _ _ rfl rfl rfl rfl rfl (by kernel_rfl) fun hg R' w' hw hs hd => by have a0 : R' 0 = .int .u8 p0 := (hs 0 rfl).trans h0; exact of_move a0) <|
   Obls.cons (Obl.grd 6 false _ _ _ rfl rfl rfl rfl rfl (by kernel_rfl) fun hg R' w' hw hs hd => by have a0 : R' 10 = .int .u8 p0 := hd 0 _ _ _ rfl rfl rfl rfl hg; exact of_geq a0 rfl) <|
   Obls.cons (Obl.grd 6 false _ _ _ rfl rfl rfl rfl rfl (by kernel_rfl) fun hg R' w' hw hs hd => by have a0 : R' 11 = .bool (decide ((65 : Int) ≤ p0)) := hd 0 _ _ _ rfl rfl rfl rfl hg; exact of_move a0) <|
   Obls.cons (Obl.grd 9 true _ _ _ rfl rfl rfl rfl rfl (by kernel_rfl) fun hg R' w' hw hs hd => by have a0 : R' 0 = .int .u8 p0 := (hs 0 rfl).trans h0; exact of_move a0) <|
   Obls.cons (Obl.grd 9 true _ _ _ rfl rfl rfl rfl rfl (by kernel_rfl) fun hg R' w' hw hs hd => by have a0 : R' 13 = .int .u8 p0 := hd 0 _ _ _ rfl rfl rfl rfl hg; exact of_leq a0 rfl) <|
   Obls.cons (Obl.grd 6 false _ _ _ rfl rfl rfl rfl rfl (by kernel_rfl) fun hg R' w' hw hs hd => by have a0 : R' 12 = .bool (decide ((65 : Int) ≤ p0)) := hd 0 _ _ _ rfl rfl rfl rfl hg; exact of_pick (decide ((65 : Int) ≤ p0)) a0 (fun hc => by have a1 : R' 14 = .bool (decide (p0 ≤ (90 : Int))) := hd 1 _ _ _ rfl rfl rfl rfl (g_and hg (beq_of hc)); show _ = Value.bool x3; rw [q4, hc]; exact a1) (fun hc => by show _ = Value.bool x3; rw [q4, hc]; exact rfl)) <|
   Obls.p (fun R' w' hw hs hd => by have a0 : R' 9 = .bool x1 := hd.g 0 rfl; exact of_pick x1 a0 (fun hc => by show _ = Value.bool x5; rw [q6, hc]; exact rfl) (fun hc => by have a2 : R' 15 = .bool x3 := hd 1 _ _ _ rfl rfl rfl rfl (g_and rfl (beq_of hc)); show _ = Value.bool x5; rw [q6, hc]; exact a2)) <|
   Obls.p (fun R' w' hw hs hd => by have a0 : R' 16 = .bool x5 := hd.g 0 rfl; exact of_move a0) <|
   Obls.cons (Obl.grd 14 false _ _ _ rfl rfl rfl rfl rfl (by kernel_rfl) fun hg R' w' hw hs hd => by have a0 : R' 0 = .int .u8 p0 := (hs 0 rfl).trans h0; exact of_move a0) <|
   Obls.cons (Obl.grd 14 false _ _ _ rfl rfl rfl rfl rfl (by kernel_rfl) fun hg R' w' hw hs hd => by have a0 : R' 18 = .int .u8 p0 := hd 0 _ _ _ rfl rfl rfl rfl hg; exact of_geq a0 rfl) <|
   Obls.cons (Obl.grd 14 false _ _ _ rfl rfl rfl rfl rfl (by kernel_rfl) fun hg R' w' hw hs hd => by have a0 : R' 19 = .bool (decide ((48 : Int) ≤ p0)) := hd 0 _ _ _ rfl rfl rfl rfl hg; exact of_move a0) <|
   Obls.cons (Obl.grd 17 true _ _ _ rfl rfl rfl rfl rfl (by kernel_rfl) fun hg R' w' hw hs hd => by have a0 : R' 0 = .int .u8 p0 := (hs 0 rfl).trans h0; exact of_move a0) <|
   Obls.cons (Obl.grd 17 true _ _ _ rfl rfl rfl rfl rfl (by kernel_rfl) fun hg R' w' hw hs hd => by have a0 : R' 21 = .int .u8 p0 := hd 0 _ _ _ rfl rfl rfl rfl hg; exact of_leq a0 rfl) <|
   Obls.cons (Obl.grd 14 false _ _ _ rfl rfl rfl rfl rfl (by kernel_rfl) fun hg R' w' hw hs hd => by have a0 : R' 20 = .bool (decide ((48 : Int) ≤ p0)) := hd 0 _ _ _ rfl rfl rfl rfl hg; exact of_pick (decide ((48 : Int) ≤ p0)) a0 (fun hc => by have a1 : R' 22 = .bool (decide (p0 ≤ (57 : Int))) := hd 1 _ _ _ rfl rfl rfl rfl (g_and hg (beq_of hc)); show _ = Value.bool x7; rw [q8, hc]; exact a1) (fun hc => by show _ = Value.bool x7; rw [q8, hc]; exact rfl)) <|
   Obls.p (fun R' w' hw hs hd => by have a0 : R' 17 = .bool x5 := hd.g 0 rfl; exact of_pick x5 a0 (fun hc => by show _ = Value.bool x9; rw [q10, hc]; exact rfl) (fun hc => by have a2 : R' 23 = .bool x7 := hd 1 _ _ _ rfl rfl rfl rfl (g_and rfl (beq_of hc)); show _ = Value.bool x9; rw [q10, hc]; exact a2)) <|
   Obls.p (fun R' w' hw hs hd => by have a0 : R' 24 = .bool x9 := hd.g 0 rfl; exact of_assign a0) <|
   Obls.nil
 intro R w hw hs hF'
 have h2 : R 2 = .bool x9 := hF' 22 _ _ rfl rfl rfl
 replace hA := hA.fr hw.size
 replace hF := hF.trans hw
 clear hs hF' hw
 refine seqR_nil ?_
 refine HT.ret ?_
 obtain rfl := Option.some.inj hr
 exact ⟨.inr rfl, [R 2], ⟨rfl, trivial⟩, h2, hF⟩
def M_spec_StripMarks_L0 (fu : Nat) (p0 : List UInt8) : Nat → Int → (List Int) → Option (List Int)
 | 0, _, _ => none
 | k + 1, y5, y6 =>
  bif (decide (y5 < (p0.length : Int))) then (
   ck (inR y5 p0.length) <|
   cl true (M_spec_l2Word fu (bAt p0 y5)) fun x9 =>
   ck (!(true && (x9 == false)) || inR y5 p0.length) <|
   bd (x9 || ((bAt p0 y5) == (32 : Int))) fun x12 =>
   bif x12 then (
    ck (inR y5 p0.length) <|
    ck (lenOK (y6.length + ([(bAt p0 y5)] : List Int).length)) <|
    ck (i64B (y5 + (1 : Int))) <|
    M_spec_StripMarks_L0 fu p0 k (y5 + (1 : Int)) (y6 ++ ([(bAt p0 y5)] : List Int))
   ) else (
    ck (inR y5 p0.length) <|
    bif ((bAt p0 y5) != (39 : Int)) then (
     ck (lenOK (y6.length + ([(32 : Int)] : List Int).length)) <|
     ck (i64B (y5 + (1 : Int))) <|
     M_spec_StripMarks_L0 fu p0 k (y5 + (1 : Int)) (y6 ++ ([(32 : Int)] : List Int))
    ) else (
     ck (i64B (y5 + (1 : Int))) <|
     M_spec_StripMarks_L0 fu p0 k (y5 + (1 : Int)) y6
    )
   )
  ) else (
   some y6
  )
def M_spec_StripMarks (fu : Nat) (p0 : List UInt8) : Option (List UInt8) :=
 cl true (M_spec_StripMarks_L0 fu p0 fu (0 : Int) ([] : List Int)) fun s4 =>
 some (strB s4)
theorem M_spec_StripMarks_ok {fu : Nat} {A0 : Av} {p0 : List UInt8} {r : List UInt8} (hr : M_spec_StripMarks fu p0 = some r) {w : World} {v0 : Value} (hA : AvOK A0 w) (h0 : Rep eStr A0 w v0 p0) :
  Calls Try.prog 103 #[v0] w fun e w' => ∃ v, e = .returned v ∧ (Rep eStr A0 w' v r ∧ Fr w w') := by
 unfold M_spec_StripMarks at hr
 obtain ⟨w0, hw0⟩ : ∃ w0, w0 = w := ⟨_, rfl⟩
 have hF : Fr w0 w := hw0 ▸ Fr.refl _
 have hA0 : ∀ b o, A0 b o → b < w0.heap.size := fun b o h => hw0 ▸ hA b o h
 have hA00 : AvOK A0 w0 := hA0
 rw [show Fr w = Fr w0 from hw0 ▸ rfl]
 clear hw0
 obtain ⟨A, hAe⟩ : ∃ A, A = A0 := ⟨_, rfl⟩
 have hAA : ∀ b o, A0 b o → A b o := fun b o h => hAe ▸ h
 replace hA : AvOK A w := hAe ▸ hA
 have hO : IniOK [] A w := IniOK.nil
 refine calls_of_HT2 [.tmp 2] Try.func103 Try.ntmps103 (by decide) rfl rfl (Nat.le_of_ble_eq_true rfl) ?_
 intro R hR
 have f_v0 : Rep eStr A w v0 p0 := hAe ▸ h0
 replace h0 : R 0 = v0 := hR 0 _ rfl
 clear hR hAe
 refine HT.seq ?_
 refine HT.text (l := ⟨_, true, .rep eStr A ([] : List UInt8)⟩ :: []) (tl := []) (by kernel_rfl) (by kernel_rfl) (by kernel_rfl) ?_ ?_
 ·exact
   Obls.p (fun R' w' hw hs hd => of_assign ⟨_, rfl, ⟨_, rfl, rfl, by decide⟩⟩) <|
   Obls.nil
 intro R w hw hs hF'
 replace h0 := (hs 0 rfl).trans h0
 replace f_v0 := f_v0.fr hw
 replace hO := hO.fr hw
 replace hA := hA.fr hw.size
 replace hF := hF.trans hw
 clear hs hF' hw
 refine seqR_nil ?_
 refine HT.seq ?_
 refine HT.textR [] (⟨_, true, [], some (.vec w0.heap.size 5 (eInt .u8) ([] : List Int)), true, fun A => .any⟩ :: ⟨_, true, [0], some (.vec w0.heap.size 5 (eInt .u8) ([] : List Int)), true, fun A => .any⟩ :: []) (by kernel_rfl) (by kernel_rfl) (Wf.mk' (by kernel_rfl) (UAll.cons ust_any (UAll.cons ust_any (UAll.nil))) (by kernel_rfl) (by kernel_rfl)) hO hA ?_ ?_
 ·exact
   OblsR.cons (OblR.made _ rfl rfl rfl rfl fun A' R' w' ho hd => by exact made_build [] (E := eInt .u8) trivial Try.underlying33 Try.sizeOf5 Try.zeroValue5 rfl rfl rfl (Nat.le_trans hF.size ho.ch.size)) <|
   OblsR.cons (OblR.took 0 _ _ rfl rfl rfl rfl rfl fun A' R' w' ho hd u hok hav hin hop hds => by exact took_assign (hop _ _ rfl rfl rfl rfl).symm hok hav) <|
   OblsR.nil
 intro done ρ σ A R w hdn hI
 replace h0 : R 0 = v0 := (hI.reg rfl).trans h0
 obtain ⟨u1, e_u1⟩ : ∃ u, ρ 1 = u := ⟨_, rfl⟩
 have h3 : R 3 = u1 := (hI.opvR hdn 1 1 rfl rfl rfl rfl rfl).symm.trans e_u1
 replace f_v0 := f_v0.stp hI.stp
 replace hAA := hI.low' hAA hA0 (hO.ge (trivial))
 replace hF : Fr w0 w := hF.tr hI.ch (hO.ge (trivial))
 replace hO : IniOK [ob u1 (.vec w0.heap.size 5 (eInt .u8) ([] : List Int))] A w := hI.left hdn [(1, ob u1 (.vec w0.heap.size 5 (eInt .u8) ([] : List Int)))] ⟨rfl, rfl, e_u1, rfl, rfl, trivial⟩
 replace hA := hI.avok
 clear hI
 refine HT.seq ?_
 refine HT.seq ?_
 refine HT.text (l := ⟨_, true, .raw (.int .i64 (0 : Int))⟩ :: []) (tl := []) (by kernel_rfl) (by kernel_rfl) (by kernel_rfl) ?_ ?_
 ·exact
   Obls.p (fun R' w' hw hs hd => of_assign rfl) <|
   Obls.nil
 intro R w hw hs hF'
 replace h0 := (hs 0 rfl).trans h0
 replace h3 := (hs 3 rfl).trans h3
 have h4 : R 4 = .int .i64 (0 : Int) := hF' 0 _ _ rfl rfl rfl
 replace f_v0 := f_v0.fr hw
 replace hO := hO.fr hw
 replace hA := hA.fr hw.size
 replace hF := hF.trans hw
 clear hs hF' hw
 refine seqR_nil ?_
 obtain ⟨rl2, q3, hr⟩ := cl_some hr
 replace q3 := q3 rfl
 refine HT.cut0 (fun R w => ∃ A : Av, ∃ (s4 : (List Int)) (uo_u1 : Value), rl2 = s4 ∧ AvOK A w ∧ Fr w0 w ∧ (∀ b o, A0 b o → A b o) ∧ IniOK [ob uo_u1 (.vec w0.heap.size 5 (eInt .u8) s4)] A w ∧ R 3 = uo_u1) ?_ ?_
 ·refine HT.block ?_
  refine HT.loop (fun k R w => ∃ A : Av, ∃ (y5 : Int) (y6 : List Int) (ul_u1 : Value), M_spec_StripMarks_L0 fu p0 k y5 y6 = some rl2 ∧ AvOK A w ∧ Fr w0 w ∧ (∀ b o, A0 b o → A b o) ∧ IniOK [ob ul_u1 (.vec w0.heap.size 5 (eInt .u8) y6)] A w ∧ R 0 = v0 ∧ R 3 = ul_u1 ∧ R 4 = .int .i64 y5 ∧ Rep eStr A w v0 p0) fu ⟨_, _, _, u1, q3, hA, hF, hAA, hO, h0, h3, h4, f_v0⟩ ?_
  have hr0 := hr; clear hr q3
  rintro k R w ⟨A, y5, y6, ul_u1, hr, hA, hF, hAA, hO, h0, h3, h4, f_v0⟩
  rcases k with _ | k
  ·cases (show none = some _ from hr)
  rw [M_spec_StripMarks_L0] at hr
  refine HT.seq ?_
  refine HT.seq ?_
  refine HT.text (l := ⟨_, true, .raw (.int .i64 y5)⟩ :: ⟨_, true, .raw v0⟩ :: ⟨_, true, .raw (.int .i64 (p0.length : Int))⟩ :: ⟨_, true, .raw (.bool (decide (y5 < (p0.length : Int))))⟩ :: []) (tl := []) (by kernel_rfl) (by kernel_rfl) (by kernel_rfl) ?_ ?_
  ·exact
    Obls.p (fun R' w' hw hs hd => of_move ((hs 4 rfl).trans h4)) <|
    Obls.p (fun R' w' hw hs hd => of_move ((hs 0 rfl).trans h0)) <|
    Obls.p (fun R' w' hw hs hd => by have a0 : R' 7 = v0 := hd.g 0 rfl; have ra0 := (f_v0.fr hw).eq a0; exact of_len_str ra0 Try.underlying9) <|
    Obls.p (fun R' w' hw hs hd => by have a0 : R' 6 = .int .i64 y5 := hd.g 0 rfl; have a1 : R' 8 = .int .i64 (p0.length : Int) := hd.g 1 rfl; exact of_lss a0 a1) <|
    Obls.nil
  intro R w hw hs hF'
  replace h0 := (hs 0 rfl).trans h0
  replace h3 := (hs 3 rfl).trans h3
  replace h4 := (hs 4 rfl).trans h4
  have h9 : R 9 = .bool (decide (y5 < (p0.length : Int))) := hF' 3 _ _ rfl rfl rfl
  replace f_v0 := f_v0.fr hw
  replace hO := hO.fr hw
  replace hA := hA.fr hw.size
  replace hF := hF.trans hw
  clear hs hF' hw
  refine seqR_nil ?_
  refine HT.cond (decide (y5 < (p0.length : Int))) h9 (fun c7 => ?_) (fun c7 => ?_)
  ·have hr := cnd_t c7 hr
   refine HT.skip ?_
   refine HT.seq ?_
   refine HT.block ?_
   refine HT.block ?_
   refine HT.seq ?_
   obtain ⟨e8, hr⟩ := ck_some hr
   obtain ⟨x9, q10, hr⟩ := cl_some hr
   obtain ⟨e11, hr⟩ := ck_some hr
   obtain ⟨x12, q13, hr⟩ := bd_some hr
   refine HT.text (l := ⟨_, true, .raw v0⟩ :: ⟨_, true, .raw (.int .i64 y5)⟩ :: ⟨_, true, .raw (.int .u8 (bAt p0 y5))⟩ :: ⟨_, true, .raw (.bool x9)⟩ :: ⟨_, true, .raw (.bool x9)⟩ :: ⟨_, (true && (x9 == false)), .raw v0⟩ :: ⟨_, (true && (x9 == false)), .raw (.int .i64 y5)⟩ :: ⟨_, (true && (x9 == false)), .raw (.int .u8 (bAt p0 y5))⟩ :: ⟨_, (true && (x9 == false)), .raw (.bool ((bAt p0 y5) == (32 : Int)))⟩ :: ⟨_, true, .raw (.bool x12)⟩ :: ⟨_, true, .raw (.bool x12)⟩ :: []) (tl := []) (by kernel_rfl) (by kernel_rfl) (by kernel_rfl) ?_ ?_
   ·exact
     Obls.p (fun R' w' hw hs hd => of_move ((hs 0 rfl).trans h0)) <|
     Obls.p (fun R' w' hw hs hd => of_move ((hs 4 rfl).trans h4)) <|
     Obls.p (fun R' w' hw hs hd => by have a0 : R' 13 = v0 := hd.g 0 rfl; have ra0 := (f_v0.fr hw).eq a0; have a1 : R' 14 = .int .i64 y5 := hd.g 1 rfl; exact of_strIndex ra0 a1 Try.underlying9 e8) <|
     Obls.p (fun R' w' hw hs hd => by have a0 : R' 15 = .int .u8 (bAt p0 y5) := hd.g 0 rfl; exact of_call Try.call133 (M_spec_l2Word_ok (q10 rfl) (hA.fr hw.size) a0)) <|
     Obls.p (fun R' w' hw hs hd => by have a0 : R' 16 = .bool x9 := hd.g 0 rfl; exact of_move a0) <|
     Obls.cons (Obl.grd 4 false _ _ _ rfl rfl rfl rfl rfl (by kernel_rfl) fun hg R' w' hw hs hd => by have a0 : R' 0 = v0 := (hs 0 rfl).trans h0; exact of_move a0) <|
     Obls.cons (Obl.grd 4 false _ _ _ rfl rfl rfl rfl rfl (by kernel_rfl) fun hg R' w' hw hs hd => by have a0 : R' 4 = .int .i64 y5 := (hs 4 rfl).trans h4; exact of_move a0) <|
     Obls.cons (Obl.grd 4 false _ _ _ rfl rfl rfl rfl rfl (by kernel_rfl) fun hg R' w' hw hs hd => by have a0 : R' 18 = v0 := hd 0 _ _ _ rfl rfl rfl rfl hg; have ra0 := (f_v0.fr hw).eq a0; have a1 : R' 19 = .int .i64 y5 := hd 1 _ _ _ rfl rfl rfl rfl hg; exact of_strIndex ra0 a1 Try.underlying9 (gd e11 hg)) <|
     Obls.cons (Obl.grd 4 false _ _ _ rfl rfl rfl rfl rfl (by kernel_rfl) fun hg R' w' hw hs hd => by have a0 : R' 20 = .int .u8 (bAt p0 y5) := hd 0 _ _ _ rfl rfl rfl rfl hg; exact of_eql a0 rfl) <|
     Obls.p (fun R' w' hw hs hd => by have a0 : R' 17 = .bool x9 := hd.g 0 rfl; exact of_pick x9 a0 (fun hc => by show _ = Value.bool x12; rw [q13, hc]; exact rfl) (fun hc => by have a2 : R' 21 = .bool ((bAt p0 y5) == (32 : Int)) := hd 1 _ _ _ rfl rfl rfl rfl (g_and rfl (beq_of hc)); show _ = Value.bool x12; rw [q13, hc]; exact a2)) <|
     Obls.p (fun R' w' hw hs hd => by have a0 : R' 22 = .bool x12 := hd.g 0 rfl; exact of_assign a0) <|
     Obls.nil
   intro R w hw hs hF'
   replace h0 := (hs 0 rfl).trans h0
   replace h3 := (hs 3 rfl).trans h3
   replace h4 := (hs 4 rfl).trans h4
   have h12 : R 12 = .bool x12 := hF' 10 _ _ rfl rfl rfl
   replace f_v0 := f_v0.fr hw
   replace hO := hO.fr hw
   replace hA := hA.fr hw.size
   replace hF := hF.trans hw
   clear hs hF' hw
   refine seqR_nil ?_
   refine HT.cond x12 h12 (fun c14 => ?_) (fun c14 => ?_)
   ·have hr := cnd_t c14 hr
    obtain ⟨e15, hr⟩ := ck_some hr
    obtain ⟨e16, hr⟩ := ck_some hr
    refine HT.textR [ob ul_u1 (.vec w0.heap.size 5 (eInt .u8) y6)] (⟨_, true, [], none, true, fun A => .raw ul_u1⟩ :: ⟨_, true, [], none, true, fun A => .raw v0⟩ :: ⟨_, true, [], none, true, fun A => .raw (.int .i64 y5)⟩ :: ⟨_, true, [], none, true, fun A => .raw (.int .u8 (bAt p0 y5))⟩ :: ⟨_, true, [], none, true, fun A => .rep (eSl (eInt .u8)) A ([(bAt p0 y5)] : List Int)⟩ :: ⟨_, true, [0], some (.vec w0.heap.size 5 (eInt .u8) (y6 ++ ([(bAt p0 y5)] : List Int))), true, fun A => .any⟩ :: ⟨_, true, [6], some (.vec w0.heap.size 5 (eInt .u8) (y6 ++ ([(bAt p0 y5)] : List Int))), true, fun A => .any⟩ :: []) (by kernel_rfl) (by kernel_rfl) (Wf.mk' (by kernel_rfl) (UAll.cons ust_raw (UAll.cons ust_raw (UAll.cons ust_raw (UAll.cons ust_raw (UAll.cons ust_rep (UAll.cons ust_any (UAll.cons ust_any (UAll.nil)))))))) (by kernel_rfl) (by kernel_rfl)) hO hA ?_ ?_
    ·exact
      OblsR.p (fun A' R' w' ho hd => of_move ((ho.old 3 rfl).trans h3)) <|
      OblsR.p (fun A' R' w' ho hd => of_move ((ho.old 0 rfl).trans h0)) <|
      OblsR.p (fun A' R' w' ho hd => of_move ((ho.old 4 rfl).trans h4)) <|
      OblsR.p (fun A' R' w' ho hd => by have a0 : R' 24 = v0 := hd.g 0 rfl; have ra0 := (f_v0.stp ho.stp).eq a0; have a1 : R' 25 = .int .i64 y5 := hd.g 1 rfl; exact of_strIndex ra0 a1 Try.underlying9 e15) <|
      OblsR.p (fun A' R' w' ho hd => by have a0 : R' 26 = .int .u8 (bAt p0 y5) := hd.g 0 rfl; exact of_build [_] (E := eInt .u8) ⟨(rep_int.eq a0), trivial⟩ Try.underlying33 Try.sizeOf5 Try.zeroValue5 rfl rfl rfl ho.av) <|
      OblsR.cons (OblR.took 0 _ _ rfl rfl rfl rfl rfl fun A' R' w' ho hd u hok hav hin hop hds => by have a0 : R' 23 = ul_u1 := hd.g 0 rfl; have a1 : Rep (eSl (eInt .u8)) A' w' (R' 27) ([(bAt p0 y5)] : List Int) := hd.g 1 rfl; exact took_append (a0.trans (hin _ rfl).symm) hok hav (Nat.le_trans hF.size ho.ch.size) a1 Try.underlying33 el_5 e16) <|
      OblsR.cons (OblR.took 6 _ _ rfl rfl rfl rfl rfl fun A' R' w' ho hd u hok hav hin hop hds => by exact took_assign (hop _ _ rfl rfl rfl rfl).symm hok hav) <|
      OblsR.nil
    intro done ρ σ A R w hdn hI
    replace h0 : R 0 = v0 := (hI.reg rfl).trans h0
    replace h4 : R 4 = .int .i64 y5 := (hI.reg rfl).trans h4
    obtain ⟨u17, e_u17⟩ : ∃ u, ρ 7 = u := ⟨_, rfl⟩
    have h3 : R 3 = u17 := (hI.opvR hdn 7 6 rfl rfl rfl rfl rfl).symm.trans e_u17
    replace f_v0 := f_v0.stp hI.stp
    replace hAA := hI.low' hAA hA0 (hO.ge (⟨rfl, trivial⟩))
    replace hF : Fr w0 w := hF.tr hI.ch (hO.ge (⟨rfl, trivial⟩))
    replace hO : IniOK [ob u17 (.vec w0.heap.size 5 (eInt .u8) (y6 ++ ([(bAt p0 y5)] : List Int)))] A w := hI.left hdn [(7, ob u17 (.vec w0.heap.size 5 (eInt .u8) (y6 ++ ([(bAt p0 y5)] : List Int))))] ⟨rfl, rfl, e_u17, rfl, rfl, trivial⟩
    replace hA := hI.avok
    clear hI
    obtain ⟨e18, hr⟩ := ck_some hr
    refine HT.text (l := ⟨_, true, .raw (.int .i64 y5)⟩ :: ⟨_, true, .raw (.int .i64 (y5 + (1 : Int)))⟩ :: ⟨_, true, .raw (.int .i64 (y5 + (1 : Int)))⟩ :: []) (tl := []) (by kernel_rfl) (by kernel_rfl) (by kernel_rfl) ?_ ?_
    ·exact
      Obls.p (fun R' w' hw hs hd => of_move ((hs 4 rfl).trans h4)) <|
      Obls.p (fun R' w' hw hs hd => by have a0 : R' 10 = .int .i64 y5 := hd.g 0 rfl; exact of_add a0 rfl e18) <|
      Obls.p (fun R' w' hw hs hd => by have a0 : R' 11 = .int .i64 (y5 + (1 : Int)) := hd.g 0 rfl; exact of_assign a0) <|
      Obls.nil
    intro R w hw hs hF'
    replace h0 := (hs 0 rfl).trans h0
    replace h3 := (hs 3 rfl).trans h3
    have h4 : R 4 = .int .i64 (y5 + (1 : Int)) := hF' 2 _ _ rfl rfl rfl
    replace f_v0 := f_v0.fr hw
    replace hO := hO.fr hw
    replace hA := hA.fr hw.size
    replace hF := hF.trans hw
    clear hs hF' hw
    refine seqR_nil ?_
    exact Exists.intro k (And.intro (Nat.lt_succ_self k) ⟨_, _, _, u17, hr, hA, hF, hAA, hO, h0, h3, h4, f_v0⟩)
   ·have hr := cnd_f c14 hr
    refine HT.seq ?_
    obtain ⟨e19, hr⟩ := ck_some hr
    refine HT.text (l := ⟨_, true, .raw v0⟩ :: ⟨_, true, .raw (.int .i64 y5)⟩ :: ⟨_, true, .raw (.int .u8 (bAt p0 y5))⟩ :: ⟨_, true, .raw (.bool ((bAt p0 y5) != (39 : Int)))⟩ :: ⟨_, true, .raw (.bool ((bAt p0 y5) != (39 : Int)))⟩ :: []) (tl := []) (by kernel_rfl) (by kernel_rfl) (by kernel_rfl) ?_ ?_
    ·exact
      Obls.p (fun R' w' hw hs hd => of_move ((hs 0 rfl).trans h0)) <|
      Obls.p (fun R' w' hw hs hd => of_move ((hs 4 rfl).trans h4)) <|
      Obls.p (fun R' w' hw hs hd => by have a0 : R' 30 = v0 := hd.g 0 rfl; have ra0 := (f_v0.fr hw).eq a0; have a1 : R' 31 = .int .i64 y5 := hd.g 1 rfl; exact of_strIndex ra0 a1 Try.underlying9 e19) <|
      Obls.p (fun R' w' hw hs hd => by have a0 : R' 32 = .int .u8 (bAt p0 y5) := hd.g 0 rfl; exact of_neq a0 rfl) <|
      Obls.p (fun R' w' hw hs hd => by have a0 : R' 33 = .bool ((bAt p0 y5) != (39 : Int)) := hd.g 0 rfl; exact of_assign a0) <|
      Obls.nil
    intro R w hw hs hF'
    replace h0 := (hs 0 rfl).trans h0
    replace h3 := (hs 3 rfl).trans h3
    replace h4 := (hs 4 rfl).trans h4
    have h29 : R 29 = .bool ((bAt p0 y5) != (39 : Int)) := hF' 4 _ _ rfl rfl rfl
    replace f_v0 := f_v0.fr hw
    replace hO := hO.fr hw
    replace hA := hA.fr hw.size
    replace hF := hF.trans hw
    clear hs hF' hw
    refine seqR_nil ?_
    refine HT.cond ((bAt p0 y5) != (39 : Int)) h29 (fun c20 => ?_) (fun c20 => ?_)
    ·have hr := cnd_t c20 hr
     obtain ⟨e21, hr⟩ := ck_some hr
     refine HT.textR [ob ul_u1 (.vec w0.heap.size 5 (eInt .u8) y6)] (⟨_, true, [], none, true, fun A => .raw ul_u1⟩ :: ⟨_, true, [], none, true, fun A => .rep (eSl (eInt .u8)) A ([(32 : Int)] : List Int)⟩ :: ⟨_, true, [0], some (.vec w0.heap.size 5 (eInt .u8) (y6 ++ ([(32 : Int)] : List Int))), true, fun A => .any⟩ :: ⟨_, true, [3], some (.vec w0.heap.size 5 (eInt .u8) (y6 ++ ([(32 : Int)] : List Int))), true, fun A => .any⟩ :: []) (by kernel_rfl) (by kernel_rfl) (Wf.mk' (by kernel_rfl) (UAll.cons ust_raw (UAll.cons ust_rep (UAll.cons ust_any (UAll.cons ust_any (UAll.nil))))) (by kernel_rfl) (by kernel_rfl)) hO hA ?_ ?_
     ·exact
       OblsR.p (fun A' R' w' ho hd => of_move ((ho.old 3 rfl).trans h3)) <|
       OblsR.p (fun A' R' w' ho hd => of_build [_] (E := eInt .u8) ⟨(rep_int.eq rfl), trivial⟩ Try.underlying33 Try.sizeOf5 Try.zeroValue5 rfl rfl rfl ho.av) <|
       OblsR.cons (OblR.took 0 _ _ rfl rfl rfl rfl rfl fun A' R' w' ho hd u hok hav hin hop hds => by have a0 : R' 34 = ul_u1 := hd.g 0 rfl; have a1 : Rep (eSl (eInt .u8)) A' w' (R' 35) ([(32 : Int)] : List Int) := hd.g 1 rfl; exact took_append (a0.trans (hin _ rfl).symm) hok hav (Nat.le_trans hF.size ho.ch.size) a1 Try.underlying33 el_5 e21) <|
       OblsR.cons (OblR.took 3 _ _ rfl rfl rfl rfl rfl fun A' R' w' ho hd u hok hav hin hop hds => by exact took_assign (hop _ _ rfl rfl rfl rfl).symm hok hav) <|
       OblsR.nil
     intro done ρ σ A R w hdn hI
     replace h0 : R 0 = v0 := (hI.reg rfl).trans h0
     replace h4 : R 4 = .int .i64 y5 := (hI.reg rfl).trans h4
     obtain ⟨u22, e_u22⟩ : ∃ u, ρ 4 = u := ⟨_, rfl⟩
     have h3 : R 3 = u22 := (hI.opvR hdn 4 3 rfl rfl rfl rfl rfl).symm.trans e_u22
     replace f_v0 := f_v0.stp hI.stp
     replace hAA := hI.low' hAA hA0 (hO.ge (⟨rfl, trivial⟩))
     replace hF : Fr w0 w := hF.tr hI.ch (hO.ge (⟨rfl, trivial⟩))
     replace hO : IniOK [ob u22 (.vec w0.heap.size 5 (eInt .u8) (y6 ++ ([(32 : Int)] : List Int)))] A w := hI.left hdn [(4, ob u22 (.vec w0.heap.size 5 (eInt .u8) (y6 ++ ([(32 : Int)] : List Int))))] ⟨rfl, rfl, e_u22, rfl, rfl, trivial⟩
     replace hA := hI.avok
     clear hI
     obtain ⟨e23, hr⟩ := ck_some hr
     refine HT.text (l := ⟨_, true, .raw (.int .i64 y5)⟩ :: ⟨_, true, .raw (.int .i64 (y5 + (1 : Int)))⟩ :: ⟨_, true, .raw (.int .i64 (y5 + (1 : Int)))⟩ :: []) (tl := []) (by kernel_rfl) (by kernel_rfl) (by kernel_rfl) ?_ ?_
     ·exact
       Obls.p (fun R' w' hw hs hd => of_move ((hs 4 rfl).trans h4)) <|
       Obls.p (fun R' w' hw hs hd => by have a0 : R' 10 = .int .i64 y5 := hd.g 0 rfl; exact of_add a0 rfl e23) <|
       Obls.p (fun R' w' hw hs hd => by have a0 : R' 11 = .int .i64 (y5 + (1 : Int)) := hd.g 0 rfl; exact of_assign a0) <|
       Obls.nil
     intro R w hw hs hF'
     replace h0 := (hs 0 rfl).trans h0
     replace h3 := (hs 3 rfl).trans h3
     have h4 : R 4 = .int .i64 (y5 + (1 : Int)) := hF' 2 _ _ rfl rfl rfl
     replace f_v0 := f_v0.fr hw
     replace hO := hO.fr hw
     replace hA := hA.fr hw.size
     replace hF := hF.trans hw
     clear hs hF' hw
     refine seqR_nil ?_
     exact Exists.intro k (And.intro (Nat.lt_succ_self k) ⟨_, _, _, u22, hr, hA, hF, hAA, hO, h0, h3, h4, f_v0⟩)
    ·have hr := cnd_f c20 hr
     refine HT.skip ?_
     obtain ⟨e24, hr⟩ := ck_some hr
     refine HT.text (l := ⟨_, true, .raw (.int .i64 y5)⟩ :: ⟨_, true, .raw (.int .i64 (y5 + (1 : Int)))⟩ :: ⟨_, true, .raw (.int .i64 (y5 + (1 : Int)))⟩ :: []) (tl := []) (by kernel_rfl) (by kernel_rfl) (by kernel_rfl) ?_ ?_
     ·exact
       Obls.p (fun R' w' hw hs hd => of_move ((hs 4 rfl).trans h4)) <|
       Obls.p (fun R' w' hw hs hd => by have a0 : R' 10 = .int .i64 y5 := hd.g 0 rfl; exact of_add a0 rfl e24) <|
       Obls.p (fun R' w' hw hs hd => by have a0 : R' 11 = .int .i64 (y5 + (1 : Int)) := hd.g 0 rfl; exact of_assign a0) <|
       Obls.nil
     intro R w hw hs hF'
     replace h0 := (hs 0 rfl).trans h0
     replace h3 := (hs 3 rfl).trans h3
     have h4 : R 4 = .int .i64 (y5 + (1 : Int)) := hF' 2 _ _ rfl rfl rfl
     replace f_v0 := f_v0.fr hw
     replace hO := hO.fr hw
     replace hA := hA.fr hw.size
     replace hF := hF.trans hw
     clear hs hF' hw
     refine seqR_nil ?_
     exact Exists.intro k (And.intro (Nat.lt_succ_self k) ⟨_, _, _, ul_u1, hr, hA, hF, hAA, hO, h0, h3, h4, f_v0⟩)
  ·have hr := cnd_f c7 hr
   refine HT.exit ?_
   obtain rfl := Option.some.inj hr
   exact Exists.intro _ ⟨_, ul_u1, rfl, hA, hF, hAA, hO, h3⟩
 rintro R w ⟨A, s4, uo_u1, es, hA, hF, hAA, hO, h3⟩
 obtain rfl := es.symm
 refine HT.seq ?_
 refine HT.text (l := ⟨_, true, .raw uo_u1⟩ :: ⟨_, true, .rep eStr A (strB s4)⟩ :: ⟨_, true, .rep eStr A (strB s4)⟩ :: []) (tl := []) (by kernel_rfl) (by kernel_rfl) (by kernel_rfl) ?_ ?_
 ·exact
   Obls.p (fun R' w' hw hs hd => of_move ((hs 3 rfl).trans h3)) <|
   Obls.p (fun R' w' hw hs hd => by have a0 : R' 37 = uo_u1 := hd.g 0 rfl; have ra0 := (vec_rep ((hO.fr hw).ok 0 _ rfl).1 hAA hA0).eq a0; exact of_conv_bytes ra0 Try.underlying33 Try.underlying5 Try.underlying9) <|
   Obls.p (fun R' w' hw hs hd => by have a0 : Rep eStr A w' (R' 38) (strB s4) := hd.g 0 rfl; exact of_assign a0) <|
   Obls.nil
 intro R w hw hs hF'
 obtain ⟨u25, h2, f_u25⟩ : ∃ u, R 2 = u ∧ Rep eStr A w u (strB s4) := ⟨_, rfl, hF' 2 _ _ rfl rfl rfl⟩
 replace hO := hO.fr hw
 replace hO : IniOK [] A w := hO.sub [] trivial
 replace hA := hA.fr hw.size
 replace hF := hF.trans hw
 clear hs hF' hw
 refine seqR_nil ?_
 refine HT.ret ?_
 obtain rfl := Option.some.inj hr
 exact ⟨.inr rfl, [R 2], ⟨rfl, trivial⟩, (f_u25.eq h2).down hAA, hF⟩
def M_spec_CollapseSpaces_L0 (fu : Nat) (p0 : List UInt8) : Nat → Int → (List Int) → Option (List Int)
 | 0, _, _ => none
 | k + 1, y5, y6 =>
  bif (decide (y5 < (p0.length : Int))) then (
   ck (inR y5 p0.length) <|
   bif ((bAt p0 y5) != (32 : Int)) then (
    ck (!(true && ((decide ((0 : Int) < (y6.length : Int))) == true)) || i64B (y5 - (1 : Int))) <|
    ck (!(true && ((decide ((0 : Int) < (y6.length : Int))) == true)) || inR (y5 - (1 : Int)) p0.length) <|
    bd ((decide ((0 : Int) < (y6.length : Int))) && ((bAt p0 (y5 - (1 : Int))) == (32 : Int))) fun x12 =>
    bif x12 then (
     ck (lenOK (y6.length + ([(32 : Int)] : List Int).length)) <|
     ck (inR y5 p0.length) <|
     ck (lenOK ((y6 ++ ([(32 : Int)] : List Int)).length + ([(bAt p0 y5)] : List Int).length)) <|
     ck (i64B (y5 + (1 : Int))) <|
     M_spec_CollapseSpaces_L0 fu p0 k (y5 + (1 : Int)) ((y6 ++ ([(32 : Int)] : List Int)) ++ ([(bAt p0 y5)] : List Int))
    ) else (
     ck (inR y5 p0.length) <|
     ck (lenOK (y6.length + ([(bAt p0 y5)] : List Int).length)) <|
     ck (i64B (y5 + (1 : Int))) <|
     M_spec_CollapseSpaces_L0 fu p0 k (y5 + (1 : Int)) (y6 ++ ([(bAt p0 y5)] : List Int))
    )
   ) else (
    ck (i64B (y5 + (1 : Int))) <|
    M_spec_CollapseSpaces_L0 fu p0 k (y5 + (1 : Int)) y6
   )
  ) else (
   some y6
  )
def M_spec_CollapseSpaces (fu : Nat) (p0 : List UInt8) : Option (List UInt8) :=
 cl true (M_spec_CollapseSpaces_L0 fu p0 fu (0 : Int) ([] : List Int)) fun s4 =>
 some (strB s4)
theorem M_spec_CollapseSpaces_ok {fu : Nat} {A0 : Av} {p0 : List UInt8} {r : List UInt8} (hr : M_spec_CollapseSpaces fu p0 = some r) {w : World} {v0 : Value} (hA : AvOK A0 w) (h0 : Rep eStr A0 w v0 p0) :
  Calls Try.prog 102 #[v0] w fun e w' => ∃ v, e = .returned v ∧ (Rep eStr A0 w' v r ∧ Fr w w') := by
 unfold M_spec_CollapseSpaces at hr
 obtain ⟨w0, hw0⟩ : ∃ w0, w0 = w := ⟨_, rfl⟩
 have hF : Fr w0 w := hw0 ▸ Fr.refl _
 have hA0 : ∀ b o, A0 b o → b < w0.heap.size := fun b o h => hw0 ▸ hA b o h
 have hA00 : AvOK A0 w0 := hA0
 rw [show Fr w = Fr w0 from hw0 ▸ rfl]
 clear hw0
 obtain ⟨A, hAe⟩ : ∃ A, A = A0 := ⟨_, rfl⟩
 have hAA : ∀ b o, A0 b o → A b o := fun b o h => hAe ▸ h
 replace hA : AvOK A w := hAe ▸ hA
 have hO : IniOK [] A w := IniOK.nil
 refine calls_of_HT2 [.tmp 2] Try.func102 Try.ntmps102 (by decide) rfl rfl (Nat.le_of_ble_eq_true rfl) ?_
 intro R hR
 have f_v0 : Rep eStr A w v0 p0 := hAe ▸ h0
 replace h0 : R 0 = v0 := hR 0 _ rfl
 clear hR hAe
 refine HT.seq ?_
 refine HT.text (l := ⟨_, true, .rep eStr A ([] : List UInt8)⟩ :: []) (tl := []) (by kernel_rfl) (by kernel_rfl) (by kernel_rfl) ?_ ?_
 ·exact
   Obls.p (fun R' w' hw hs hd => of_assign ⟨_, rfl, ⟨_, rfl, rfl, by decide⟩⟩) <|
   Obls.nil
 intro R w hw hs hF'
 replace h0 := (hs 0 rfl).trans h0
 replace f_v0 := f_v0.fr hw
 replace hO := hO.fr hw
 replace hA := hA.fr hw.size
 replace hF := hF.trans hw
 clear hs hF' hw
 refine seqR_nil ?_
 refine HT.seq ?_
 refine HT.textR [] (⟨_, true, [], some (.vec w0.heap.size 5 (eInt .u8) ([] : List Int)), true, fun A => .any⟩ :: ⟨_, true, [0], some (.vec w0.heap.size 5 (eInt .u8) ([] : List Int)), true, fun A => .any⟩ :: []) (by kernel_rfl) (by kernel_rfl) (Wf.mk' (by kernel_rfl) (UAll.cons ust_any (UAll.cons ust_any (UAll.nil))) (by kernel_rfl) (by kernel_rfl)) hO hA ?_ ?_
 ·exact
   OblsR.cons (OblR.made _ rfl rfl rfl rfl fun A' R' w' ho hd => by exact made_build [] (E := eInt .u8) trivial Try.underlying33 Try.sizeOf5 Try.zeroValue5 rfl rfl rfl (Nat.le_trans hF.size ho.ch.size)) <|
   OblsR.cons (OblR.took 0 _ _ rfl rfl rfl rfl rfl fun A' R' w' ho hd u hok hav hin hop hds => by exact took_assign (hop _ _ rfl rfl rfl rfl).symm hok hav) <|
   OblsR.nil
 intro done ρ σ A R w hdn hI
 replace h0 : R 0 = v0 := (hI.reg rfl).trans h0
 obtain ⟨u1, e_u1⟩ : ∃ u, ρ 1 = u := ⟨_, rfl⟩
 have h3 : R 3 = u1 := (hI.opvR hdn 1 1 rfl rfl rfl rfl rfl).symm.trans e_u1
 replace f_v0 := f_v0.stp hI.stp
 replace hAA := hI.low' hAA hA0 (hO.ge (trivial))
 replace hF : Fr w0 w := hF.tr hI.ch (hO.ge (trivial))
 replace hO : IniOK [ob u1 (.vec w0.heap.size 5 (eInt .u8) ([] : List Int))] A w := hI.left hdn [(1, ob u1 (.vec w0.heap.size 5 (eInt .u8) ([] : List Int)))] ⟨rfl, rfl, e_u1, rfl, rfl, trivial⟩
 replace hA := hI.avok
 clear hI
 refine HT.seq ?_
 refine HT.seq ?_
 refine HT.text (l := ⟨_, true, .raw (.int .i64 (0 : Int))⟩ :: []) (tl := []) (by kernel_rfl) (by kernel_rfl) (by kernel_rfl) ?_ ?_
 ·exact
   Obls.p (fun R' w' hw hs hd => of_assign rfl) <|
   Obls.nil
 intro R w hw hs hF'
 replace h0 := (hs 0 rfl).trans h0
 replace h3 := (hs 3 rfl).trans h3
 have h4 : R 4 = .int .i64 (0 : Int) := hF' 0 _ _ rfl rfl rfl
 replace f_v0 := f_v0.fr hw
 replace hO := hO.fr hw
 replace hA := hA.fr hw.size
 replace hF := hF.trans hw
 clear hs hF' hw
 refine seqR_nil ?_
 obtain ⟨rl2, q3, hr⟩ := cl_some hr
 replace q3 := q3 rfl
 refine HT.cut0 (fun R w => ∃ A : Av, ∃ (s4 : (List Int)) (uo_u1 : Value), rl2 = s4 ∧ AvOK A w ∧ Fr w0 w ∧ (∀ b o, A0 b o → A b o) ∧ IniOK [ob uo_u1 (.vec w0.heap.size 5 (eInt .u8) s4)] A w ∧ R 3 = uo_u1) ?_ ?_
 ·refine HT.block ?_
  refine HT.loop (fun k R w => ∃ A : Av, ∃ (y5 : Int) (y6 : List Int) (ul_u1 : Value), M_spec_CollapseSpaces_L0 fu p0 k y5 y6 = some rl2 ∧ AvOK A w ∧ Fr w0 w ∧ (∀ b o, A0 b o → A b o) ∧ IniOK [ob ul_u1 (.vec w0.heap.size 5 (eInt .u8) y6)] A w ∧ R 0 = v0 ∧ R 3 = ul_u1 ∧ R 4 = .int .i64 y5 ∧ Rep eStr A w v0 p0) fu ⟨_, _, _, u1, q3, hA, hF, hAA, hO, h0, h3, h4, f_v0⟩ ?_
  have hr0 := hr; clear hr q3
  rintro k R w ⟨A, y5, y6, ul_u1, hr, hA, hF, hAA, hO, h0, h3, h4, f_v0⟩
  rcases k with _ | k
  ·cases (show none = some _ from hr)
  rw [M_spec_CollapseSpaces_L0] at hr
  refine HT.seq ?_
  refine HT.seq ?_
  refine HT.text (l := ⟨_, true, .raw (.int .i64 y5)⟩ :: ⟨_, true, .raw v0⟩ :: ⟨_, true, .raw (.int .i64 (p0.length : Int))⟩ :: ⟨_, true, .raw (.bool (decide (y5 < (p0.length : Int))))⟩ :: []) (tl := []) (by kernel_rfl) (by kernel_rfl) (by kernel_rfl) ?_ ?_
  ·exact
    Obls.p (fun R' w' hw hs hd => of_move ((hs 4 rfl).trans h4)) <|
    Obls.p (fun R' w' hw hs hd => of_move ((hs 0 rfl).trans h0)) <|
    Obls.p (fun R' w' hw hs hd => by have a0 : R' 7 = v0 := hd.g 0 rfl; have ra0 := (f_v0.fr hw).eq a0; exact of_len_str ra0 Try.underlying9) <|
    Obls.p (fun R' w' hw hs hd => by have a0 : R' 6 = .int .i64 y5 := hd.g 0 rfl; have a1 : R' 8 = .int .i64 (p0.length : Int) := hd.g 1 rfl; exact of_lss a0 a1) <|
    Obls.nil
  intro R w hw hs hF'
  replace h0 := (hs 0 rfl).trans h0
  replace h3 := (hs 3 rfl).trans h3
  replace h4 := (hs 4 rfl).trans h4
  have h9 : R 9 = .bool (decide (y5 < (p0.length : Int))) := hF' 3 _ _ rfl rfl rfl
  replace f_v0 := f_v0.fr hw
  replace hO := hO.fr hw
  replace hA := hA.fr hw.size
  replace hF := hF.trans hw
  clear hs hF' hw
  refine seqR_nil ?_
  refine HT.cond (decide (y5 < (p0.length : Int))) h9 (fun c7 => ?_) (fun c7 => ?_)
  ·have hr := cnd_t c7 hr
   refine HT.skip ?_
   refine HT.seq ?_
   refine HT.block ?_
   refine HT.seq ?_
   obtain ⟨e8, hr⟩ := ck_some hr
   refine HT.text (l := ⟨_, true, .raw v0⟩ :: ⟨_, true, .raw (.int .i64 y5)⟩ :: ⟨_, true, .raw (.int .u8 (bAt p0 y5))⟩ :: ⟨_, true, .raw (.bool ((bAt p0 y5) != (32 : Int)))⟩ :: []) (tl := []) (by kernel_rfl) (by kernel_rfl) (by kernel_rfl) ?_ ?_
   ·exact
     Obls.p (fun R' w' hw hs hd => of_move ((hs 0 rfl).trans h0)) <|
     Obls.p (fun R' w' hw hs hd => of_move ((hs 4 rfl).trans h4)) <|
     Obls.p (fun R' w' hw hs hd => by have a0 : R' 12 = v0 := hd.g 0 rfl; have ra0 := (f_v0.fr hw).eq a0; have a1 : R' 13 = .int .i64 y5 := hd.g 1 rfl; exact of_strIndex ra0 a1 Try.underlying9 e8) <|
     Obls.p (fun R' w' hw hs hd => by have a0 : R' 14 = .int .u8 (bAt p0 y5) := hd.g 0 rfl; exact of_neq a0 rfl) <|
     Obls.nil
   intro R w hw hs hF'
   replace h0 := (hs 0 rfl).trans h0
   replace h3 := (hs 3 rfl).trans h3
   replace h4 := (hs 4 rfl).trans h4
   have h15 : R 15 = .bool ((bAt p0 y5) != (32 : Int)) := hF' 3 _ _ rfl rfl rfl
   replace f_v0 := f_v0.fr hw
   replace hO := hO.fr hw
   replace hA := hA.fr hw.size
   replace hF := hF.trans hw
   clear hs hF' hw
   refine seqR_nil ?_
   refine HT.cond ((bAt p0 y5) != (32 : Int)) h15 (fun c9 => ?_) (fun c9 => ?_)
   ·have hr := cnd_t c9 hr
    refine HT.seq ?_
    refine HT.seq ?_
    obtain ⟨e10, hr⟩ := ck_some hr
    obtain ⟨e11, hr⟩ := ck_some hr
    obtain ⟨x12, q13, hr⟩ := bd_some hr
    refine HT.text (l := ⟨_, true, .raw ul_u1⟩ :: ⟨_, true, .raw (.int .i64 (y6.length : Int))⟩ :: ⟨_, true, .raw (.bool (decide ((0 : Int) < (y6.length : Int))))⟩ :: ⟨_, true, .raw (.bool (decide ((0 : Int) < (y6.length : Int))))⟩ :: ⟨_, (true && ((decide ((0 : Int) < (y6.length : Int))) == true)), .raw v0⟩ :: ⟨_, (true && ((decide ((0 : Int) < (y6.length : Int))) == true)), .raw (.int .i64 y5)⟩ :: ⟨_, (true && ((decide ((0 : Int) < (y6.length : Int))) == true)), .raw (.int .i64 (y5 - (1 : Int)))⟩ :: ⟨_, (true && ((decide ((0 : Int) < (y6.length : Int))) == true)), .raw (.int .u8 (bAt p0 (y5 - (1 : Int))))⟩ :: ⟨_, (true && ((decide ((0 : Int) < (y6.length : Int))) == true)), .raw (.bool ((bAt p0 (y5 - (1 : Int))) == (32 : Int)))⟩ :: ⟨_, true, .raw (.bool x12)⟩ :: []) (tl := []) (by kernel_rfl) (by kernel_rfl) (by kernel_rfl) ?_ ?_
    ·exact
      Obls.p (fun R' w' hw hs hd => of_move ((hs 3 rfl).trans h3)) <|
      Obls.p (fun R' w' hw hs hd => by have a0 : R' 16 = ul_u1 := hd.g 0 rfl; exact of_len_vec (hO.ok 0 _ rfl).1 a0 Try.underlying33) <|
      Obls.p (fun R' w' hw hs hd => by have a0 : R' 17 = .int .i64 (y6.length : Int) := hd.g 0 rfl; exact of_gtr a0 rfl) <|
      Obls.p (fun R' w' hw hs hd => by have a0 : R' 18 = .bool (decide ((0 : Int) < (y6.length : Int))) := hd.g 0 rfl; exact of_move a0) <|
      Obls.cons (Obl.grd 3 true _ _ _ rfl rfl rfl rfl rfl (by kernel_rfl) fun hg R' w' hw hs hd => by have a0 : R' 0 = v0 := (hs 0 rfl).trans h0; exact of_move a0) <|
      Obls.cons (Obl.grd 3 true _ _ _ rfl rfl rfl rfl rfl (by kernel_rfl) fun hg R' w' hw hs hd => by have a0 : R' 4 = .int .i64 y5 := (hs 4 rfl).trans h4; exact of_move a0) <|
      Obls.cons (Obl.grd 3 true _ _ _ rfl rfl rfl rfl rfl (by kernel_rfl) fun hg R' w' hw hs hd => by have a0 : R' 21 = .int .i64 y5 := hd 0 _ _ _ rfl rfl rfl rfl hg; exact of_sub a0 rfl (gd e10 hg)) <|
      Obls.cons (Obl.grd 3 true _ _ _ rfl rfl rfl rfl rfl (by kernel_rfl) fun hg R' w' hw hs hd => by have a0 : R' 20 = v0 := hd 0 _ _ _ rfl rfl rfl rfl hg; have ra0 := (f_v0.fr hw).eq a0; have a1 : R' 22 = .int .i64 (y5 - (1 : Int)) := hd 1 _ _ _ rfl rfl rfl rfl hg; exact of_strIndex ra0 a1 Try.underlying9 (gd e11 hg)) <|
      Obls.cons (Obl.grd 3 true _ _ _ rfl rfl rfl rfl rfl (by kernel_rfl) fun hg R' w' hw hs hd => by have a0 : R' 23 = .int .u8 (bAt p0 (y5 - (1 : Int))) := hd 0 _ _ _ rfl rfl rfl rfl hg; exact of_eql a0 rfl) <|
      Obls.p (fun R' w' hw hs hd => by have a0 : R' 19 = .bool (decide ((0 : Int) < (y6.length : Int))) := hd.g 0 rfl; exact of_pick (decide ((0 : Int) < (y6.length : Int))) a0 (fun hc => by have a1 : R' 24 = .bool ((bAt p0 (y5 - (1 : Int))) == (32 : Int)) := hd 1 _ _ _ rfl rfl rfl rfl (g_and rfl (beq_of hc)); show _ = Value.bool x12; rw [q13, hc]; exact a1) (fun hc => by show _ = Value.bool x12; rw [q13, hc]; exact rfl)) <|
      Obls.nil
    intro R w hw hs hF'
    replace h0 := (hs 0 rfl).trans h0
    replace h3 := (hs 3 rfl).trans h3
    replace h4 := (hs 4 rfl).trans h4
    have h25 : R 25 = .bool x12 := hF' 9 _ _ rfl rfl rfl
    replace f_v0 := f_v0.fr hw
    replace hO := hO.fr hw
    replace hA := hA.fr hw.size
    replace hF := hF.trans hw
    clear hs hF' hw
    refine seqR_nil ?_
    refine HT.cond x12 h25 (fun c14 => ?_) (fun c14 => ?_)
    ·have hr := cnd_t c14 hr
     obtain ⟨e15, hr⟩ := ck_some hr
     refine HT.textR [ob ul_u1 (.vec w0.heap.size 5 (eInt .u8) y6)] (⟨_, true, [], none, true, fun A => .raw ul_u1⟩ :: ⟨_, true, [], none, true, fun A => .rep (eSl (eInt .u8)) A ([(32 : Int)] : List Int)⟩ :: ⟨_, true, [0], some (.vec w0.heap.size 5 (eInt .u8) (y6 ++ ([(32 : Int)] : List Int))), true, fun A => .any⟩ :: ⟨_, true, [3], some (.vec w0.heap.size 5 (eInt .u8) (y6 ++ ([(32 : Int)] : List Int))), true, fun A => .any⟩ :: []) (by kernel_rfl) (by kernel_rfl) (Wf.mk' (by kernel_rfl) (UAll.cons ust_raw (UAll.cons ust_rep (UAll.cons ust_any (UAll.cons ust_any (UAll.nil))))) (by kernel_rfl) (by kernel_rfl)) hO hA ?_ ?_
     ·exact
       OblsR.p (fun A' R' w' ho hd => of_move ((ho.old 3 rfl).trans h3)) <|
       OblsR.p (fun A' R' w' ho hd => of_build [_] (E := eInt .u8) ⟨(rep_int.eq rfl), trivial⟩ Try.underlying33 Try.sizeOf5 Try.zeroValue5 rfl rfl rfl ho.av) <|
       OblsR.cons (OblR.took 0 _ _ rfl rfl rfl rfl rfl fun A' R' w' ho hd u hok hav hin hop hds => by have a0 : R' 26 = ul_u1 := hd.g 0 rfl; have a1 : Rep (eSl (eInt .u8)) A' w' (R' 27) ([(32 : Int)] : List Int) := hd.g 1 rfl; exact took_append (a0.trans (hin _ rfl).symm) hok hav (Nat.le_trans hF.size ho.ch.size) a1 Try.underlying33 el_5 e15) <|
       OblsR.cons (OblR.took 3 _ _ rfl rfl rfl rfl rfl fun A' R' w' ho hd u hok hav hin hop hds => by exact took_assign (hop _ _ rfl rfl rfl rfl).symm hok hav) <|
       OblsR.nil
     intro done ρ σ A R w hdn hI
     replace h0 : R 0 = v0 := (hI.reg rfl).trans h0
     replace h4 : R 4 = .int .i64 y5 := (hI.reg rfl).trans h4
     obtain ⟨u16, e_u16⟩ : ∃ u, ρ 4 = u := ⟨_, rfl⟩
     have h3 : R 3 = u16 := (hI.opvR hdn 4 3 rfl rfl rfl rfl rfl).symm.trans e_u16
     replace f_v0 := f_v0.stp hI.stp
     replace hAA := hI.low' hAA hA0 (hO.ge (⟨rfl, trivial⟩))
     replace hF : Fr w0 w := hF.tr hI.ch (hO.ge (⟨rfl, trivial⟩))
     replace hO : IniOK [ob u16 (.vec w0.heap.size 5 (eInt .u8) (y6 ++ ([(32 : Int)] : List Int)))] A w := hI.left hdn [(4, ob u16 (.vec w0.heap.size 5 (eInt .u8) (y6 ++ ([(32 : Int)] : List Int))))] ⟨rfl, rfl, e_u16, rfl, rfl, trivial⟩
     replace hA := hI.avok
     clear hI
     obtain ⟨e17, hr⟩ := ck_some hr
     obtain ⟨e18, hr⟩ := ck_some hr
     refine HT.textR [ob u16 (.vec w0.heap.size 5 (eInt .u8) (y6 ++ ([(32 : Int)] : List Int)))] (⟨_, true, [], none, true, fun A => .raw u16⟩ :: ⟨_, true, [], none, true, fun A => .raw v0⟩ :: ⟨_, true, [], none, true, fun A => .raw (.int .i64 y5)⟩ :: ⟨_, true, [], none, true, fun A => .raw (.int .u8 (bAt p0 y5))⟩ :: ⟨_, true, [], none, true, fun A => .rep (eSl (eInt .u8)) A ([(bAt p0 y5)] : List Int)⟩ :: ⟨_, true, [0], some (.vec w0.heap.size 5 (eInt .u8) ((y6 ++ ([(32 : Int)] : List Int)) ++ ([(bAt p0 y5)] : List Int))), true, fun A => .any⟩ :: ⟨_, true, [6], some (.vec w0.heap.size 5 (eInt .u8) ((y6 ++ ([(32 : Int)] : List Int)) ++ ([(bAt p0 y5)] : List Int))), true, fun A => .any⟩ :: []) (by kernel_rfl) (by kernel_rfl) (Wf.mk' (by kernel_rfl) (UAll.cons ust_raw (UAll.cons ust_raw (UAll.cons ust_raw (UAll.cons ust_raw (UAll.cons ust_rep (UAll.cons ust_any (UAll.cons ust_any (UAll.nil)))))))) (by kernel_rfl) (by kernel_rfl)) hO hA ?_ ?_
     ·exact
       OblsR.p (fun A' R' w' ho hd => of_move ((ho.old 3 rfl).trans h3)) <|
       OblsR.p (fun A' R' w' ho hd => of_move ((ho.old 0 rfl).trans h0)) <|
       OblsR.p (fun A' R' w' ho hd => of_move ((ho.old 4 rfl).trans h4)) <|
       OblsR.p (fun A' R' w' ho hd => by have a0 : R' 30 = v0 := hd.g 0 rfl; have ra0 := (f_v0.stp ho.stp).eq a0; have a1 : R' 31 = .int .i64 y5 := hd.g 1 rfl; exact of_strIndex ra0 a1 Try.underlying9 e17) <|
       OblsR.p (fun A' R' w' ho hd => by have a0 : R' 32 = .int .u8 (bAt p0 y5) := hd.g 0 rfl; exact of_build [_] (E := eInt .u8) ⟨(rep_int.eq a0), trivial⟩ Try.underlying33 Try.sizeOf5 Try.zeroValue5 rfl rfl rfl ho.av) <|
       OblsR.cons (OblR.took 0 _ _ rfl rfl rfl rfl rfl fun A' R' w' ho hd u hok hav hin hop hds => by have a0 : R' 29 = u16 := hd.g 0 rfl; have a1 : Rep (eSl (eInt .u8)) A' w' (R' 33) ([(bAt p0 y5)] : List Int) := hd.g 1 rfl; exact took_append (a0.trans (hin _ rfl).symm) hok hav (Nat.le_trans hF.size ho.ch.size) a1 Try.underlying33 el_5 e18) <|
       OblsR.cons (OblR.took 6 _ _ rfl rfl rfl rfl rfl fun A' R' w' ho hd u hok hav hin hop hds => by exact took_assign (hop _ _ rfl rfl rfl rfl).symm hok hav) <|
       OblsR.nil
     intro done ρ σ A R w hdn hI
     replace h0 : R 0 = v0 := (hI.reg rfl).trans h0
     replace h4 : R 4 = .int .i64 y5 := (hI.reg rfl).trans h4
     obtain ⟨u19, e_u19⟩ : ∃ u, ρ 7 = u := ⟨_, rfl⟩
     have h3 : R 3 = u19 := (hI.opvR hdn 7 6 rfl rfl rfl rfl rfl).symm.trans e_u19
     replace f_v0 := f_v0.stp hI.stp
     replace hAA := hI.low' hAA hA0 (hO.ge (⟨rfl, trivial⟩))
     replace hF : Fr w0 w := hF.tr hI.ch (hO.ge (⟨rfl, trivial⟩))
     replace hO : IniOK [ob u19 (.vec w0.heap.size 5 (eInt .u8) ((y6 ++ ([(32 : Int)] : List Int)) ++ ([(bAt p0 y5)] : List Int)))] A w := hI.left hdn [(7, ob u19 (.vec w0.heap.size 5 (eInt .u8) ((y6 ++ ([(32 : Int)] : List Int)) ++ ([(bAt p0 y5)] : List Int))))] ⟨rfl, rfl, e_u19, rfl, rfl, trivial⟩
     replace hA := hI.avok
     clear hI
     obtain ⟨e20, hr⟩ := ck_some hr
     refine HT.text (l := ⟨_, true, .raw (.int .i64 y5)⟩ :: ⟨_, true, .raw (.int .i64 (y5 + (1 : Int)))⟩ :: ⟨_, true, .raw (.int .i64 (y5 + (1 : Int)))⟩ :: []) (tl := []) (by kernel_rfl) (by kernel_rfl) (by kernel_rfl) ?_ ?_
     ·exact
       Obls.p (fun R' w' hw hs hd => of_move ((hs 4 rfl).trans h4)) <|
       Obls.p (fun R' w' hw hs hd => by have a0 : R' 10 = .int .i64 y5 := hd.g 0 rfl; exact of_add a0 rfl e20) <|
       Obls.p (fun R' w' hw hs hd => by have a0 : R' 11 = .int .i64 (y5 + (1 : Int)) := hd.g 0 rfl; exact of_assign a0) <|
       Obls.nil
     intro R w hw hs hF'
     replace h0 := (hs 0 rfl).trans h0
     replace h3 := (hs 3 rfl).trans h3
     have h4 : R 4 = .int .i64 (y5 + (1 : Int)) := hF' 2 _ _ rfl rfl rfl
     replace f_v0 := f_v0.fr hw
     replace hO := hO.fr hw
     replace hA := hA.fr hw.size
     replace hF := hF.trans hw
     clear hs hF' hw
     refine seqR_nil ?_
     exact Exists.intro k (And.intro (Nat.lt_succ_self k) ⟨_, _, _, u19, hr, hA, hF, hAA, hO, h0, h3, h4, f_v0⟩)
    ·have hr := cnd_f c14 hr
     refine HT.skip ?_
     obtain ⟨e21, hr⟩ := ck_some hr
     obtain ⟨e22, hr⟩ := ck_some hr
     refine HT.textR [ob ul_u1 (.vec w0.heap.size 5 (eInt .u8) y6)] (⟨_, true, [], none, true, fun A => .raw ul_u1⟩ :: ⟨_, true, [], none, true, fun A => .raw v0⟩ :: ⟨_, true, [], none, true, fun A => .raw (.int .i64 y5)⟩ :: ⟨_, true, [], none, true, fun A => .raw (.int .u8 (bAt p0 y5))⟩ :: ⟨_, true, [], none, true, fun A => .rep (eSl (eInt .u8)) A ([(bAt p0 y5)] : List Int)⟩ :: ⟨_, true, [0], some (.vec w0.heap.size 5 (eInt .u8) (y6 ++ ([(bAt p0 y5)] : List Int))), true, fun A => .any⟩ :: ⟨_, true, [6], some (.vec w0.heap.size 5 (eInt .u8) (y6 ++ ([(bAt p0 y5)] : List Int))), true, fun A => .any⟩ :: []) (by kernel_rfl) (by kernel_rfl) (Wf.mk' (by kernel_rfl) (UAll.cons ust_raw (UAll.cons ust_raw (UAll.cons ust_raw (UAll.cons ust_raw (UAll.cons ust_rep (UAll.cons ust_any (UAll.cons ust_any (UAll.nil)))))))) (by kernel_rfl) (by kernel_rfl)) hO hA ?_ ?_
     ·exact
       OblsR.p (fun A' R' w' ho hd => of_move ((ho.old 3 rfl).trans h3)) <|
       OblsR.p (fun A' R' w' ho hd => of_move ((ho.old 0 rfl).trans h0)) <|
       OblsR.p (fun A' R' w' ho hd => of_move ((ho.old 4 rfl).trans h4)) <|
       OblsR.p (fun A' R' w' ho hd => by have a0 : R' 30 = v0 := hd.g 0 rfl; have ra0 := (f_v0.stp ho.stp).eq a0; have a1 : R' 31 = .int .i64 y5 := hd.g 1 rfl; exact of_strIndex ra0 a1 Try.underlying9 e21) <|
       OblsR.p (fun A' R' w' ho hd => by have a0 : R' 32 = .int .u8 (bAt p0 y5) := hd.g 0 rfl; exact of_build [_] (E := eInt .u8) ⟨(rep_int.eq a0), trivial⟩ Try.underlying33 Try.sizeOf5 Try.zeroValue5 rfl rfl rfl ho.av) <|
       OblsR.cons (OblR.took 0 _ _ rfl rfl rfl rfl rfl fun A' R' w' ho hd u hok hav hin hop hds => by have a0 : R' 29 = ul_u1 := hd.g 0 rfl; have a1 : Rep (eSl (eInt .u8)) A' w' (R' 33) ([(bAt p0 y5)] : List Int) := hd.g 1 rfl; exact took_append (a0.trans (hin _ rfl).symm) hok hav (Nat.le_trans hF.size ho.ch.size) a1 Try.underlying33 el_5 e22) <|
       OblsR.cons (OblR.took 6 _ _ rfl rfl rfl rfl rfl fun A' R' w' ho hd u hok hav hin hop hds => by exact took_assign (hop _ _ rfl rfl rfl rfl).symm hok hav) <|
       OblsR.nil
     intro done ρ σ A R w hdn hI
     replace h0 : R 0 = v0 := (hI.reg rfl).trans h0
     replace h4 : R 4 = .int .i64 y5 := (hI.reg rfl).trans h4
     obtain ⟨u23, e_u23⟩ : ∃ u, ρ 7 = u := ⟨_, rfl⟩
     have h3 : R 3 = u23 := (hI.opvR hdn 7 6 rfl rfl rfl rfl rfl).symm.trans e_u23
     replace f_v0 := f_v0.stp hI.stp
     replace hAA := hI.low' hAA hA0 (hO.ge (⟨rfl, trivial⟩))
     replace hF : Fr w0 w := hF.tr hI.ch (hO.ge (⟨rfl, trivial⟩))
     replace hO : IniOK [ob u23 (.vec w0.heap.size 5 (eInt .u8) (y6 ++ ([(bAt p0 y5)] : List Int)))] A w := hI.left hdn [(7, ob u23 (.vec w0.heap.size 5 (eInt .u8) (y6 ++ ([(bAt p0 y5)] : List Int))))] ⟨rfl, rfl, e_u23, rfl, rfl, trivial⟩
     replace hA := hI.avok
     clear hI
     obtain ⟨e24, hr⟩ := ck_some hr
     refine HT.text (l := ⟨_, true, .raw (.int .i64 y5)⟩ :: ⟨_, true, .raw (.int .i64 (y5 + (1 : Int)))⟩ :: ⟨_, true, .raw (.int .i64 (y5 + (1 : Int)))⟩ :: []) (tl := []) (by kernel_rfl) (by kernel_rfl) (by kernel_rfl) ?_ ?_
     ·exact
       Obls.p (fun R' w' hw hs hd => of_move ((hs 4 rfl).trans h4)) <|
       Obls.p (fun R' w' hw hs hd => by have a0 : R' 10 = .int .i64 y5 := hd.g 0 rfl; exact of_add a0 rfl e24) <|
       Obls.p (fun R' w' hw hs hd => by have a0 : R' 11 = .int .i64 (y5 + (1 : Int)) := hd.g 0 rfl; exact of_assign a0) <|
       Obls.nil
     intro R w hw hs hF'
     replace h0 := (hs 0 rfl).trans h0
     replace h3 := (hs 3 rfl).trans h3
     have h4 : R 4 = .int .i64 (y5 + (1 : Int)) := hF' 2 _ _ rfl rfl rfl
     replace f_v0 := f_v0.fr hw
     replace hO := hO.fr hw
     replace hA := hA.fr hw.size
     replace hF := hF.trans hw
     clear hs hF' hw
     refine seqR_nil ?_
     exact Exists.intro k (And.intro (Nat.lt_succ_self k) ⟨_, _, _, u23, hr, hA, hF, hAA, hO, h0, h3, h4, f_v0⟩)
   ·have hr := cnd_f c9 hr
    refine HT.skip ?_
    obtain ⟨e25, hr⟩ := ck_some hr
    refine HT.text (l := ⟨_, true, .raw (.int .i64 y5)⟩ :: ⟨_, true, .raw (.int .i64 (y5 + (1 : Int)))⟩ :: ⟨_, true, .raw (.int .i64 (y5 + (1 : Int)))⟩ :: []) (tl := []) (by kernel_rfl) (by kernel_rfl) (by kernel_rfl) ?_ ?_
    ·exact
      Obls.p (fun R' w' hw hs hd => of_move ((hs 4 rfl).trans h4)) <|
      Obls.p (fun R' w' hw hs hd => by have a0 : R' 10 = .int .i64 y5 := hd.g 0 rfl; exact of_add a0 rfl e25) <|
      Obls.p (fun R' w' hw hs hd => by have a0 : R' 11 = .int .i64 (y5 + (1 : Int)) := hd.g 0 rfl; exact of_assign a0) <|
      Obls.nil
    intro R w hw hs hF'
    replace h0 := (hs 0 rfl).trans h0
    replace h3 := (hs 3 rfl).trans h3
    have h4 : R 4 = .int .i64 (y5 + (1 : Int)) := hF' 2 _ _ rfl rfl rfl
    replace f_v0 := f_v0.fr hw
    replace hO := hO.fr hw
    replace hA := hA.fr hw.size
    replace hF := hF.trans hw
    clear hs hF' hw
    refine seqR_nil ?_
    exact Exists.intro k (And.intro (Nat.lt_succ_self k) ⟨_, _, _, ul_u1, hr, hA, hF, hAA, hO, h0, h3, h4, f_v0⟩)
  ·have hr := cnd_f c7 hr
   refine HT.exit ?_
   obtain rfl := Option.some.inj hr
   exact Exists.intro _ ⟨_, ul_u1, rfl, hA, hF, hAA, hO, h3⟩
 rintro R w ⟨A, s4, uo_u1, es, hA, hF, hAA, hO, h3⟩
 obtain rfl := es.symm
 refine HT.seq ?_
 refine HT.text (l := ⟨_, true, .raw uo_u1⟩ :: ⟨_, true, .rep eStr A (strB s4)⟩ :: ⟨_, true, .rep eStr A (strB s4)⟩ :: []) (tl := []) (by kernel_rfl) (by kernel_rfl) (by kernel_rfl) ?_ ?_
 ·exact
   Obls.p (fun R' w' hw hs hd => of_move ((hs 3 rfl).trans h3)) <|
   Obls.p (fun R' w' hw hs hd => by have a0 : R' 35 = uo_u1 := hd.g 0 rfl; have ra0 := (vec_rep ((hO.fr hw).ok 0 _ rfl).1 hAA hA0).eq a0; exact of_conv_bytes ra0 Try.underlying33 Try.underlying5 Try.underlying9) <|
   Obls.p (fun R' w' hw hs hd => by have a0 : Rep eStr A w' (R' 36) (strB s4) := hd.g 0 rfl; exact of_assign a0) <|
   Obls.nil
 intro R w hw hs hF'
 obtain ⟨u26, h2, f_u26⟩ : ∃ u, R 2 = u ∧ Rep eStr A w u (strB s4) := ⟨_, rfl, hF' 2 _ _ rfl rfl rfl⟩
 replace hO := hO.fr hw
 replace hO : IniOK [] A w := hO.sub [] trivial
 replace hA := hA.fr hw.size
 replace hF := hF.trans hw
 clear hs hF' hw
 refine seqR_nil ?_
 refine HT.ret ?_
 obtain rfl := Option.some.inj hr
 exact ⟨.inr rfl, [R 2], ⟨rfl, trivial⟩, (f_u26.eq h2).down hAA, hF⟩
def M_spec_Normalize (fu : Nat) (p0 : List UInt8) : Option (List UInt8) :=
 cl true (M_spec_FoldCase fu p0) fun x1 =>
 cl true (M_spec_StripMarks fu x1) fun x3 =>
 cl true (M_spec_CollapseSpaces fu x3) fun x5 =>
 some x5
theorem M_spec_Normalize_ok {fu : Nat} {A : Av} {p0 : List UInt8} {r : List UInt8} (hr : M_spec_Normalize fu p0 = some r) {w : World} {v0 : Value} (hA : AvOK A w) (h0 : Rep eStr A w v0 p0) :
  Calls Try.prog 67 #[v0] w fun e w' => ∃ v, e = .returned v ∧ (Rep eStr A w' v r ∧ Fr w w') := by
 unfold M_spec_Normalize at hr
 obtain ⟨w0, hw0⟩ : ∃ w0, w0 = w := ⟨_, rfl⟩
 have hF : Fr w0 w := hw0 ▸ Fr.refl _
 rw [show Fr w = Fr w0 from hw0 ▸ rfl]
 clear hw0
 refine calls_of_HT2 [.tmp 2] Try.func67 Try.ntmps67 (by decide) rfl rfl (Nat.le_of_ble_eq_true rfl) ?_
 intro R hR
 have f_v0 := h0
 replace h0 : R 0 = v0 := hR 0 _ rfl
 clear hR
 refine HT.seq ?_
 refine HT.text (l := ⟨_, true, .rep eStr A ([] : List UInt8)⟩ :: []) (tl := []) (by kernel_rfl) (by kernel_rfl) (by kernel_rfl) ?_ ?_
 ·exact
   Obls.p (fun R' w' hw hs hd => of_assign ⟨_, rfl, ⟨_, rfl, rfl, by decide⟩⟩) <|
   Obls.nil
 intro R w hw hs hF'
 replace h0 := (hs 0 rfl).trans h0
 replace f_v0 := f_v0.fr hw
 replace hA := hA.fr hw.size
 replace hF := hF.trans hw
 clear hs hF' hw
 refine seqR_nil ?_
 refine HT.seq ?_
 obtain ⟨x1, q2, hr⟩ := cl_some hr
 obtain ⟨x3, q4, hr⟩ := cl_some hr
 obtain ⟨x5, q6, hr⟩ := cl_some hr
 refine HT.text (l := ⟨_, true, .raw v0⟩ :: ⟨_, true, .rep eStr A x1⟩ :: ⟨_, true, .rep eStr A x3⟩ :: ⟨_, true, .rep eStr A x5⟩ :: ⟨_, true, .rep eStr A x5⟩ :: []) (tl := []) (by kernel_rfl) (by kernel_rfl) (by kernel_rfl) ?_ ?_
 ·exact
   Obls.p (fun R' w' hw hs hd => of_move ((hs 0 rfl).trans h0)) <|
   Obls.p (fun R' w' hw hs hd => by have a0 : R' 3 = v0 := hd.g 0 rfl; have ra0 := (f_v0.fr hw).eq a0; exact of_call Try.call104 (M_spec_FoldCase_ok (q2 rfl) (hA.fr hw.size) ra0)) <|
   Obls.p (fun R' w' hw hs hd => by have a0 : Rep eStr A w' (R' 4) x1 := hd.g 0 rfl; exact of_call Try.call103 (M_spec_StripMarks_ok (q4 rfl) (hA.fr hw.size) a0)) <|
   Obls.p (fun R' w' hw hs hd => by have a0 : Rep eStr A w' (R' 5) x3 := hd.g 0 rfl; exact of_call Try.call102 (M_spec_CollapseSpaces_ok (q6 rfl) (hA.fr hw.size) a0)) <|
   Obls.p (fun R' w' hw hs hd => by have a0 : Rep eStr A w' (R' 6) x5 := hd.g 0 rfl; exact of_assign a0) <|
   Obls.nil
 intro R w hw hs hF'
 obtain ⟨u7, h2, f_u7⟩ : ∃ u, R 2 = u ∧ Rep eStr A w u x5 := ⟨_, rfl, hF' 4 _ _ rfl rfl rfl⟩
 replace hA := hA.fr hw.size
 replace hF := hF.trans hw
 clear hs hF' hw
 refine seqR_nil ?_
 refine HT.ret ?_
 obtain rfl := Option.some.inj hr
 exact ⟨.inr rfl, [R 2], ⟨rfl, trivial⟩, (f_u7.eq h2), hF⟩
def M_spec_l4Two (fu : Nat) (p0 : T_spec_l1Cur) : Option ((List UInt8) × (List UInt8) × T_spec_l1Cur) :=
 cl true (M_spec_l2Text fu p0) fun x2 =>
 cl true (M_spec_l1Below fu x2.2 (4 : Int)) fun x7 =>
 bif (x7.1 == (0 : Int)) then (
  cl true (M_spec_l2Text fu x7.2) fun x11 =>
  some (x2.1, x11.1, x11.2)
 ) else (
  bif (x7.1 == (1 : Int)) then (
   some (x2.1, x2.1, x7.2)
  ) else (
   cl true (M_spec_Normalize fu x2.1) fun x16 =>
   cl true (M_spec_l1Spoil fu x7.2 x2.1) fun x20 =>
   cl true (M_spec_Normalize fu x20.1) fun x23 =>
   some (x16, x23, x20.2)
  )
 )
theorem M_spec_l4Two_ok {fu : Nat} {Aq : Av} {p0 : T_spec_l1Cur} {r : (List UInt8) × (List UInt8) × T_spec_l1Cur} (hr : M_spec_l4Two fu p0 = some r) {w : World} {v0 : Value} {b0 B0 : Nat} (hA : AvOK Aq w) (h0 : v0 = .pointer (some ⟨b0, 0, none⟩)) (hO0 : IniOK [ob (.pointer (some ⟨b0, 0, none⟩)) (.box B0 108 E_spec_l1Cur p0)] Aq w) :
  Calls Try.prog 63 #[v0] w fun e w' => ∃ v, e = .returned v ∧ (∃ (A1 : Av), GPost (subS Aq (ownsB (.pointer (some ⟨b0, 0, none⟩)))) (ownsB (.pointer (some ⟨b0, 0, none⟩))) w [ob (.pointer (some ⟨b0, 0, none⟩)) (.box B0 108 E_spec_l1Cur r.2.2)] A1 w' ∧ (Fact.tup2 (.rep eStr A1 r.1) (.rep eStr A1 r.2.1)).ok v w') := by
 unfold M_spec_l4Two at hr
 obtain ⟨w0, hw0⟩ : ∃ w0, w0 = w := ⟨_, rfl⟩
 have hF : Ch (ownsB (.pointer (some ⟨b0, 0, none⟩))) w0 w := hw0 ▸ Ch.refl _ _
 obtain ⟨A0, hA0e⟩ : ∃ A0, A0 = subS Aq (ownsB (.pointer (some ⟨b0, 0, none⟩))) := ⟨_, rfl⟩
 have hA0 : ∀ b o, A0 b o → b < w0.heap.size := fun b o h => hw0 ▸ hA b o (hA0e ▸ h : subS Aq _ b o).1
 have hN : ∀ b o, A0 b o → ¬ (ownsB (.pointer (some ⟨b0, 0, none⟩))) b := fun b o h => (hA0e ▸ h : subS Aq _ b o).2
 have hA00 : AvOK A0 w0 := hA0
 rw [show GPost (subS Aq (ownsB (.pointer (some ⟨b0, 0, none⟩)))) (ownsB (.pointer (some ⟨b0, 0, none⟩))) w = GPost A0 (ownsB (.pointer (some ⟨b0, 0, none⟩))) w0 from by rw [hA0e, hw0]]
 clear hw0
 obtain ⟨A, hAe⟩ : ∃ A, A = Aq := ⟨_, rfl⟩
 have hAA : ∀ b o, A0 b o → A b o := fun b o h => hAe ▸ (hA0e ▸ h : subS Aq _ b o).1
 replace hA : AvOK A w := hAe ▸ hA
 have hO : IniOK [ob (.pointer (some ⟨b0, 0, none⟩)) (.box B0 108 E_spec_l1Cur p0)] A w := hAe ▸ hO0
 clear hA0e hO0
 refine calls_of_HT2 [.tmp 2, .tmp 3] Try.func63 Try.ntmps63 (by decide) rfl rfl (Nat.le_of_ble_eq_true rfl) ?_
 intro R hR
 replace h0 : R 0 = .pointer (some ⟨b0, 0, none⟩) := (hR 0 _ rfl).trans h0
 clear hR hAe
 refine HT.seq ?_
 refine HT.text (l := ⟨_, true, .rep eStr A ([] : List UInt8)⟩ :: ⟨_, true, .rep eStr A ([] : List UInt8)⟩ :: []) (tl := []) (by kernel_rfl) (by kernel_rfl) (by kernel_rfl) ?_ ?_
 ·exact
   Obls.p (fun R' w' hw hs hd => of_assign ⟨_, rfl, ⟨_, rfl, rfl, by decide⟩⟩) <|
   Obls.p (fun R' w' hw hs hd => of_assign ⟨_, rfl, ⟨_, rfl, rfl, by decide⟩⟩) <|
   Obls.nil
 intro R w hw hs hF'
 replace h0 := (hs 0 rfl).trans h0
 replace hO := hO.fr hw
 replace hA := hA.fr hw.size
 replace hF := hF.tr (hw.ch noB) fun _ h => False.elim h
 clear hs hF' hw
 refine seqR_nil ?_
 refine HT.seq ?_
 refine SG.of ?_
 refine SG.textR [ob (.pointer (some ⟨b0, 0, none⟩)) (.box B0 108 E_spec_l1Cur p0)] (⟨_, true, [], none, true, fun A => .raw (.pointer (some ⟨b0, 0, none⟩))⟩ :: []) 1 rfl rfl rfl (by kernel_rfl) (by kernel_rfl) (Wf.mk' (by kernel_rfl) (UAll.cons ust_raw (UAll.nil)) (by kernel_rfl) (by kernel_rfl)) hO hA (trivial) ?_ ?_
 ·exact
   OblsR.p (fun A' R' w' ho hd => of_move ((ho.old 0 rfl).trans h0)) <|
   OblsR.nil
 intro done ρ σ A R w hdn hI
 replace h0 : R 0 = (.pointer (some ⟨b0, 0, none⟩)) := (hI.reg rfl).trans h0
 have z1 := hI.inivR 0 rfl
 have h5 : R 5 = (.pointer (some ⟨b0, 0, none⟩)) := hI.fact hdn (i := 0) rfl rfl rfl
 replace hAA := hI.lowK hAA hA0 hN (hO.geK (⟨.inr (fun k h => .inr h), trivial⟩))
 replace hF : Ch (ownsB (.pointer (some ⟨b0, 0, none⟩))) w0 w := hF.tr hI.ch (hO.geK (⟨.inr (fun k h => .inr h), trivial⟩))
 replace hO : IniOK [ob (.pointer (some ⟨b0, 0, none⟩)) (.box B0 108 E_spec_l1Cur p0)] A w := hI.left hdn [(0, ob (.pointer (some ⟨b0, 0, none⟩)) (.box B0 108 E_spec_l1Cur p0))] ⟨rfl, rfl, z1, rfl, rfl, trivial⟩
 replace hA := hI.avok
 clear hI
 obtain ⟨x2, q3, hr⟩ := cl_some hr
 have hFz : w0.heap.size ≤ w.heap.size := hF.size
 refine SG.op 6 rfl rfl rfl rfl (call_run Try.call68 (M_spec_l2Text_ok (q3 rfl) hA h5 (hO.sub [(0, ob (.pointer (some ⟨b0, 0, none⟩)) (.box B0 108 E_spec_l1Cur p0))] ⟨rfl, rfl, trivial⟩))) ?_
 rintro v_ w ⟨A, hG1, hv⟩ R hs hd
 have hst := stp_call hA hG1 (hO.ok 0 _ rfl).2
 replace hAA : ∀ b o, A0 b o → A b o := low_callK hAA hA0 hN (hO.geK (⟨.inr (fun k h => .inr h), trivial⟩)) 0 rfl hG1
 replace hF : Ch (ownsB (.pointer (some ⟨b0, 0, none⟩))) w0 w := hF.tr hG1.ch (fun k hk => (hO.geK (⟨.inr (fun k h => .inr h), trivial⟩)) k ⟨0, _, rfl, hk⟩)
 replace hO := GPost.next hO hA 0 rfl hG1
 replace hA := hG1.avok
 replace hO : IniOK [ob (.pointer (some ⟨b0, 0, none⟩)) (.box B0 108 E_spec_l1Cur x2.2)] A w := hO
 replace h0 := (hs 0 rfl).trans h0
 replace h5 := (hs 5 rfl).trans h5
 obtain ⟨u4, h6, f_u4⟩ : ∃ u, R 6 = u ∧ Rep eStr A w u x2.1 := ⟨_, rfl, hd ▸ hv⟩
 clear hFz hG1 hv hs hd
 refine SG.textR [ob (.pointer (some ⟨b0, 0, none⟩)) (.box B0 108 E_spec_l1Cur x2.2)] (⟨_, true, [], none, true, fun A => .raw (.pointer (some ⟨b0, 0, none⟩))⟩ :: ⟨_, true, [], none, true, fun A => .raw u4⟩ :: ⟨_, true, [], none, true, fun A => .raw u4⟩ :: []) 3 rfl rfl rfl (by kernel_rfl) (by kernel_rfl) (Wf.mk' (by kernel_rfl) (UAll.cons ust_raw (UAll.cons ust_raw (UAll.cons ust_raw (UAll.nil)))) (by kernel_rfl) (by kernel_rfl)) hO hA (⟨⟨rfl, rfl, rfl, h5⟩, ⟨⟨rfl, rfl, rfl, h6⟩, trivial⟩⟩) ?_ ?_
 ·exact
   OblsR.p (fun A' R' w' ho hd => by have a0 : R' 6 = u4 := hd.g 0 rfl; exact of_assign a0) <|
   OblsR.nil
 intro done ρ σ A R w hdn hI
 replace h0 : R 0 = (.pointer (some ⟨b0, 0, none⟩)) := (hI.reg rfl).trans h0
 have z5 := hI.inivR 0 rfl
 have h4 : R 4 = u4 := hI.fact hdn (i := 2) rfl rfl rfl
 replace f_u4 := f_u4.stp hI.stp
 replace hAA := hI.lowK hAA hA0 hN (hO.geK (⟨.inr (fun k h => .inr h), trivial⟩))
 replace hF : Ch (ownsB (.pointer (some ⟨b0, 0, none⟩))) w0 w := hF.tr hI.ch (hO.geK (⟨.inr (fun k h => .inr h), trivial⟩))
 replace hO : IniOK [ob (.pointer (some ⟨b0, 0, none⟩)) (.box B0 108 E_spec_l1Cur x2.2)] A w := hI.left hdn [(0, ob (.pointer (some ⟨b0, 0, none⟩)) (.box B0 108 E_spec_l1Cur x2.2))] ⟨rfl, rfl, z5, rfl, rfl, trivial⟩
 replace hA := hI.avok
 clear hI
 refine SG.fin rfl ?_
 refine HT.seq ?_
 refine HT.seq ?_
 refine SG.of ?_
 refine SG.textR [ob (.pointer (some ⟨b0, 0, none⟩)) (.box B0 108 E_spec_l1Cur x2.2)] (⟨_, true, [], none, true, fun A => .raw (.pointer (some ⟨b0, 0, none⟩))⟩ :: []) 1 rfl rfl rfl (by kernel_rfl) (by kernel_rfl) (Wf.mk' (by kernel_rfl) (UAll.cons ust_raw (UAll.nil)) (by kernel_rfl) (by kernel_rfl)) hO hA (trivial) ?_ ?_
 ·exact
   OblsR.p (fun A' R' w' ho hd => of_move ((ho.old 0 rfl).trans h0)) <|
   OblsR.nil
 intro done ρ σ A R w hdn hI
 replace h0 : R 0 = (.pointer (some ⟨b0, 0, none⟩)) := (hI.reg rfl).trans h0
 replace h4 : R 4 = u4 := (hI.reg rfl).trans h4
 have z6 := hI.inivR 0 rfl
 have h7 : R 7 = (.pointer (some ⟨b0, 0, none⟩)) := hI.fact hdn (i := 0) rfl rfl rfl
 replace f_u4 := f_u4.stp hI.stp
 replace hAA := hI.lowK hAA hA0 hN (hO.geK (⟨.inr (fun k h => .inr h), trivial⟩))
 replace hF : Ch (ownsB (.pointer (some ⟨b0, 0, none⟩))) w0 w := hF.tr hI.ch (hO.geK (⟨.inr (fun k h => .inr h), trivial⟩))
 replace hO : IniOK [ob (.pointer (some ⟨b0, 0, none⟩)) (.box B0 108 E_spec_l1Cur x2.2)] A w := hI.left hdn [(0, ob (.pointer (some ⟨b0, 0, none⟩)) (.box B0 108 E_spec_l1Cur x2.2))] ⟨rfl, rfl, z6, rfl, rfl, trivial⟩
 replace hA := hI.avok
 clear hI
 obtain ⟨x7, q8, hr⟩ := cl_some hr
 have hFz : w0.heap.size ≤ w.heap.size := hF.size
 refine SG.op 8 rfl rfl rfl rfl (call_run Try.call64 (M_spec_l1Below_ok (q8 rfl) hA h7 (hO.sub [(0, ob (.pointer (some ⟨b0, 0, none⟩)) (.box B0 108 E_spec_l1Cur x2.2))] ⟨rfl, rfl, trivial⟩) rfl)) ?_
 rintro v_ w ⟨A, hG1, hv⟩ R hs hd
 have hst := stp_call hA hG1 (hO.ok 0 _ rfl).2
 replace hAA : ∀ b o, A0 b o → A b o := low_callK hAA hA0 hN (hO.geK (⟨.inr (fun k h => .inr h), trivial⟩)) 0 rfl hG1
 replace hF : Ch (ownsB (.pointer (some ⟨b0, 0, none⟩))) w0 w := hF.tr hG1.ch (fun k hk => (hO.geK (⟨.inr (fun k h => .inr h), trivial⟩)) k ⟨0, _, rfl, hk⟩)
 replace hO := GPost.next hO hA 0 rfl hG1
 replace hA := hG1.avok
 replace hO : IniOK [ob (.pointer (some ⟨b0, 0, none⟩)) (.box B0 108 E_spec_l1Cur x7.2)] A w := hO
 replace h0 := (hs 0 rfl).trans h0
 replace h4 := (hs 4 rfl).trans h4
 replace h7 := (hs 7 rfl).trans h7
 replace f_u4 := f_u4.stp hst
 have h8 : R 8 = .int .i64 x7.1 := hd.trans hv
 clear hFz hG1 hv hs hd
 refine SG.fin rfl ?_
 refine HT.block ?_
 refine HT.seq ?_
 refine HT.text (l := ⟨_, true, .raw (.bool (x7.1 == (0 : Int)))⟩ :: ⟨_, true, .raw (.bool (x7.1 == (0 : Int)))⟩ :: []) (tl := []) (by kernel_rfl) (by kernel_rfl) (by kernel_rfl) ?_ ?_
 ·exact
   Obls.p (fun R' w' hw hs hd => of_eql ((hs 8 rfl).trans h8) rfl) <|
   Obls.p (fun R' w' hw hs hd => by have a0 : R' 10 = .bool (x7.1 == (0 : Int)) := hd.g 0 rfl; exact of_assign a0) <|
   Obls.nil
 intro R w hw hs hF'
 replace h0 := (hs 0 rfl).trans h0
 replace h4 := (hs 4 rfl).trans h4
 replace h8 := (hs 8 rfl).trans h8
 have h9 : R 9 = .bool (x7.1 == (0 : Int)) := hF' 1 _ _ rfl rfl rfl
 replace f_u4 := f_u4.fr hw
 replace hO := hO.fr hw
 replace hA := hA.fr hw.size
 replace hF := hF.tr (hw.ch noB) fun _ h => False.elim h
 clear hs hF' hw
 refine seqR_nil ?_
 refine HT.cond (x7.1 == (0 : Int)) h9 (fun c9 => ?_) (fun c9 => ?_)
 ·have hr := cnd_t c9 hr
  refine HT.seq ?_
  refine SG.of ?_
  refine SG.textR [ob (.pointer (some ⟨b0, 0, none⟩)) (.box B0 108 E_spec_l1Cur x7.2)] (⟨_, true, [], none, true, fun A => .raw u4⟩ :: ⟨_, true, [], none, true, fun A => .raw (.pointer (some ⟨b0, 0, none⟩))⟩ :: []) 2 rfl rfl rfl (by kernel_rfl) (by kernel_rfl) (Wf.mk' (by kernel_rfl) (UAll.cons ust_raw (UAll.cons ust_raw (UAll.nil))) (by kernel_rfl) (by kernel_rfl)) hO hA (trivial) ?_ ?_
  ·exact
    OblsR.p (fun A' R' w' ho hd => of_move ((ho.old 4 rfl).trans h4)) <|
    OblsR.p (fun A' R' w' ho hd => of_move ((ho.old 0 rfl).trans h0)) <|
    OblsR.nil
  intro done ρ σ A R w hdn hI
  have z10 := hI.inivR 0 rfl
  have h11 : R 11 = u4 := hI.fact hdn (i := 0) rfl rfl rfl
  have h12 : R 12 = (.pointer (some ⟨b0, 0, none⟩)) := hI.fact hdn (i := 1) rfl rfl rfl
  replace f_u4 := f_u4.stp hI.stp
  replace hAA := hI.lowK hAA hA0 hN (hO.geK (⟨.inr (fun k h => .inr h), trivial⟩))
  replace hF : Ch (ownsB (.pointer (some ⟨b0, 0, none⟩))) w0 w := hF.tr hI.ch (hO.geK (⟨.inr (fun k h => .inr h), trivial⟩))
  replace hO : IniOK [ob (.pointer (some ⟨b0, 0, none⟩)) (.box B0 108 E_spec_l1Cur x7.2)] A w := hI.left hdn [(0, ob (.pointer (some ⟨b0, 0, none⟩)) (.box B0 108 E_spec_l1Cur x7.2))] ⟨rfl, rfl, z10, rfl, rfl, trivial⟩
  replace hA := hI.avok
  clear hI
  obtain ⟨x11, q12, hr⟩ := cl_some hr
  have hFz : w0.heap.size ≤ w.heap.size := hF.size
  refine SG.op 13 rfl rfl rfl rfl (call_run Try.call68 (M_spec_l2Text_ok (q12 rfl) hA h12 (hO.sub [(0, ob (.pointer (some ⟨b0, 0, none⟩)) (.box B0 108 E_spec_l1Cur x7.2))] ⟨rfl, rfl, trivial⟩))) ?_
  rintro v_ w ⟨A, hG1, hv⟩ R hs hd
  have hst := stp_call hA hG1 (hO.ok 0 _ rfl).2
  replace hAA : ∀ b o, A0 b o → A b o := low_callK hAA hA0 hN (hO.geK (⟨.inr (fun k h => .inr h), trivial⟩)) 0 rfl hG1
  replace hF : Ch (ownsB (.pointer (some ⟨b0, 0, none⟩))) w0 w := hF.tr hG1.ch (fun k hk => (hO.geK (⟨.inr (fun k h => .inr h), trivial⟩)) k ⟨0, _, rfl, hk⟩)
  replace hO := GPost.next hO hA 0 rfl hG1
  replace hA := hG1.avok
  replace hO : IniOK [ob (.pointer (some ⟨b0, 0, none⟩)) (.box B0 108 E_spec_l1Cur x11.2)] A w := hO
  replace h11 := (hs 11 rfl).trans h11
  replace h12 := (hs 12 rfl).trans h12
  replace f_u4 := f_u4.stp hst
  obtain ⟨u13, h13, f_u13⟩ : ∃ u, R 13 = u ∧ Rep eStr A w u x11.1 := ⟨_, rfl, hd ▸ hv⟩
  clear hFz hG1 hv hs hd
  refine SG.textR [ob (.pointer (some ⟨b0, 0, none⟩)) (.box B0 108 E_spec_l1Cur x11.2)] (⟨_, true, [], none, true, fun A => .raw u4⟩ :: ⟨_, true, [], none, true, fun A => .raw (.pointer (some ⟨b0, 0, none⟩))⟩ :: ⟨_, true, [], none, true, fun A => .raw u13⟩ :: ⟨_, true, [], none, true, fun A => .raw u4⟩ :: ⟨_, true, [], none, true, fun A => .raw u13⟩ :: []) 5 rfl rfl rfl (by kernel_rfl) (by kernel_rfl) (Wf.mk' (by kernel_rfl) (UAll.cons ust_raw (UAll.cons ust_raw (UAll.cons ust_raw (UAll.cons ust_raw (UAll.cons ust_raw (UAll.nil)))))) (by kernel_rfl) (by kernel_rfl)) hO hA (⟨⟨rfl, rfl, rfl, h11⟩, ⟨⟨rfl, rfl, rfl, h12⟩, ⟨⟨rfl, rfl, rfl, h13⟩, trivial⟩⟩⟩) ?_ ?_
  ·exact
    OblsR.p (fun A' R' w' ho hd => by have a0 : R' 11 = u4 := hd.g 0 rfl; exact of_assign a0) <|
    OblsR.p (fun A' R' w' ho hd => by have a0 : R' 13 = u13 := hd.g 0 rfl; exact of_assign a0) <|
    OblsR.nil
  intro done ρ σ A R w hdn hI
  have z14 := hI.inivR 0 rfl
  have h2 : R 2 = u4 := hI.fact hdn (i := 3) rfl rfl rfl
  have h3 : R 3 = u13 := hI.fact hdn (i := 4) rfl rfl rfl
  replace f_u13 := f_u13.stp hI.stp
  replace f_u4 := f_u4.stp hI.stp
  replace hAA := hI.lowK hAA hA0 hN (hO.geK (⟨.inr (fun k h => .inr h), trivial⟩))
  replace hF : Ch (ownsB (.pointer (some ⟨b0, 0, none⟩))) w0 w := hF.tr hI.ch (hO.geK (⟨.inr (fun k h => .inr h), trivial⟩))
  replace hO : IniOK [ob (.pointer (some ⟨b0, 0, none⟩)) (.box B0 108 E_spec_l1Cur x11.2)] A w := hI.left hdn [(0, ob (.pointer (some ⟨b0, 0, none⟩)) (.box B0 108 E_spec_l1Cur x11.2))] ⟨rfl, rfl, z14, rfl, rfl, trivial⟩
  replace hA := hI.avok
  clear hI
  refine SG.fin rfl ?_
  refine HT.ret ?_
  obtain rfl := Option.some.inj hr
  obtain ⟨A1, hA1, hG1⟩ := GPost.of hO hA hAA (hO.geK (⟨.inr (fun k h => .inr h), trivial⟩)) hF
  exact ⟨.inr rfl, [R 2, R 3], ⟨rfl, ⟨rfl, trivial⟩⟩, A1, hG1, ⟨_, _, rfl, (f_u4.eq h2).down hA1, (f_u13.eq h3).down hA1⟩⟩
 ·have hr := cnd_f c9 hr
  refine HT.seq ?_
  refine HT.text (l := ⟨_, true, .raw (.bool (x7.1 == (1 : Int)))⟩ :: ⟨_, true, .raw (.bool (x7.1 == (1 : Int)))⟩ :: []) (tl := []) (by kernel_rfl) (by kernel_rfl) (by kernel_rfl) ?_ ?_
  ·exact
    Obls.p (fun R' w' hw hs hd => of_eql ((hs 8 rfl).trans h8) rfl) <|
    Obls.p (fun R' w' hw hs hd => by have a0 : R' 15 = .bool (x7.1 == (1 : Int)) := hd.g 0 rfl; exact of_assign a0) <|
    Obls.nil
  intro R w hw hs hF'
  replace h0 := (hs 0 rfl).trans h0
  replace h4 := (hs 4 rfl).trans h4
  have h14 : R 14 = .bool (x7.1 == (1 : Int)) := hF' 1 _ _ rfl rfl rfl
  replace f_u4 := f_u4.fr hw
  replace hO := hO.fr hw
  replace hA := hA.fr hw.size
  replace hF := hF.tr (hw.ch noB) fun _ h => False.elim h
  clear hs hF' hw
  refine seqR_nil ?_
  refine HT.cond (x7.1 == (1 : Int)) h14 (fun c15 => ?_) (fun c15 => ?_)
  ·have hr := cnd_t c15 hr
   refine HT.seq ?_
   refine HT.text (l := ⟨_, true, .raw u4⟩ :: ⟨_, true, .raw u4⟩ :: ⟨_, true, .raw u4⟩ :: ⟨_, true, .raw u4⟩ :: []) (tl := []) (by kernel_rfl) (by kernel_rfl) (by kernel_rfl) ?_ ?_
   ·exact
     Obls.p (fun R' w' hw hs hd => of_move ((hs 4 rfl).trans h4)) <|
     Obls.p (fun R' w' hw hs hd => of_move ((hs 4 rfl).trans h4)) <|
     Obls.p (fun R' w' hw hs hd => by have a0 : R' 16 = u4 := hd.g 0 rfl; exact of_assign a0) <|
     Obls.p (fun R' w' hw hs hd => by have a0 : R' 17 = u4 := hd.g 0 rfl; exact of_assign a0) <|
     Obls.nil
   intro R w hw hs hF'
   have h2 : R 2 = u4 := hF' 2 _ _ rfl rfl rfl
   have h3 : R 3 = u4 := hF' 3 _ _ rfl rfl rfl
   replace f_u4 := f_u4.fr hw
   replace hO := hO.fr hw
   replace hA := hA.fr hw.size
   replace hF := hF.tr (hw.ch noB) fun _ h => False.elim h
   clear hs hF' hw
   refine seqR_nil ?_
   refine HT.ret ?_
   obtain rfl := Option.some.inj hr
   obtain ⟨A1, hA1, hG1⟩ := GPost.of hO hA hAA (hO.geK (⟨.inr (fun k h => .inr h), trivial⟩)) hF
   exact ⟨.inr rfl, [R 2, R 3], ⟨rfl, ⟨rfl, trivial⟩⟩, A1, hG1, ⟨_, _, rfl, (f_u4.eq h2).down hA1, (f_u4.eq h3).down hA1⟩⟩
  ·have hr := cnd_f c15 hr
   refine HT.skip ?_
   refine HT.seq ?_
   refine SG.of ?_
   obtain ⟨x16, q17, hr⟩ := cl_some hr
   refine SG.textR [ob (.pointer (some ⟨b0, 0, none⟩)) (.box B0 108 E_spec_l1Cur x7.2)] (⟨_, true, [], none, true, fun A => .raw u4⟩ :: ⟨_, true, [], none, true, fun A => .rep eStr A x16⟩ :: ⟨_, true, [], none, true, fun A => .raw (.pointer (some ⟨b0, 0, none⟩))⟩ :: ⟨_, true, [], none, true, fun A => .raw u4⟩ :: []) 4 rfl rfl rfl (by kernel_rfl) (by kernel_rfl) (Wf.mk' (by kernel_rfl) (UAll.cons ust_raw (UAll.cons ust_rep (UAll.cons ust_raw (UAll.cons ust_raw (UAll.nil))))) (by kernel_rfl) (by kernel_rfl)) hO hA (trivial) ?_ ?_
   ·exact
     OblsR.p (fun A' R' w' ho hd => of_move ((ho.old 4 rfl).trans h4)) <|
     OblsR.p (fun A' R' w' ho hd => by have a0 : R' 18 = u4 := hd.g 0 rfl; have ra0 := (f_u4.stp ho.stp).eq a0; exact of_call Try.call67 (M_spec_Normalize_ok (q17 rfl) ho.av ra0)) <|
     OblsR.p (fun A' R' w' ho hd => of_move ((ho.old 0 rfl).trans h0)) <|
     OblsR.p (fun A' R' w' ho hd => of_move ((ho.old 4 rfl).trans h4)) <|
     OblsR.nil
   intro done ρ σ A R w hdn hI
   have z18 := hI.inivR 0 rfl
   obtain ⟨u19, h19, f_u19⟩ : ∃ u, R 19 = u ∧ Rep eStr A w u x16 := ⟨_, rfl, hI.fact hdn (i := 1) rfl rfl rfl⟩
   have h20 : R 20 = (.pointer (some ⟨b0, 0, none⟩)) := hI.fact hdn (i := 2) rfl rfl rfl
   have h21 : R 21 = u4 := hI.fact hdn (i := 3) rfl rfl rfl
   replace f_u4 := f_u4.stp hI.stp
   replace hAA := hI.lowK hAA hA0 hN (hO.geK (⟨.inr (fun k h => .inr h), trivial⟩))
   replace hF : Ch (ownsB (.pointer (some ⟨b0, 0, none⟩))) w0 w := hF.tr hI.ch (hO.geK (⟨.inr (fun k h => .inr h), trivial⟩))
   replace hO : IniOK [ob (.pointer (some ⟨b0, 0, none⟩)) (.box B0 108 E_spec_l1Cur x7.2)] A w := hI.left hdn [(0, ob (.pointer (some ⟨b0, 0, none⟩)) (.box B0 108 E_spec_l1Cur x7.2))] ⟨rfl, rfl, z18, rfl, rfl, trivial⟩
   replace hA := hI.avok
   clear hI
   obtain ⟨x20, q21, hr⟩ := cl_some hr
   have hFz : w0.heap.size ≤ w.heap.size := hF.size
   refine SG.op 22 rfl rfl rfl rfl (call_run Try.call100 (M_spec_l1Spoil_ok (q21 rfl) hA h20 (hO.sub [(0, ob (.pointer (some ⟨b0, 0, none⟩)) (.box B0 108 E_spec_l1Cur x7.2))] ⟨rfl, rfl, trivial⟩) (f_u4.eq h21))) ?_
   rintro v_ w ⟨A, hG1, hv⟩ R hs hd
   have hst := stp_call hA hG1 (hO.ok 0 _ rfl).2
   replace hAA : ∀ b o, A0 b o → A b o := low_callK hAA hA0 hN (hO.geK (⟨.inr (fun k h => .inr h), trivial⟩)) 0 rfl hG1
   replace hF : Ch (ownsB (.pointer (some ⟨b0, 0, none⟩))) w0 w := hF.tr hG1.ch (fun k hk => (hO.geK (⟨.inr (fun k h => .inr h), trivial⟩)) k ⟨0, _, rfl, hk⟩)
   replace hO := GPost.next hO hA 0 rfl hG1
   replace hA := hG1.avok
   replace hO : IniOK [ob (.pointer (some ⟨b0, 0, none⟩)) (.box B0 108 E_spec_l1Cur x20.2)] A w := hO
   replace h19 := (hs 19 rfl).trans h19
   replace h20 := (hs 20 rfl).trans h20
   replace h21 := (hs 21 rfl).trans h21
   replace f_u19 := f_u19.stp hst
   replace f_u4 := f_u4.stp hst
   obtain ⟨u22, h22, f_u22⟩ : ∃ u, R 22 = u ∧ Rep eStr A w u x20.1 := ⟨_, rfl, hd ▸ hv⟩
   clear hFz hG1 hv hs hd
   obtain ⟨x23, q24, hr⟩ := cl_some hr
   refine SG.textR [ob (.pointer (some ⟨b0, 0, none⟩)) (.box B0 108 E_spec_l1Cur x20.2)] (⟨_, true, [], none, true, fun A => .any⟩ :: ⟨_, true, [], none, true, fun A => .raw u19⟩ :: ⟨_, true, [], none, true, fun A => .raw (.pointer (some ⟨b0, 0, none⟩))⟩ :: ⟨_, true, [], none, true, fun A => .raw u4⟩ :: ⟨_, true, [], none, true, fun A => .raw u22⟩ :: ⟨_, true, [], none, true, fun A => .rep eStr A x23⟩ :: ⟨_, true, [], none, true, fun A => .raw u19⟩ :: ⟨_, true, [], none, true, fun A => .rep eStr A x23⟩ :: []) 8 rfl rfl rfl (by kernel_rfl) (by kernel_rfl) (Wf.mk' (by kernel_rfl) (UAll.cons ust_any (UAll.cons ust_raw (UAll.cons ust_raw (UAll.cons ust_raw (UAll.cons ust_raw (UAll.cons ust_rep (UAll.cons ust_raw (UAll.cons ust_rep (UAll.nil))))))))) (by kernel_rfl) (by kernel_rfl)) hO hA (⟨⟨rfl, rfl, rfl, trivial⟩, ⟨⟨rfl, rfl, rfl, h19⟩, ⟨⟨rfl, rfl, rfl, h20⟩, ⟨⟨rfl, rfl, rfl, h21⟩, ⟨⟨rfl, rfl, rfl, h22⟩, trivial⟩⟩⟩⟩⟩) ?_ ?_
   ·exact
     OblsR.p (fun A' R' w' ho hd => by have a0 : R' 22 = u22 := hd.g 0 rfl; have ra0 := (f_u22.stp ho.stp).eq a0; exact of_call Try.call67 (M_spec_Normalize_ok (q24 rfl) ho.av ra0)) <|
     OblsR.p (fun A' R' w' ho hd => by have a0 : R' 19 = u19 := hd.g 0 rfl; exact of_assign a0) <|
     OblsR.p (fun A' R' w' ho hd => by have a0 : Rep eStr A' w' (R' 23) x23 := hd.g 0 rfl; exact of_assign a0) <|
     OblsR.nil
   intro done ρ σ A R w hdn hI
   have z25 := hI.inivR 0 rfl
   have h2 : R 2 = u19 := hI.fact hdn (i := 6) rfl rfl rfl
   obtain ⟨u26, h3, f_u26⟩ : ∃ u, R 3 = u ∧ Rep eStr A w u x23 := ⟨_, rfl, hI.fact hdn (i := 7) rfl rfl rfl⟩
   replace f_u19 := f_u19.stp hI.stp
   replace hAA := hI.lowK hAA hA0 hN (hO.geK (⟨.inr (fun k h => .inr h), trivial⟩))
   replace hF : Ch (ownsB (.pointer (some ⟨b0, 0, none⟩))) w0 w := hF.tr hI.ch (hO.geK (⟨.inr (fun k h => .inr h), trivial⟩))
   replace hO : IniOK [ob (.pointer (some ⟨b0, 0, none⟩)) (.box B0 108 E_spec_l1Cur x20.2)] A w := hI.left hdn [(0, ob (.pointer (some ⟨b0, 0, none⟩)) (.box B0 108 E_spec_l1Cur x20.2))] ⟨rfl, rfl, z25, rfl, rfl, trivial⟩
   replace hA := hI.avok
   clear hI
   refine SG.fin rfl ?_
   refine HT.ret ?_
   obtain rfl := Option.some.inj hr
   obtain ⟨A1, hA1, hG1⟩ := GPost.of hO hA hAA (hO.geK (⟨.inr (fun k h => .inr h), trivial⟩)) hF
   exact ⟨.inr rfl, [R 2, R 3], ⟨rfl, ⟨rfl, trivial⟩⟩, A1, hG1, ⟨_, _, rfl, (f_u19.eq h2).down hA1, (f_u26.eq h3).down hA1⟩⟩
def M_spec_DrawPassesFilters (fu : Nat) (p0 : List Int) : Option ((List UInt8) × (List UInt8) × Int) :=
 cl true (M_spec_l1New fu p0) fun x1 =>
 cl true (M_spec_l4Two fu x1) fun x6 =>
 cl true (M_spec_l1Below fu x6.2.2 (6 : Int)) fun x12 =>
 ck (i64B (x12.1 - (1 : Int))) <|
 some (x6.1, x6.2.1, (x12.1 - (1 : Int)))
theorem M_spec_DrawPassesFilters_ok {fu : Nat} {A0 : Av} {p0 : List Int} {r : (List UInt8) × (List UInt8) × Int} (hr : M_spec_DrawPassesFilters fu p0 = some r) {w : World} {v0 : Value} (hA : AvOK A0 w) (h0 : Rep (eSl (eInt .u8)) A0 w v0 p0) :
  Calls Try.prog 23 #[v0] w fun e w' => ∃ v, e = .returned v ∧ ((∃ a b c, v = .tuple #[a, b, c] ∧ Rep eStr A0 w' a r.1 ∧ Rep eStr A0 w' b r.2.1 ∧ c = .int .i64 r.2.2) ∧ Fr w w') := by
 unfold M_spec_DrawPassesFilters at hr
 obtain ⟨w0, hw0⟩ : ∃ w0, w0 = w := ⟨_, rfl⟩
 have hF : Fr w0 w := hw0 ▸ Fr.refl _
 have hA0 : ∀ b o, A0 b o → b < w0.heap.size := fun b o h => hw0 ▸ hA b o h
 have hA00 : AvOK A0 w0 := hA0
 rw [show Fr w = Fr w0 from hw0 ▸ rfl]
 clear hw0
 obtain ⟨A, hAe⟩ : ∃ A, A = A0 := ⟨_, rfl⟩
 have hAA : ∀ b o, A0 b o → A b o := fun b o h => hAe ▸ h
 replace hA : AvOK A w := hAe ▸ hA
 have hO : IniOK [] A w := IniOK.nil
 refine calls_of_HT2 [.tmp 2, .tmp 3, .tmp 4] Try.func23 Try.ntmps23 (by decide) rfl rfl (Nat.le_of_ble_eq_true rfl) ?_
 intro R hR
 have f_v0 : Rep (eSl (eInt .u8)) A w v0 p0 := hAe ▸ h0
 replace h0 : R 0 = v0 := hR 0 _ rfl
 clear hR hAe
 refine HT.seq ?_
 refine HT.text (l := ⟨_, true, .rep eStr A ([] : List UInt8)⟩ :: ⟨_, true, .rep eStr A ([] : List UInt8)⟩ :: ⟨_, true, .raw (.int .i64 (0 : Int))⟩ :: []) (tl := []) (by kernel_rfl) (by kernel_rfl) (by kernel_rfl) ?_ ?_
 ·exact
   Obls.p (fun R' w' hw hs hd => of_assign ⟨_, rfl, ⟨_, rfl, rfl, by decide⟩⟩) <|
   Obls.p (fun R' w' hw hs hd => of_assign ⟨_, rfl, ⟨_, rfl, rfl, by decide⟩⟩) <|
   Obls.p (fun R' w' hw hs hd => of_assign rfl) <|
   Obls.nil
 intro R w hw hs hF'
 replace h0 := (hs 0 rfl).trans h0
 replace f_v0 := f_v0.fr hw
 replace hO := hO.fr hw
 replace hA := hA.fr hw.size
 replace hF := hF.trans hw
 clear hs hF' hw
 refine seqR_nil ?_
 refine HT.seq ?_
 refine SG.of ?_
 refine SG.textR [] (⟨_, true, [], none, true, fun A => .raw v0⟩ :: []) 1 rfl rfl rfl (by kernel_rfl) (by kernel_rfl) (Wf.mk' (by kernel_rfl) (UAll.cons ust_raw (UAll.nil)) (by kernel_rfl) (by kernel_rfl)) hO hA (trivial) ?_ ?_
 ·exact
   OblsR.p (fun A' R' w' ho hd => of_move ((ho.old 0 rfl).trans h0)) <|
   OblsR.nil
 intro done ρ σ A R w hdn hI
 have h8 : R 8 = v0 := hI.fact hdn (i := 0) rfl rfl rfl
 replace f_v0 := f_v0.stp hI.stp
 replace hAA := hI.low' hAA hA0 (hO.ge (trivial))
 replace hF : Fr w0 w := hF.tr hI.ch (hO.ge (trivial))
 replace hO : IniOK [] A w := hI.left hdn [] trivial
 replace hA := hI.avok
 clear hI
 obtain ⟨x1, q2, hr⟩ := cl_some hr
 have hFz : w0.heap.size ≤ w.heap.size := hF.size
 refine SG.op 9 rfl rfl rfl rfl (call_run Try.call62 (M_spec_l1New_ok (q2 rfl) hA (f_v0.eq h8))) ?_
 rintro v_ w ⟨b3, A, hG1, hv⟩ R hs hd
 obtain ⟨hO2, hst⟩ := GPost.next0 hO hA hG1
 replace hO := hO2
 replace hA := hG1.avok
 replace hAA : ∀ b o, A0 b o → A b o := fun b o h => hG1.low b o (hAA b o h)
 replace hF : Fr w0 w := hF.trans hG1.ch.no
 replace hO := hO.reX (B' := w0.heap.size) 0 rfl hFz
 replace hO : IniOK [ob (.pointer (some ⟨b3, 0, none⟩)) (.box w0.heap.size 108 E_spec_l1Cur x1)] A w := hO
 replace h8 := (hs 8 rfl).trans h8
 replace f_v0 := f_v0.stp hst
 have h9 : R 9 = (.pointer (some ⟨b3, 0, none⟩)) := hd.trans hv
 clear hFz hG1 hv hs hd
 refine SG.textR [ob (.pointer (some ⟨b3, 0, none⟩)) (.box w0.heap.size 108 E_spec_l1Cur x1)] (⟨_, true, [], none, true, fun A => .raw v0⟩ :: ⟨_, true, [], none, true, fun A => .raw (.pointer (some ⟨b3, 0, none⟩))⟩ :: ⟨_, true, [], none, true, fun A => .raw (.pointer (some ⟨b3, 0, none⟩))⟩ :: []) 3 rfl rfl rfl (by kernel_rfl) (by kernel_rfl) (Wf.mk' (by kernel_rfl) (UAll.cons ust_raw (UAll.cons ust_raw (UAll.cons ust_raw (UAll.nil)))) (by kernel_rfl) (by kernel_rfl)) hO hA (⟨⟨rfl, rfl, rfl, h8⟩, ⟨⟨rfl, rfl, rfl, h9⟩, trivial⟩⟩) ?_ ?_
 ·exact
   OblsR.p (fun A' R' w' ho hd => by have a0 : R' 9 = (.pointer (some ⟨b3, 0, none⟩)) := hd.g 0 rfl; exact of_assign a0) <|
   OblsR.nil
 intro done ρ σ A R w hdn hI
 have z4 := hI.inivR 0 rfl
 have h5 : R 5 = (.pointer (some ⟨b3, 0, none⟩)) := hI.fact hdn (i := 2) rfl rfl rfl
 replace hAA := hI.low' hAA hA0 (hO.ge (⟨rfl, trivial⟩))
 replace hF : Fr w0 w := hF.tr hI.ch (hO.ge (⟨rfl, trivial⟩))
 replace hO : IniOK [ob (.pointer (some ⟨b3, 0, none⟩)) (.box w0.heap.size 108 E_spec_l1Cur x1)] A w := hI.left hdn [(0, ob (.pointer (some ⟨b3, 0, none⟩)) (.box w0.heap.size 108 E_spec_l1Cur x1))] ⟨rfl, rfl, z4, rfl, rfl, trivial⟩
 replace hA := hI.avok
 clear hI
 refine SG.fin rfl ?_
 refine HT.seq ?_
 refine SG.of ?_
 refine SG.textR [ob (.pointer (some ⟨b3, 0, none⟩)) (.box w0.heap.size 108 E_spec_l1Cur x1)] (⟨_, true, [], none, true, fun A => .raw (.pointer (some ⟨b3, 0, none⟩))⟩ :: []) 1 rfl rfl rfl (by kernel_rfl) (by kernel_rfl) (Wf.mk' (by kernel_rfl) (UAll.cons ust_raw (UAll.nil)) (by kernel_rfl) (by kernel_rfl)) hO hA (trivial) ?_ ?_
 ·exact
   OblsR.p (fun A' R' w' ho hd => of_move ((ho.old 5 rfl).trans h5)) <|
   OblsR.nil
 intro done ρ σ A R w hdn hI
 replace h5 : R 5 = (.pointer (some ⟨b3, 0, none⟩)) := (hI.reg rfl).trans h5
 have z5 := hI.inivR 0 rfl
 have h11 : R 11 = (.pointer (some ⟨b3, 0, none⟩)) := hI.fact hdn (i := 0) rfl rfl rfl
 replace hAA := hI.low' hAA hA0 (hO.ge (⟨rfl, trivial⟩))
 replace hF : Fr w0 w := hF.tr hI.ch (hO.ge (⟨rfl, trivial⟩))
 replace hO : IniOK [ob (.pointer (some ⟨b3, 0, none⟩)) (.box w0.heap.size 108 E_spec_l1Cur x1)] A w := hI.left hdn [(0, ob (.pointer (some ⟨b3, 0, none⟩)) (.box w0.heap.size 108 E_spec_l1Cur x1))] ⟨rfl, rfl, z5, rfl, rfl, trivial⟩
 replace hA := hI.avok
 clear hI
 obtain ⟨x6, q7, hr⟩ := cl_some hr
 have hFz : w0.heap.size ≤ w.heap.size := hF.size
 refine SG.op 12 rfl rfl rfl rfl (call_run Try.call63 (M_spec_l4Two_ok (q7 rfl) hA h11 (hO.sub [(0, ob (.pointer (some ⟨b3, 0, none⟩)) (.box w0.heap.size 108 E_spec_l1Cur x1))] ⟨rfl, rfl, trivial⟩))) ?_
 rintro v_ w ⟨A, hG1, hv⟩ R hs hd
 have hst := stp_call hA hG1 (hO.ok 0 _ rfl).2
 replace hAA : ∀ b o, A0 b o → A b o := low_call hAA hA0 (hO.ge (⟨rfl, trivial⟩)) 0 rfl hG1
 replace hF : Fr w0 w := hF.tr hG1.ch (fun k hk => (hO.ge (⟨rfl, trivial⟩)) k ⟨0, _, rfl, hk⟩)
 replace hO := GPost.next hO hA 0 rfl hG1
 replace hA := hG1.avok
 replace hO : IniOK [ob (.pointer (some ⟨b3, 0, none⟩)) (.box w0.heap.size 108 E_spec_l1Cur x6.2.2)] A w := hO
 replace h5 := (hs 5 rfl).trans h5
 replace h11 := (hs 11 rfl).trans h11
 have h12 : Fact.ok (.tup2 (.rep eStr A x6.1) (.rep eStr A x6.2.1)) (R 12) w := hd ▸ hv
 clear hFz hG1 hv hs hd
 refine SG.textR [ob (.pointer (some ⟨b3, 0, none⟩)) (.box w0.heap.size 108 E_spec_l1Cur x6.2.2)] (⟨_, true, [], none, true, fun A => .raw (.pointer (some ⟨b3, 0, none⟩))⟩ :: ⟨_, true, [], none, true, fun A => .tup2 (.rep eStr A x6.1) (.rep eStr A x6.2.1)⟩ :: ⟨_, true, [], none, true, fun A => .tup2 (.rep eStr A x6.1) (.rep eStr A x6.2.1)⟩ :: ⟨_, true, [], none, true, fun A => .rep eStr A x6.1⟩ :: ⟨_, true, [], none, true, fun A => .rep eStr A x6.2.1⟩ :: ⟨_, true, [], none, true, fun A => .rep eStr A x6.1⟩ :: ⟨_, true, [], none, true, fun A => .rep eStr A x6.2.1⟩ :: []) 7 rfl rfl rfl (by kernel_rfl) (by kernel_rfl) (Wf.mk' (by kernel_rfl) (UAll.cons ust_raw (UAll.cons (ust_tup2 ust_rep ust_rep) (UAll.cons (ust_tup2 ust_rep ust_rep) (UAll.cons ust_rep (UAll.cons ust_rep (UAll.cons ust_rep (UAll.cons ust_rep (UAll.nil)))))))) (by kernel_rfl) (by kernel_rfl)) hO hA (⟨⟨rfl, rfl, rfl, h11⟩, ⟨⟨rfl, rfl, rfl, h12⟩, trivial⟩⟩) ?_ ?_
 ·exact
   OblsR.p (fun A' R' w' ho hd => by have a0 : Fact.ok (.tup2 (.rep eStr A' x6.1) (.rep eStr A' x6.2.1)) (R' 12) w' := hd.g 0 rfl; exact of_move a0) <|
   OblsR.p (fun A' R' w' ho hd => by have a0 : Fact.ok (.tup2 (.rep eStr A' x6.1) (.rep eStr A' x6.2.1)) (R' 10) w' := hd.g 0 rfl; exact of_extract2_0 a0) <|
   OblsR.p (fun A' R' w' ho hd => by have a0 : Fact.ok (.tup2 (.rep eStr A' x6.1) (.rep eStr A' x6.2.1)) (R' 10) w' := hd.g 0 rfl; exact of_extract2_1 a0) <|
   OblsR.p (fun A' R' w' ho hd => by have a0 : Rep eStr A' w' (R' 13) x6.1 := hd.g 0 rfl; exact of_assign a0) <|
   OblsR.p (fun A' R' w' ho hd => by have a0 : Rep eStr A' w' (R' 14) x6.2.1 := hd.g 0 rfl; exact of_assign a0) <|
   OblsR.nil
 intro done ρ σ A R w hdn hI
 replace h5 : R 5 = (.pointer (some ⟨b3, 0, none⟩)) := (hI.reg rfl).trans h5
 have z8 := hI.inivR 0 rfl
 obtain ⟨u9, h6, f_u9⟩ : ∃ u, R 6 = u ∧ Rep eStr A w u x6.1 := ⟨_, rfl, hI.fact hdn (i := 5) rfl rfl rfl⟩
 obtain ⟨u10, h7, f_u10⟩ : ∃ u, R 7 = u ∧ Rep eStr A w u x6.2.1 := ⟨_, rfl, hI.fact hdn (i := 6) rfl rfl rfl⟩
 replace hAA := hI.low' hAA hA0 (hO.ge (⟨rfl, trivial⟩))
 replace hF : Fr w0 w := hF.tr hI.ch (hO.ge (⟨rfl, trivial⟩))
 replace hO : IniOK [ob (.pointer (some ⟨b3, 0, none⟩)) (.box w0.heap.size 108 E_spec_l1Cur x6.2.2)] A w := hI.left hdn [(0, ob (.pointer (some ⟨b3, 0, none⟩)) (.box w0.heap.size 108 E_spec_l1Cur x6.2.2))] ⟨rfl, rfl, z8, rfl, rfl, trivial⟩
 replace hA := hI.avok
 clear hI
 refine SG.fin rfl ?_
 refine HT.seq ?_
 refine SG.of ?_
 refine SG.textR [ob (.pointer (some ⟨b3, 0, none⟩)) (.box w0.heap.size 108 E_spec_l1Cur x6.2.2)] (⟨_, true, [], none, true, fun A => .raw u9⟩ :: ⟨_, true, [], none, true, fun A => .raw u10⟩ :: ⟨_, true, [], none, true, fun A => .raw (.pointer (some ⟨b3, 0, none⟩))⟩ :: []) 3 rfl rfl rfl (by kernel_rfl) (by kernel_rfl) (Wf.mk' (by kernel_rfl) (UAll.cons ust_raw (UAll.cons ust_raw (UAll.cons ust_raw (UAll.nil)))) (by kernel_rfl) (by kernel_rfl)) hO hA (trivial) ?_ ?_
 ·exact
   OblsR.p (fun A' R' w' ho hd => of_move ((ho.old 6 rfl).trans h6)) <|
   OblsR.p (fun A' R' w' ho hd => of_move ((ho.old 7 rfl).trans h7)) <|
   OblsR.p (fun A' R' w' ho hd => of_move ((ho.old 5 rfl).trans h5)) <|
   OblsR.nil
 intro done ρ σ A R w hdn hI
 have z11 := hI.inivR 0 rfl
 have h15 : R 15 = u9 := hI.fact hdn (i := 0) rfl rfl rfl
 have h16 : R 16 = u10 := hI.fact hdn (i := 1) rfl rfl rfl
 have h17 : R 17 = (.pointer (some ⟨b3, 0, none⟩)) := hI.fact hdn (i := 2) rfl rfl rfl
 replace f_u10 := f_u10.stp hI.stp
 replace f_u9 := f_u9.stp hI.stp
 replace hAA := hI.low' hAA hA0 (hO.ge (⟨rfl, trivial⟩))
 replace hF : Fr w0 w := hF.tr hI.ch (hO.ge (⟨rfl, trivial⟩))
 replace hO : IniOK [ob (.pointer (some ⟨b3, 0, none⟩)) (.box w0.heap.size 108 E_spec_l1Cur x6.2.2)] A w := hI.left hdn [(0, ob (.pointer (some ⟨b3, 0, none⟩)) (.box w0.heap.size 108 E_spec_l1Cur x6.2.2))] ⟨rfl, rfl, z11, rfl, rfl, trivial⟩
 replace hA := hI.avok
 clear hI
 obtain ⟨x12, q13, hr⟩ := cl_some hr
 have hFz : w0.heap.size ≤ w.heap.size := hF.size
 refine SG.op 18 rfl rfl rfl rfl (call_run Try.call64 (M_spec_l1Below_ok (q13 rfl) hA h17 (hO.sub [(0, ob (.pointer (some ⟨b3, 0, none⟩)) (.box w0.heap.size 108 E_spec_l1Cur x6.2.2))] ⟨rfl, rfl, trivial⟩) rfl)) ?_
 rintro v_ w ⟨A, hG1, hv⟩ R hs hd
 have hst := stp_call hA hG1 (hO.ok 0 _ rfl).2
 replace hAA : ∀ b o, A0 b o → A b o := low_call hAA hA0 (hO.ge (⟨rfl, trivial⟩)) 0 rfl hG1
 replace hF : Fr w0 w := hF.tr hG1.ch (fun k hk => (hO.ge (⟨rfl, trivial⟩)) k ⟨0, _, rfl, hk⟩)
 replace hO := GPost.next hO hA 0 rfl hG1
 replace hA := hG1.avok
 replace hO : IniOK [ob (.pointer (some ⟨b3, 0, none⟩)) (.box w0.heap.size 108 E_spec_l1Cur x12.2)] A w := hO
 replace h15 := (hs 15 rfl).trans h15
 replace h16 := (hs 16 rfl).trans h16
 replace h17 := (hs 17 rfl).trans h17
 replace f_u10 := f_u10.stp hst
 replace f_u9 := f_u9.stp hst
 have h18 : R 18 = .int .i64 x12.1 := hd.trans hv
 clear hFz hG1 hv hs hd
 obtain ⟨e14, hr⟩ := ck_some hr
 refine SG.textR [ob (.pointer (some ⟨b3, 0, none⟩)) (.box w0.heap.size 108 E_spec_l1Cur x12.2)] (⟨_, true, [], none, true, fun A => .raw u9⟩ :: ⟨_, true, [], none, true, fun A => .raw u10⟩ :: ⟨_, true, [], none, true, fun A => .raw (.pointer (some ⟨b3, 0, none⟩))⟩ :: ⟨_, true, [], none, true, fun A => .raw (.int .i64 x12.1)⟩ :: ⟨_, true, [], none, true, fun A => .raw (.int .i64 (x12.1 - (1 : Int)))⟩ :: ⟨_, true, [], none, true, fun A => .raw u9⟩ :: ⟨_, true, [], none, true, fun A => .raw u10⟩ :: ⟨_, true, [], none, true, fun A => .raw (.int .i64 (x12.1 - (1 : Int)))⟩ :: []) 8 rfl rfl rfl (by kernel_rfl) (by kernel_rfl) (Wf.mk' (by kernel_rfl) (UAll.cons ust_raw (UAll.cons ust_raw (UAll.cons ust_raw (UAll.cons ust_raw (UAll.cons ust_raw (UAll.cons ust_raw (UAll.cons ust_raw (UAll.cons ust_raw (UAll.nil))))))))) (by kernel_rfl) (by kernel_rfl)) hO hA (⟨⟨rfl, rfl, rfl, h15⟩, ⟨⟨rfl, rfl, rfl, h16⟩, ⟨⟨rfl, rfl, rfl, h17⟩, ⟨⟨rfl, rfl, rfl, h18⟩, trivial⟩⟩⟩⟩) ?_ ?_
 ·exact
   OblsR.p (fun A' R' w' ho hd => by have a0 : R' 18 = .int .i64 x12.1 := hd.g 0 rfl; exact of_sub a0 rfl e14) <|
   OblsR.p (fun A' R' w' ho hd => by have a0 : R' 15 = u9 := hd.g 0 rfl; exact of_assign a0) <|
   OblsR.p (fun A' R' w' ho hd => by have a0 : R' 16 = u10 := hd.g 0 rfl; exact of_assign a0) <|
   OblsR.p (fun A' R' w' ho hd => by have a0 : R' 19 = .int .i64 (x12.1 - (1 : Int)) := hd.g 0 rfl; exact of_assign a0) <|
   OblsR.nil
 intro done ρ σ A R w hdn hI
 have z15 := hI.inivR 0 rfl
 have h2 : R 2 = u9 := hI.fact hdn (i := 5) rfl rfl rfl
 have h3 : R 3 = u10 := hI.fact hdn (i := 6) rfl rfl rfl
 have h4 : R 4 = .int .i64 (x12.1 - (1 : Int)) := hI.fact hdn (i := 7) rfl rfl rfl
 replace f_u10 := f_u10.stp hI.stp
 replace f_u9 := f_u9.stp hI.stp
 replace hAA := hI.low' hAA hA0 (hO.ge (⟨rfl, trivial⟩))
 replace hF : Fr w0 w := hF.tr hI.ch (hO.ge (⟨rfl, trivial⟩))
 replace hO : IniOK [] A w := hI.left hdn [] trivial
 replace hA := hI.avok
 clear hI
 refine SG.fin rfl ?_
 refine HT.ret ?_
 obtain rfl := Option.some.inj hr
 exact ⟨.inr rfl, [R 2, R 3, R 4], ⟨rfl, ⟨rfl, ⟨rfl, trivial⟩⟩⟩, ⟨_, _, _, rfl, (f_u9.eq h2).down hAA, (f_u10.eq h3).down hAA, h4⟩, hF⟩
def M_impl_LengthFilter (fu : Nat) (p0 : List UInt8) (p1 : List UInt8) (p2 : Int) : Option Bool :=
 ck (i64B ((p0.length : Int) - (p1.length : Int))) <|
 ck (i64B ((p1.length : Int) - (p0.length : Int))) <|
 some (decide ((max ((p0.length : Int) - (p1.length : Int)) ((p1.length : Int) - (p0.length : Int))) ≤ p2))
theorem M_impl_LengthFilter_ok {fu : Nat} {A : Av} {p0 : List UInt8} {p1 : List UInt8} {p2 : Int} {r : Bool} (hr : M_impl_LengthFilter fu p0 p1 p2 = some r) {w : World} {v0 : Value} {v1 : Value} {v2 : Value} (hA : AvOK A w) (h0 : Rep eStr A w v0 p0) (h1 : Rep eStr A w v1 p1) (h2 : v2 = .int .i64 p2) :
  Calls Try.prog 24 #[v0, v1, v2] w fun e w' => ∃ v, e = .returned v ∧ (v = .bool r ∧ Fr w w') := by
 unfold M_impl_LengthFilter at hr
 obtain ⟨w0, hw0⟩ : ∃ w0, w0 = w := ⟨_, rfl⟩
 have hF : Fr w0 w := hw0 ▸ Fr.refl _
 rw [show Fr w = Fr w0 from hw0 ▸ rfl]
 clear hw0
 refine calls_of_HT2 [.tmp 6] Try.func24 Try.ntmps24 (by decide) rfl rfl (Nat.le_of_ble_eq_true rfl) ?_
 intro R hR
 have f_v0 := h0
 replace h0 : R 0 = v0 := hR 0 _ rfl
 have f_v1 := h1
 replace h1 : R 1 = v1 := hR 1 _ rfl
 replace h2 : R 2 = .int .i64 p2 := (hR 2 _ rfl).trans h2
 clear hR
 refine HT.seq ?_
 refine HT.text (l := ⟨_, true, .raw (.bool false)⟩ :: []) (tl := []) (by kernel_rfl) (by kernel_rfl) (by kernel_rfl) ?_ ?_
 ·exact
   Obls.p (fun R' w' hw hs hd => of_assign rfl) <|
   Obls.nil
 intro R w hw hs hF'
 replace h0 := (hs 0 rfl).trans h0
 replace h1 := (hs 1 rfl).trans h1
 replace h2 := (hs 2 rfl).trans h2
 replace f_v0 := f_v0.fr hw
 replace f_v1 := f_v1.fr hw
 replace hA := hA.fr hw.size
 replace hF := hF.trans hw
 clear hs hF' hw
 refine seqR_nil ?_
 refine HT.seq ?_
 obtain ⟨e1, hr⟩ := ck_some hr
 obtain ⟨e2, hr⟩ := ck_some hr
 refine HT.text (l := ⟨_, true, .raw v0⟩ :: ⟨_, true, .raw (.int .i64 (p0.length : Int))⟩ :: ⟨_, true, .raw v1⟩ :: ⟨_, true, .raw (.int .i64 (p1.length : Int))⟩ :: ⟨_, true, .raw (.int .i64 ((p0.length : Int) - (p1.length : Int)))⟩ :: ⟨_, true, .raw v1⟩ :: ⟨_, true, .raw (.int .i64 (p1.length : Int))⟩ :: ⟨_, true, .raw v0⟩ :: ⟨_, true, .raw (.int .i64 (p0.length : Int))⟩ :: ⟨_, true, .raw (.int .i64 ((p1.length : Int) - (p0.length : Int)))⟩ :: ⟨_, true, .raw (.int .i64 (max ((p0.length : Int) - (p1.length : Int)) ((p1.length : Int) - (p0.length : Int))))⟩ :: ⟨_, true, .raw (.int .i64 p2)⟩ :: ⟨_, true, .raw (.bool (decide ((max ((p0.length : Int) - (p1.length : Int)) ((p1.length : Int) - (p0.length : Int))) ≤ p2)))⟩ :: ⟨_, true, .raw (.bool (decide ((max ((p0.length : Int) - (p1.length : Int)) ((p1.length : Int) - (p0.length : Int))) ≤ p2)))⟩ :: []) (tl := []) (by kernel_rfl) (by kernel_rfl) (by kernel_rfl) ?_ ?_
 ·exact
   Obls.p (fun R' w' hw hs hd => of_move ((hs 0 rfl).trans h0)) <|
   Obls.p (fun R' w' hw hs hd => by have a0 : R' 7 = v0 := hd.g 0 rfl; have ra0 := (f_v0.fr hw).eq a0; exact of_len_str ra0 Try.underlying9) <|
   Obls.p (fun R' w' hw hs hd => of_move ((hs 1 rfl).trans h1)) <|
   Obls.p (fun R' w' hw hs hd => by have a0 : R' 9 = v1 := hd.g 0 rfl; have ra0 := (f_v1.fr hw).eq a0; exact of_len_str ra0 Try.underlying9) <|
   Obls.p (fun R' w' hw hs hd => by have a0 : R' 8 = .int .i64 (p0.length : Int) := hd.g 0 rfl; have a1 : R' 10 = .int .i64 (p1.length : Int) := hd.g 1 rfl; exact of_sub a0 a1 e1) <|
   Obls.p (fun R' w' hw hs hd => of_move ((hs 1 rfl).trans h1)) <|
   Obls.p (fun R' w' hw hs hd => by have a0 : R' 12 = v1 := hd.g 0 rfl; have ra0 := (f_v1.fr hw).eq a0; exact of_len_str ra0 Try.underlying9) <|
   Obls.p (fun R' w' hw hs hd => of_move ((hs 0 rfl).trans h0)) <|
   Obls.p (fun R' w' hw hs hd => by have a0 : R' 14 = v0 := hd.g 0 rfl; have ra0 := (f_v0.fr hw).eq a0; exact of_len_str ra0 Try.underlying9) <|
   Obls.p (fun R' w' hw hs hd => by have a0 : R' 13 = .int .i64 (p1.length : Int) := hd.g 0 rfl; have a1 : R' 15 = .int .i64 (p0.length : Int) := hd.g 1 rfl; exact of_sub a0 a1 e2) <|
   Obls.p (fun R' w' hw hs hd => by have a0 : R' 11 = .int .i64 ((p0.length : Int) - (p1.length : Int)) := hd.g 0 rfl; have a1 : R' 16 = .int .i64 ((p1.length : Int) - (p0.length : Int)) := hd.g 1 rfl; exact of_max2 a0 a1) <|
   Obls.p (fun R' w' hw hs hd => of_move ((hs 2 rfl).trans h2)) <|
   Obls.p (fun R' w' hw hs hd => by have a0 : R' 17 = .int .i64 (max ((p0.length : Int) - (p1.length : Int)) ((p1.length : Int) - (p0.length : Int))) := hd.g 0 rfl; have a1 : R' 18 = .int .i64 p2 := hd.g 1 rfl; exact of_leq a0 a1) <|
   Obls.p (fun R' w' hw hs hd => by have a0 : R' 19 = .bool (decide ((max ((p0.length : Int) - (p1.length : Int)) ((p1.length : Int) - (p0.length : Int))) ≤ p2)) := hd.g 0 rfl; exact of_assign a0) <|
   Obls.nil
 intro R w hw hs hF'
 have h6 : R 6 = .bool (decide ((max ((p0.length : Int) - (p1.length : Int)) ((p1.length : Int) - (p0.length : Int))) ≤ p2)) := hF' 13 _ _ rfl rfl rfl
 replace hA := hA.fr hw.size
 replace hF := hF.trans hw
 clear hs hF' hw
 refine seqR_nil ?_
 refine HT.ret ?_
 obtain rfl := Option.some.inj hr
 exact ⟨.inr rfl, [R 6], ⟨rfl, trivial⟩, h6, hF⟩
def M_impl_within (fu : Nat) (p0 : Int) (p1 : Int) (p2 : Int) : Option Bool :=
 bd ((decide (p1 ≤ p0)) && (decide (p0 ≤ p2))) fun x1 =>
 some x1
theorem M_impl_within_ok {fu : Nat} {A : Av} {p0 : Int} {p1 : Int} {p2 : Int} {r : Bool} (hr : M_impl_within fu p0 p1 p2 = some r) {w : World} {v0 : Value} {v1 : Value} {v2 : Value} (hA : AvOK A w) (h0 : v0 = .int .i64 p0) (h1 : v1 = .int .i64 p1) (h2 : v2 = .int .i64 p2) :
  Calls Try.prog 69 #[v0, v1, v2] w fun e w' => ∃ v, e = .returned v ∧ (v = .bool r ∧ Fr w w') := by
 unfold M_impl_within at hr
 obtain ⟨w0, hw0⟩ : ∃ w0, w0 = w := ⟨_, rfl⟩
 have hF : Fr w0 w := hw0 ▸ Fr.refl _
 rw [show Fr w = Fr w0 from hw0 ▸ rfl]
 clear hw0
 refine calls_of_HT2 [.tmp 6] Try.func69 Try.ntmps69 (by decide) rfl rfl (Nat.le_of_ble_eq_true rfl) ?_
 intro R hR
 replace h0 : R 0 = .int .i64 p0 := (hR 0 _ rfl).trans h0
 replace h1 : R 1 = .int .i64 p1 := (hR 1 _ rfl).trans h1
 replace h2 : R 2 = .int .i64 p2 := (hR 2 _ rfl).trans h2
 clear hR
 refine HT.seq ?_
 refine HT.text (l := ⟨_, true, .raw (.bool false)⟩ :: []) (tl := []) (by kernel_rfl) (by kernel_rfl) (by kernel_rfl) ?_ ?_
 ·exact
   Obls.p (fun R' w' hw hs hd => of_assign rfl) <|
   Obls.nil
 intro R w hw hs hF'
 replace h0 := (hs 0 rfl).trans h0
 replace h1 := (hs 1 rfl).trans h1
 replace h2 := (hs 2 rfl).trans h2
 replace hA := hA.fr hw.size
 replace hF := hF.trans hw
 clear hs hF' hw
 refine seqR_nil ?_
 refine HT.seq ?_
 obtain ⟨x1, q2, hr⟩ := bd_some hr
 refine HT.text (l := ⟨_, true, .raw (.int .i64 p0)⟩ :: ⟨_, true, .raw (.int .i64 p1)⟩ :: ⟨_, true, .raw (.bool (decide (p1 ≤ p0)))⟩ :: ⟨_, true, .raw (.bool (decide (p1 ≤ p0)))⟩ :: ⟨_, (true && ((decide (p1 ≤ p0)) == true)), .raw (.int .i64 p0)⟩ :: ⟨_, (true && ((decide (p1 ≤ p0)) == true)), .raw (.int .i64 p2)⟩ :: ⟨_, (true && ((decide (p1 ≤ p0)) == true)), .raw (.bool (decide (p0 ≤ p2)))⟩ :: ⟨_, true, .raw (.bool x1)⟩ :: ⟨_, true, .raw (.bool x1)⟩ :: []) (tl := []) (by kernel_rfl) (by kernel_rfl) (by kernel_rfl) ?_ ?_
 ·exact
   Obls.p (fun R' w' hw hs hd => of_move ((hs 0 rfl).trans h0)) <|
   Obls.p (fun R' w' hw hs hd => of_move ((hs 1 rfl).trans h1)) <|
   Obls.p (fun R' w' hw hs hd => by have a0 : R' 7 = .int .i64 p0 := hd.g 0 rfl; have a1 : R' 8 = .int .i64 p1 := hd.g 1 rfl; exact of_geq a0 a1) <|
   Obls.p (fun R' w' hw hs hd => by have a0 : R' 9 = .bool (decide (p1 ≤ p0)) := hd.g 0 rfl; exact of_move a0) <|
   Obls.cons (Obl.grd 3 true _ _ _ rfl rfl rfl rfl rfl (by kernel_rfl) fun hg R' w' hw hs hd => by have a0 : R' 0 = .int .i64 p0 := (hs 0 rfl).trans h0; exact of_move a0) <|
   Obls.cons (Obl.grd 3 true _ _ _ rfl rfl rfl rfl rfl (by kernel_rfl) fun hg R' w' hw hs hd => by have a0 : R' 2 = .int .i64 p2 := (hs 2 rfl).trans h2; exact of_move a0) <|
   Obls.cons (Obl.grd 3 true _ _ _ rfl rfl rfl rfl rfl (by kernel_rfl) fun hg R' w' hw hs hd => by have a0 : R' 11 = .int .i64 p0 := hd 0 _ _ _ rfl rfl rfl rfl hg; have a1 : R' 12 = .int .i64 p2 := hd 1 _ _ _ rfl rfl rfl rfl hg; exact of_leq a0 a1) <|
   Obls.p (fun R' w' hw hs hd => by have a0 : R' 10 = .bool (decide (p1 ≤ p0)) := hd.g 0 rfl; exact of_pick (decide (p1 ≤ p0)) a0 (fun hc => by have a1 : R' 13 = .bool (decide (p0 ≤ p2)) := hd 1 _ _ _ rfl rfl rfl rfl (g_and rfl (beq_of hc)); show _ = Value.bool x1; rw [q2, hc]; exact a1) (fun hc => by show _ = Value.bool x1; rw [q2, hc]; exact rfl)) <|
   Obls.p (fun R' w' hw hs hd => by have a0 : R' 14 = .bool x1 := hd.g 0 rfl; exact of_assign a0) <|
   Obls.nil
 intro R w hw hs hF'
 have h6 : R 6 = .bool x1 := hF' 8 _ _ rfl rfl rfl
 replace hA := hA.fr hw.size
 replace hF := hF.trans hw
 clear hs hF' hw
 refine seqR_nil ?_
 refine HT.ret ?_
 obtain rfl := Option.some.inj hr
 exact ⟨.inr rfl, [R 6], ⟨rfl, trivial⟩, h6, hF⟩
end Go.Proofs.Ytofiipblinonoaa
