/- Printed by dec.py: plain functions and the proofs that the code computes them. No statement of the seat is proved here. -/
import Derived.Test.YtofiipblinonoaaE2
namespace Go.Proofs.Ytofiipblinonoaa
open Go.RowKit
set_option linter.unusedVariables false
def M_impl_distances_L1 (fu : Nat) (p0 : List UInt8) (p1 : List UInt8) (p2 : Bool) (y8 : Int) (y9 : List (List Int)) : Nat → Int → (List (List Int)) → Option (List (List Int))
  | 0, _, _ => none
  | k + 1, y23, y24 =>
    bif (decide (y23 < ((gtD (y9.set y8.toNat (List.replicate ((p1.length : Int) + (1 : Int)).toNat (0 : Int))) y8).length : Int))) then (
      bif (y8 == (0 : Int)) then (
        ck (inR y8 y24.length) <|
        ck (inR y23 (gtD y24 y8).length) <|
        ck (i64B (y23 + (1 : Int))) <|
        M_impl_distances_L1 fu p0 p1 p2 y8 y9 k (y23 + (1 : Int)) (y24.set y8.toNat ((gtD y24 y8).set y23.toNat y23))
      ) else (
        bif (y23 == (0 : Int)) then (
          ck (inR y8 y24.length) <|
          ck (inR y23 (gtD y24 y8).length) <|
          ck (i64B (y23 + (1 : Int))) <|
          M_impl_distances_L1 fu p0 p1 p2 y8 y9 k (y23 + (1 : Int)) (y24.set y8.toNat ((gtD y24 y8).set y23.toNat y8))
        ) else (
          ck (i64B (y8 - (1 : Int))) <|
          ck (inR (y8 - (1 : Int)) p0.length) <|
          ck (i64B (y23 - (1 : Int))) <|
          ck (inR (y23 - (1 : Int)) p1.length) <|
          bif ((bAt p0 (y8 - (1 : Int))) == (bAt p1 (y23 - (1 : Int)))) then (
            ck (inR y8 y24.length) <|
            ck (i64B (y8 - (1 : Int))) <|
            ck (inR (y8 - (1 : Int)) y24.length) <|
            ck (inR y23 (gtD y24 (y8 - (1 : Int))).length) <|
            ck (i64B ((gtD (gtD y24 (y8 - (1 : Int))) y23) + (1 : Int))) <|
            ck (inR y8 y24.length) <|
            ck (i64B (y23 - (1 : Int))) <|
            ck (inR (y23 - (1 : Int)) (gtD y24 y8).length) <|
            ck (i64B ((gtD (gtD y24 y8) (y23 - (1 : Int))) + (1 : Int))) <|
            ck (i64B (y8 - (1 : Int))) <|
            ck (inR (y8 - (1 : Int)) y24.length) <|
            ck (i64B (y23 - (1 : Int))) <|
            ck (inR (y23 - (1 : Int)) (gtD y24 (y8 - (1 : Int))).length) <|
            ck (i64B ((gtD (gtD y24 (y8 - (1 : Int))) (y23 - (1 : Int))) + (0 : Int))) <|
            ck (inR y23 (gtD y24 y8).length) <|
            bd (p2 && (decide ((1 : Int) < y8))) fun x75 =>
            bd (x75 && (decide ((1 : Int) < y23))) fun x77 =>
            ck (!(true && (x77 == true)) || i64B (y8 - (1 : Int))) <|
            ck (!(true && (x77 == true)) || inR (y8 - (1 : Int)) p0.length) <|
            ck (!(true && (x77 == true)) || i64B (y23 - (2 : Int))) <|
            ck (!(true && (x77 == true)) || inR (y23 - (2 : Int)) p1.length) <|
            bd (x77 && ((bAt p0 (y8 - (1 : Int))) == (bAt p1 (y23 - (2 : Int))))) fun x83 =>
            ck (!(true && (x83 == true)) || i64B (y8 - (2 : Int))) <|
            ck (!(true && (x83 == true)) || inR (y8 - (2 : Int)) p0.length) <|
            ck (!(true && (x83 == true)) || i64B (y23 - (1 : Int))) <|
            ck (!(true && (x83 == true)) || inR (y23 - (1 : Int)) p1.length) <|
            bd (x83 && ((bAt p0 (y8 - (2 : Int))) == (bAt p1 (y23 - (1 : Int))))) fun x89 =>
            bif x89 then (
              ck (inR y8 (y24.set y8.toNat ((gtD y24 y8).set y23.toNat (min (min ((gtD (gtD y24 (y8 - (1 : Int))) y23) + (1 : Int)) ((gtD (gtD y24 y8) (y23 - (1 : Int))) + (1 : Int))) ((gtD (gtD y24 (y8 - (1 : Int))) (y23 - (1 : Int))) + (0 : Int))))).length) <|
              ck (inR y8 (y24.set y8.toNat ((gtD y24 y8).set y23.toNat (min (min ((gtD (gtD y24 (y8 - (1 : Int))) y23) + (1 : Int)) ((gtD (gtD y24 y8) (y23 - (1 : Int))) + (1 : Int))) ((gtD (gtD y24 (y8 - (1 : Int))) (y23 - (1 : Int))) + (0 : Int))))).length) <|
              ck (inR y23 (gtD (y24.set y8.toNat ((gtD y24 y8).set y23.toNat (min (min ((gtD (gtD y24 (y8 - (1 : Int))) y23) + (1 : Int)) ((gtD (gtD y24 y8) (y23 - (1 : Int))) + (1 : Int))) ((gtD (gtD y24 (y8 - (1 : Int))) (y23 - (1 : Int))) + (0 : Int))))) y8).length) <|
              ck (i64B (y8 - (2 : Int))) <|
              ck (inR (y8 - (2 : Int)) (y24.set y8.toNat ((gtD y24 y8).set y23.toNat (min (min ((gtD (gtD y24 (y8 - (1 : Int))) y23) + (1 : Int)) ((gtD (gtD y24 y8) (y23 - (1 : Int))) + (1 : Int))) ((gtD (gtD y24 (y8 - (1 : Int))) (y23 - (1 : Int))) + (0 : Int))))).length) <|
              ck (i64B (y23 - (2 : Int))) <|
              ck (inR (y23 - (2 : Int)) (gtD (y24.set y8.toNat ((gtD y24 y8).set y23.toNat (min (min ((gtD (gtD y24 (y8 - (1 : Int))) y23) + (1 : Int)) ((gtD (gtD y24 y8) (y23 - (1 : Int))) + (1 : Int))) ((gtD (gtD y24 (y8 - (1 : Int))) (y23 - (1 : Int))) + (0 : Int))))) (y8 - (2 : Int))).length) <|
              ck (i64B ((gtD (gtD (y24.set y8.toNat ((gtD y24 y8).set y23.toNat (min (min ((gtD (gtD y24 (y8 - (1 : Int))) y23) + (1 : Int)) ((gtD (gtD y24 y8) (y23 - (1 : Int))) + (1 : Int))) ((gtD (gtD y24 (y8 - (1 : Int))) (y23 - (1 : Int))) + (0 : Int))))) (y8 - (2 : Int))) (y23 - (2 : Int))) + (1 : Int))) <|
              ck (inR y23 (gtD (y24.set y8.toNat ((gtD y24 y8).set y23.toNat (min (min ((gtD (gtD y24 (y8 - (1 : Int))) y23) + (1 : Int)) ((gtD (gtD y24 y8) (y23 - (1 : Int))) + (1 : Int))) ((gtD (gtD y24 (y8 - (1 : Int))) (y23 - (1 : Int))) + (0 : Int))))) y8).length) <|
              ck (i64B (y23 + (1 : Int))) <|
              M_impl_distances_L1 fu p0 p1 p2 y8 y9 k (y23 + (1 : Int)) ((y24.set y8.toNat ((gtD y24 y8).set y23.toNat (min (min ((gtD (gtD y24 (y8 - (1 : Int))) y23) + (1 : Int)) ((gtD (gtD y24 y8) (y23 - (1 : Int))) + (1 : Int))) ((gtD (gtD y24 (y8 - (1 : Int))) (y23 - (1 : Int))) + (0 : Int))))).set y8.toNat ((gtD (y24.set y8.toNat ((gtD y24 y8).set y23.toNat (min (min ((gtD (gtD y24 (y8 - (1 : Int))) y23) + (1 : Int)) ((gtD (gtD y24 y8) (y23 - (1 : Int))) + (1 : Int))) ((gtD (gtD y24 (y8 - (1 : Int))) (y23 - (1 : Int))) + (0 : Int))))) y8).set y23.toNat (min (gtD (gtD (y24.set y8.toNat ((gtD y24 y8).set y23.toNat (min (min ((gtD (gtD y24 (y8 - (1 : Int))) y23) + (1 : Int)) ((gtD (gtD y24 y8) (y23 - (1 : Int))) + (1 : Int))) ((gtD (gtD y24 (y8 - (1 : Int))) (y23 - (1 : Int))) + (0 : Int))))) y8) y23) ((gtD (gtD (y24.set y8.toNat ((gtD y24 y8).set y23.toNat (min (min ((gtD (gtD y24 (y8 - (1 : Int))) y23) + (1 : Int)) ((gtD (gtD y24 y8) (y23 - (1 : Int))) + (1 : Int))) ((gtD (gtD y24 (y8 - (1 : Int))) (y23 - (1 : Int))) + (0 : Int))))) (y8 - (2 : Int))) (y23 - (2 : Int))) + (1 : Int)))))
            ) else (
              ck (i64B (y23 + (1 : Int))) <|
              M_impl_distances_L1 fu p0 p1 p2 y8 y9 k (y23 + (1 : Int)) (y24.set y8.toNat ((gtD y24 y8).set y23.toNat (min (min ((gtD (gtD y24 (y8 - (1 : Int))) y23) + (1 : Int)) ((gtD (gtD y24 y8) (y23 - (1 : Int))) + (1 : Int))) ((gtD (gtD y24 (y8 - (1 : Int))) (y23 - (1 : Int))) + (0 : Int)))))
            )
          ) else (
            ck (inR y8 y24.length) <|
            ck (i64B (y8 - (1 : Int))) <|
            ck (inR (y8 - (1 : Int)) y24.length) <|
            ck (inR y23 (gtD y24 (y8 - (1 : Int))).length) <|
            ck (i64B ((gtD (gtD y24 (y8 - (1 : Int))) y23) + (1 : Int))) <|
            ck (inR y8 y24.length) <|
            ck (i64B (y23 - (1 : Int))) <|
            ck (inR (y23 - (1 : Int)) (gtD y24 y8).length) <|
            ck (i64B ((gtD (gtD y24 y8) (y23 - (1 : Int))) + (1 : Int))) <|
            ck (i64B (y8 - (1 : Int))) <|
            ck (inR (y8 - (1 : Int)) y24.length) <|
            ck (i64B (y23 - (1 : Int))) <|
            ck (inR (y23 - (1 : Int)) (gtD y24 (y8 - (1 : Int))).length) <|
            ck (i64B ((gtD (gtD y24 (y8 - (1 : Int))) (y23 - (1 : Int))) + (1 : Int))) <|
            ck (inR y23 (gtD y24 y8).length) <|
            bd (p2 && (decide ((1 : Int) < y8))) fun x138 =>
            bd (x138 && (decide ((1 : Int) < y23))) fun x140 =>
            ck (!(true && (x140 == true)) || i64B (y8 - (1 : Int))) <|
            ck (!(true && (x140 == true)) || inR (y8 - (1 : Int)) p0.length) <|
            ck (!(true && (x140 == true)) || i64B (y23 - (2 : Int))) <|
            ck (!(true && (x140 == true)) || inR (y23 - (2 : Int)) p1.length) <|
            bd (x140 && ((bAt p0 (y8 - (1 : Int))) == (bAt p1 (y23 - (2 : Int))))) fun x146 =>
            ck (!(true && (x146 == true)) || i64B (y8 - (2 : Int))) <|
            ck (!(true && (x146 == true)) || inR (y8 - (2 : Int)) p0.length) <|
            ck (!(true && (x146 == true)) || i64B (y23 - (1 : Int))) <|
            ck (!(true && (x146 == true)) || inR (y23 - (1 : Int)) p1.length) <|
            bd (x146 && ((bAt p0 (y8 - (2 : Int))) == (bAt p1 (y23 - (1 : Int))))) fun x152 =>
            bif x152 then (
              ck (inR y8 (y24.set y8.toNat ((gtD y24 y8).set y23.toNat (min (min ((gtD (gtD y24 (y8 - (1 : Int))) y23) + (1 : Int)) ((gtD (gtD y24 y8) (y23 - (1 : Int))) + (1 : Int))) ((gtD (gtD y24 (y8 - (1 : Int))) (y23 - (1 : Int))) + (1 : Int))))).length) <|
              ck (inR y8 (y24.set y8.toNat ((gtD y24 y8).set y23.toNat (min (min ((gtD (gtD y24 (y8 - (1 : Int))) y23) + (1 : Int)) ((gtD (gtD y24 y8) (y23 - (1 : Int))) + (1 : Int))) ((gtD (gtD y24 (y8 - (1 : Int))) (y23 - (1 : Int))) + (1 : Int))))).length) <|
              ck (inR y23 (gtD (y24.set y8.toNat ((gtD y24 y8).set y23.toNat (min (min ((gtD (gtD y24 (y8 - (1 : Int))) y23) + (1 : Int)) ((gtD (gtD y24 y8) (y23 - (1 : Int))) + (1 : Int))) ((gtD (gtD y24 (y8 - (1 : Int))) (y23 - (1 : Int))) + (1 : Int))))) y8).length) <|
              ck (i64B (y8 - (2 : Int))) <|
              ck (inR (y8 - (2 : Int)) (y24.set y8.toNat ((gtD y24 y8).set y23.toNat (min (min ((gtD (gtD y24 (y8 - (1 : Int))) y23) + (1 : Int)) ((gtD (gtD y24 y8) (y23 - (1 : Int))) + (1 : Int))) ((gtD (gtD y24 (y8 - (1 : Int))) (y23 - (1 : Int))) + (1 : Int))))).length) <|
              ck (i64B (y23 - (2 : Int))) <|
              ck (inR (y23 - (2 : Int)) (gtD (y24.set y8.toNat ((gtD y24 y8).set y23.toNat (min (min ((gtD (gtD y24 (y8 - (1 : Int))) y23) + (1 : Int)) ((gtD (gtD y24 y8) (y23 - (1 : Int))) + (1 : Int))) ((gtD (gtD y24 (y8 - (1 : Int))) (y23 - (1 : Int))) + (1 : Int))))) (y8 - (2 : Int))).length) <|
              ck (i64B ((gtD (gtD (y24.set y8.toNat ((gtD y24 y8).set y23.toNat (min (min ((gtD (gtD y24 (y8 - (1 : Int))) y23) + (1 : Int)) ((gtD (gtD y24 y8) (y23 - (1 : Int))) + (1 : Int))) ((gtD (gtD y24 (y8 - (1 : Int))) (y23 - (1 : Int))) + (1 : Int))))) (y8 - (2 : Int))) (y23 - (2 : Int))) + (1 : Int))) <|
              ck (inR y23 (gtD (y24.set y8.toNat ((gtD y24 y8).set y23.toNat (min (min ((gtD (gtD y24 (y8 - (1 : Int))) y23) + (1 : Int)) ((gtD (gtD y24 y8) (y23 - (1 : Int))) + (1 : Int))) ((gtD (gtD y24 (y8 - (1 : Int))) (y23 - (1 : Int))) + (1 : Int))))) y8).length) <|
              ck (i64B (y23 + (1 : Int))) <|
              M_impl_distances_L1 fu p0 p1 p2 y8 y9 k (y23 + (1 : Int)) ((y24.set y8.toNat ((gtD y24 y8).set y23.toNat (min (min ((gtD (gtD y24 (y8 - (1 : Int))) y23) + (1 : Int)) ((gtD (gtD y24 y8) (y23 - (1 : Int))) + (1 : Int))) ((gtD (gtD y24 (y8 - (1 : Int))) (y23 - (1 : Int))) + (1 : Int))))).set y8.toNat ((gtD (y24.set y8.toNat ((gtD y24 y8).set y23.toNat (min (min ((gtD (gtD y24 (y8 - (1 : Int))) y23) + (1 : Int)) ((gtD (gtD y24 y8) (y23 - (1 : Int))) + (1 : Int))) ((gtD (gtD y24 (y8 - (1 : Int))) (y23 - (1 : Int))) + (1 : Int))))) y8).set y23.toNat (min (gtD (gtD (y24.set y8.toNat ((gtD y24 y8).set y23.toNat (min (min ((gtD (gtD y24 (y8 - (1 : Int))) y23) + (1 : Int)) ((gtD (gtD y24 y8) (y23 - (1 : Int))) + (1 : Int))) ((gtD (gtD y24 (y8 - (1 : Int))) (y23 - (1 : Int))) + (1 : Int))))) y8) y23) ((gtD (gtD (y24.set y8.toNat ((gtD y24 y8).set y23.toNat (min (min ((gtD (gtD y24 (y8 - (1 : Int))) y23) + (1 : Int)) ((gtD (gtD y24 y8) (y23 - (1 : Int))) + (1 : Int))) ((gtD (gtD y24 (y8 - (1 : Int))) (y23 - (1 : Int))) + (1 : Int))))) (y8 - (2 : Int))) (y23 - (2 : Int))) + (1 : Int)))))
            ) else (
              ck (i64B (y23 + (1 : Int))) <|
              M_impl_distances_L1 fu p0 p1 p2 y8 y9 k (y23 + (1 : Int)) (y24.set y8.toNat ((gtD y24 y8).set y23.toNat (min (min ((gtD (gtD y24 (y8 - (1 : Int))) y23) + (1 : Int)) ((gtD (gtD y24 y8) (y23 - (1 : Int))) + (1 : Int))) ((gtD (gtD y24 (y8 - (1 : Int))) (y23 - (1 : Int))) + (1 : Int)))))
            )
          )
        )
      )
    ) else (
      some y24
    )
def M_impl_distances_L0 (fu : Nat) (p0 : List UInt8) (p1 : List UInt8) (p2 : Bool) : Nat → Int → (List (List Int)) → Option (List (List Int))
  | 0, _, _ => none
  | k + 1, y8, y9 =>
    bif (decide (y8 < ((List.replicate ((p0.length : Int) + (1 : Int)).toNat ([] : List Int)).length : Int))) then (
      ck (i64B ((p1.length : Int) + (1 : Int))) <|
      ck (mkOK ((p1.length : Int) + (1 : Int))) <|
      ck (inR y8 y9.length) <|
      ck (inR y8 (y9.set y8.toNat (List.replicate ((p1.length : Int) + (1 : Int)).toNat (0 : Int))).length) <|
      cl true (M_impl_distances_L1 fu p0 p1 p2 y8 y9 fu (0 : Int) (y9.set y8.toNat (List.replicate ((p1.length : Int) + (1 : Int)).toNat (0 : Int)))) fun s22 =>
      ck (i64B (y8 + (1 : Int))) <|
      M_impl_distances_L0 fu p0 p1 p2 k (y8 + (1 : Int)) s22
    ) else (
      some y9
    )
def M_impl_distances (fu : Nat) (p0 : List UInt8) (p1 : List UInt8) (p2 : Bool) : Option (List (List Int)) :=
  ck (i64B ((p0.length : Int) + (1 : Int))) <|
  ck (mkOK ((p0.length : Int) + (1 : Int))) <|
  cl true (M_impl_distances_L0 fu p0 p1 p2 fu (0 : Int) (List.replicate ((p0.length : Int) + (1 : Int)).toNat ([] : List Int))) fun s7 =>
  some s7
set_option maxRecDepth 100000 in
set_option maxHeartbeats 4000000 in
theorem M_impl_distances_ok {fu : Nat} {A0 : Av} {p0 : List UInt8} {p1 : List UInt8} {p2 : Bool} {r : List (List Int)} (hr : M_impl_distances fu p0 p1 p2 = some r) {w : World} {v0 : Value} {v1 : Value} {v2 : Value} (hA : AvOK A0 w) (h0 : Rep eStr A0 w v0 p0) (h1 : Rep eStr A0 w v1 p1) (h2 : v2 = .bool p2) :
    Calls Try.prog 161 #[v0, v1, v2] w fun e w' => ∃ v, e = .returned v ∧ (MadeS A0 (trR (geB w.heap.size) (oSl 24 (oSl 3 (oRd (eInt .i64)))) r []) (fun _ => .any) w v w') := by
  unfold M_impl_distances at hr
  obtain ⟨w0, hw0⟩ : ∃ w0, w0 = w := ⟨_, rfl⟩
  have hF : Fr w0 w := hw0 ▸ Fr.refl _
  have hA0 : ∀ b o, A0 b o → b < w0.heap.size := fun b o h => hw0 ▸ hA b o h
  have hA00 : AvOK A0 w0 := hA0
  rw [show MadeS A0 (trR (geB w.heap.size) (oSl 24 (oSl 3 (oRd (eInt .i64)))) r []) (fun _ => .any) w = MadeS A0 (trR (geB w0.heap.size) (oSl 24 (oSl 3 (oRd (eInt .i64)))) r []) (fun _ => .any) w0 from hw0 ▸ rfl]
  clear hw0
  obtain ⟨A, hAe⟩ : ∃ A, A = A0 := ⟨_, rfl⟩
  have hAA : ∀ b o, A0 b o → A b o := fun b o h => hAe ▸ h
  replace hA : AvOK A w := hAe ▸ hA
  have hO : IniOK [] A w := IniOK.nil
  refine calls_of_HT2 [.tmp 6] Try.func161 Try.ntmps161 (by decide) rfl rfl (Nat.le_of_ble_eq_true rfl) ?_
  intro R hR
  have f_v0 : Rep eStr A w v0 p0 := hAe ▸ h0
  replace h0 : R 0 = v0 := hR 0 _ rfl
  have f_v1 : Rep eStr A w v1 p1 := hAe ▸ h1
  replace h1 : R 1 = v1 := hR 1 _ rfl
  replace h2 : R 2 = .bool p2 := (hR 2 _ rfl).trans h2
  clear hR hAe
  refine HT.seq ?_
  refine HT.text (l := ⟨_, true, .any⟩ :: []) (tl := []) (by kernel_rfl) (by kernel_rfl) (by kernel_rfl) ?_ ?_
  · exact
      Obls.cons (Obl.plain rfl rfl fun R' w' hw hs hd => by exact of_assign trivial) <|
      Obls.nil
  intro R w hw hs hF'
  replace h0 : R 0 = v0 := (hs 0 rfl).trans h0
  replace h1 : R 1 = v1 := (hs 1 rfl).trans h1
  replace h2 : R 2 = .bool p2 := (hs 2 rfl).trans h2
  replace f_v0 := f_v0.fr hw
  replace f_v1 := f_v1.fr hw
  replace hO := hO.fr hw
  replace hA := hA.fr hw.size
  replace hF := hF.trans hw
  clear hs hF' hw
  refine seqR_nil ?_
  refine HT.seq ?_
  obtain ⟨e1, hr⟩ := ck_some hr
  obtain ⟨e2, hr⟩ := ck_some hr
  refine HT.textR [] (⟨_, true, [], none, true, fun A => .raw v0⟩ :: ⟨_, true, [], none, true, fun A => .raw (.int .i64 (p0.length : Int))⟩ :: ⟨_, true, [], none, true, fun A => .raw (.int .i64 ((p0.length : Int) + (1 : Int)))⟩ :: ⟨_, true, [], some (trR (geB w0.heap.size) (oSl 24 (oSl 3 (oRd (eInt .i64)))) (List.replicate ((p0.length : Int) + (1 : Int)).toNat ([] : List Int)) []), true, fun A => .any⟩ :: ⟨_, true, [3], some (trR (geB w0.heap.size) (oSl 24 (oSl 3 (oRd (eInt .i64)))) (List.replicate ((p0.length : Int) + (1 : Int)).toNat ([] : List Int)) []), true, fun A => .any⟩ :: []) (by kernel_rfl) (by kernel_rfl) (Wf.mk' (by kernel_rfl) (UAll.cons ust_raw (UAll.cons ust_raw (UAll.cons ust_raw (UAll.cons ust_any (UAll.cons ust_any (UAll.nil)))))) (by kernel_rfl) (by kernel_rfl)) hO hA ?_ ?_
  · exact
      OblsR.cons (OblR.plain rfl rfl rfl rfl fun A' R' w' ho hd => by have a0 : R' 0 = v0 := (ho.old 0 rfl).trans h0; exact of_move a0) <|
      OblsR.cons (OblR.plain rfl rfl rfl rfl fun A' R' w' ho hd => by have a0 : R' 11 = v0 := hd 0 _ _ _ rfl rfl rfl rfl rfl; have ra0 := (f_v0.stp ho.stp).eq a0; exact of_len_str ra0 Try.underlying9) <|
      OblsR.cons (OblR.plain rfl rfl rfl rfl fun A' R' w' ho hd => by have a0 : R' 12 = .int .i64 (p0.length : Int) := hd 0 _ _ _ rfl rfl rfl rfl rfl; exact of_add a0 rfl e1) <|
      OblsR.cons (OblR.madeS _ rfl rfl rfl rfl fun A' R' w' ho hd => by have a0 : R' 13 = .int .i64 ((p0.length : Int) + (1 : Int)) := hd 0 _ _ _ rfl rfl rfl rfl rfl; have a1 : R' 13 = .int .i64 ((p0.length : Int) + (1 : Int)) := hd 0 _ _ _ rfl rfl rfl rfl rfl; exact made_makeT a0 a1 e2 Try.underlying75 el_24 Try.zeroValue24 (fun A w => own_nil) (fun k hk => Nat.le_trans (Nat.le_trans hF.size ho.ch.size) hk)) <|
      OblsR.cons (OblR.tookS 3 _ _ rfl rfl rfl rfl rfl fun A' R' w' ho hd u S hok hown hav hin hop hds => by exact took_assignT (hop _ _ rfl rfl rfl rfl).symm (trP.nopin hown.2) hav hown.1) <|
      OblsR.nil
  intro done ρ σ A R w hdn hI
  replace h0 : R 0 = v0 := (hI.reg rfl).trans h0
  replace h1 : R 1 = v1 := (hI.reg rfl).trans h1
  replace h2 : R 2 = .bool p2 := (hI.reg rfl).trans h2
  obtain ⟨u3, e_u3⟩ : ∃ u, ρ 4 = u := ⟨_, rfl⟩
  have h7 : R 7 = u3 := (hI.opvR hdn 4 4 rfl rfl rfl rfl rfl).symm.trans e_u3
  obtain ⟨S4, eS_u3⟩ : ∃ S, σ 4 = S := ⟨_, rfl⟩
  replace f_v0 := f_v0.stp hI.stp
  replace f_v1 := f_v1.stp hI.stp
  replace hAA := hI.low' hAA hA0 (hO.ge (trivial))
  replace hF : Fr w0 w := hF.tr hI.ch (hO.ge (trivial))
  replace hO : IniOK [⟨u3, S4, trR (geB w0.heap.size) (oSl 24 (oSl 3 (oRd (eInt .i64)))) (List.replicate ((p0.length : Int) + (1 : Int)).toNat ([] : List Int)) []⟩] A w := hI.left hdn [(4, ⟨u3, S4, trR (geB w0.heap.size) (oSl 24 (oSl 3 (oRd (eInt .i64)))) (List.replicate ((p0.length : Int) + (1 : Int)).toNat ([] : List Int)) []⟩)] ⟨rfl, rfl, e_u3, eS_u3, rfl, trivial⟩
  replace hA := hI.avok
  clear hI
  refine HT.seq ?_
  refine HT.seq ?_
  refine HT.text (l := ⟨_, true, .raw u3⟩ :: ⟨_, true, .raw (.int .i64 ((List.replicate ((p0.length : Int) + (1 : Int)).toNat ([] : List Int)).length : Int))⟩ :: ⟨_, true, .raw (.int .i64 (0 : Int))⟩ :: []) (tl := []) (by kernel_rfl) (by kernel_rfl) (by kernel_rfl) ?_ ?_
  · exact
      Obls.cons (Obl.plain rfl rfl fun R' w' hw hs hd => by have a0 : R' 7 = u3 := (hs 7 rfl).trans h7; exact of_move a0) <|
      Obls.cons (Obl.plain rfl rfl fun R' w' hw hs hd => by have a0 : R' 15 = u3 := hd 0 _ _ _ rfl rfl rfl rfl rfl; exact of_len_tr (tr_root (hO.own 0 _ rfl).2) a0 Try.underlying75) <|
      Obls.cons (Obl.plain rfl rfl fun R' w' hw hs hd => by exact of_move rfl) <|
      Obls.nil
  intro R w hw hs hF'
  replace h0 : R 0 = v0 := (hs 0 rfl).trans h0
  replace h1 : R 1 = v1 := (hs 1 rfl).trans h1
  replace h2 : R 2 = .bool p2 := (hs 2 rfl).trans h2
  replace h7 : R 7 = u3 := (hs 7 rfl).trans h7
  have h16 : R 16 = .int .i64 ((List.replicate ((p0.length : Int) + (1 : Int)).toNat ([] : List Int)).length : Int) := hF' 1 _ _ rfl rfl rfl
  have h17 : R 17 = .int .i64 (0 : Int) := hF' 2 _ _ rfl rfl rfl
  replace f_v0 := f_v0.fr hw
  replace f_v1 := f_v1.fr hw
  replace hO := hO.fr hw
  replace hA := hA.fr hw.size
  replace hF := hF.trans hw
  clear hs hF' hw
  refine seqR_nil ?_
  obtain ⟨rl5, q6, hr⟩ := cl_some hr
  replace q6 := q6 rfl
  refine HT.cut0 (fun R w => ∃ A : Av, ∃ (s7 : (List (List Int))) (So_u3 : Nat → Prop), rl5 = s7 ∧ AvOK A w ∧ Fr w0 w ∧ (∀ b o, A0 b o → A b o) ∧ IniOK [⟨u3, So_u3, trR (geB w0.heap.size) (oSl 24 (oSl 3 (oRd (eInt .i64)))) s7 []⟩] A w ∧ R 7 = u3) ?_ ?_
  · refine HT.block ?_
    refine HT.loop (fun k R w => ∃ A : Av, ∃ (y8 : Int) (y9 : List (List Int)) (Sl_u3 : Nat → Prop), M_impl_distances_L0 fu p0 p1 p2 k y8 y9 = some rl5 ∧ AvOK A w ∧ Fr w0 w ∧ (∀ b o, A0 b o → A b o) ∧ IniOK [⟨u3, Sl_u3, trR (geB w0.heap.size) (oSl 24 (oSl 3 (oRd (eInt .i64)))) y9 []⟩] A w ∧ R 0 = v0 ∧ R 1 = v1 ∧ R 2 = .bool p2 ∧ R 7 = u3 ∧ R 16 = .int .i64 ((List.replicate ((p0.length : Int) + (1 : Int)).toNat ([] : List Int)).length : Int) ∧ R 17 = .int .i64 y8 ∧ Rep eStr A w v0 p0 ∧ Rep eStr A w v1 p1) fu ⟨_, _, _, S4, q6, hA, hF, hAA, hO, h0, h1, h2, h7, h16, h17, f_v0, f_v1⟩ ?_
    have hr0 := hr; clear hr q6
    rintro k R w ⟨A, y8, y9, Sl_u3, hr, hA, hF, hAA, hO, h0, h1, h2, h7, h16, h17, f_v0, f_v1⟩
    rcases k with _ | k
    · cases (show none = some _ from hr)
    rw [M_impl_distances_L0] at hr
    refine HT.seq ?_
    refine HT.text (l := ⟨_, true, .raw (.bool (decide (y8 < ((List.replicate ((p0.length : Int) + (1 : Int)).toNat ([] : List Int)).length : Int))))⟩ :: []) (tl := []) (by kernel_rfl) (by kernel_rfl) (by kernel_rfl) ?_ ?_
    · exact
        Obls.cons (Obl.plain rfl rfl fun R' w' hw hs hd => by have a0 : R' 17 = .int .i64 y8 := (hs 17 rfl).trans h17; have a1 : R' 16 = .int .i64 ((List.replicate ((p0.length : Int) + (1 : Int)).toNat ([] : List Int)).length : Int) := (hs 16 rfl).trans h16; exact of_lss a0 a1) <|
        Obls.nil
    intro R w hw hs hF'
    replace h0 : R 0 = v0 := (hs 0 rfl).trans h0
    replace h1 : R 1 = v1 := (hs 1 rfl).trans h1
    replace h2 : R 2 = .bool p2 := (hs 2 rfl).trans h2
    replace h7 : R 7 = u3 := (hs 7 rfl).trans h7
    replace h16 : R 16 = .int .i64 ((List.replicate ((p0.length : Int) + (1 : Int)).toNat ([] : List Int)).length : Int) := (hs 16 rfl).trans h16
    replace h17 : R 17 = .int .i64 y8 := (hs 17 rfl).trans h17
    have h18 : R 18 = .bool (decide (y8 < ((List.replicate ((p0.length : Int) + (1 : Int)).toNat ([] : List Int)).length : Int))) := hF' 0 _ _ rfl rfl rfl
    replace f_v0 := f_v0.fr hw
    replace f_v1 := f_v1.fr hw
    replace hO := hO.fr hw
    replace hA := hA.fr hw.size
    replace hF := hF.trans hw
    clear hs hF' hw
    refine seqR_nil ?_
    refine HT.seq ?_
    refine HT.cond (decide (y8 < ((List.replicate ((p0.length : Int) + (1 : Int)).toNat ([] : List Int)).length : Int))) h18 (fun c10 => ?_) (fun c10 => ?_)
    · have hr := cnd_t c10 hr
      refine HT.skip ?_
      refine HT.seq ?_
      refine HT.block ?_
      refine HT.seq ?_
      refine HT.text (l := ⟨_, true, .raw (.int .i64 y8)⟩ :: ⟨_, true, .raw (.int .i64 y8)⟩ :: []) (tl := []) (by kernel_rfl) (by kernel_rfl) (by kernel_rfl) ?_ ?_
      · exact
          Obls.cons (Obl.plain rfl rfl fun R' w' hw hs hd => by have a0 : R' 17 = .int .i64 y8 := (hs 17 rfl).trans h17; exact of_move a0) <|
          Obls.cons (Obl.plain rfl rfl fun R' w' hw hs hd => by have a0 : R' 19 = .int .i64 y8 := hd 0 _ _ _ rfl rfl rfl rfl rfl; exact of_assign a0) <|
          Obls.nil
      intro R w hw hs hF'
      replace h0 : R 0 = v0 := (hs 0 rfl).trans h0
      replace h1 : R 1 = v1 := (hs 1 rfl).trans h1
      replace h2 : R 2 = .bool p2 := (hs 2 rfl).trans h2
      replace h7 : R 7 = u3 := (hs 7 rfl).trans h7
      replace h16 : R 16 = .int .i64 ((List.replicate ((p0.length : Int) + (1 : Int)).toNat ([] : List Int)).length : Int) := (hs 16 rfl).trans h16
      replace h17 : R 17 = .int .i64 y8 := (hs 17 rfl).trans h17
      have h8 : R 8 = .int .i64 y8 := hF' 1 _ _ rfl rfl rfl
      replace f_v0 := f_v0.fr hw
      replace f_v1 := f_v1.fr hw
      replace hO := hO.fr hw
      replace hA := hA.fr hw.size
      replace hF := hF.trans hw
      clear hs hF' hw
      refine seqR_nil ?_
      refine HT.seq ?_
      obtain ⟨e11, hr⟩ := ck_some hr
      obtain ⟨e12, hr⟩ := ck_some hr
      obtain ⟨e13, hr⟩ := ck_some hr
      refine HT.textR [⟨u3, Sl_u3, trR (geB w0.heap.size) (oSl 24 (oSl 3 (oRd (eInt .i64)))) y9 []⟩] (⟨_, true, [], none, true, fun A => .raw u3⟩ :: ⟨_, true, [], none, true, fun A => .raw (.int .i64 y8)⟩ :: ⟨_, true, [], none, true, fun A => .raw v1⟩ :: ⟨_, true, [], none, true, fun A => .raw (.int .i64 (p1.length : Int))⟩ :: ⟨_, true, [], none, true, fun A => .raw (.int .i64 ((p1.length : Int) + (1 : Int)))⟩ :: ⟨_, true, [], some (.vec w0.heap.size 3 (eInt .i64) (List.replicate ((p1.length : Int) + (1 : Int)).toNat (0 : Int))), true, fun A => .any⟩ :: ⟨_, true, [], none, true, fun A => .raw (vptr u3 (y8.toNat * 1))⟩ :: ⟨_, true, [0, 6], some (trR (geB w0.heap.size) (oSl 24 (oSl 3 (oRd (eInt .i64)))) (y9.set y8.toNat (List.replicate ((p1.length : Int) + (1 : Int)).toNat (0 : Int))) []), false, fun A => .any⟩ :: []) (by kernel_rfl) (by kernel_rfl) (Wf.mk' (by kernel_rfl) (UAll.cons ust_raw (UAll.cons ust_raw (UAll.cons ust_raw (UAll.cons ust_raw (UAll.cons ust_raw (UAll.cons ust_any (UAll.cons ust_raw (UAll.cons ust_any (UAll.nil))))))))) (by kernel_rfl) (by kernel_rfl)) hO hA ?_ ?_
      · exact
          OblsR.cons (OblR.plain rfl rfl rfl rfl fun A' R' w' ho hd => by have a0 : R' 7 = u3 := (ho.old 7 rfl).trans h7; exact of_move a0) <|
          OblsR.cons (OblR.plain rfl rfl rfl rfl fun A' R' w' ho hd => by have a0 : R' 8 = .int .i64 y8 := (ho.old 8 rfl).trans h8; exact of_move a0) <|
          OblsR.cons (OblR.plain rfl rfl rfl rfl fun A' R' w' ho hd => by have a0 : R' 1 = v1 := (ho.old 1 rfl).trans h1; exact of_move a0) <|
          OblsR.cons (OblR.plain rfl rfl rfl rfl fun A' R' w' ho hd => by have a0 : R' 22 = v1 := hd 0 _ _ _ rfl rfl rfl rfl rfl; have ra0 := (f_v1.stp ho.stp).eq a0; exact of_len_str ra0 Try.underlying9) <|
          OblsR.cons (OblR.plain rfl rfl rfl rfl fun A' R' w' ho hd => by have a0 : R' 23 = .int .i64 (p1.length : Int) := hd 0 _ _ _ rfl rfl rfl rfl rfl; exact of_add a0 rfl e11) <|
          OblsR.cons (OblR.made _ rfl rfl rfl rfl fun A' R' w' ho hd => by have a0 : R' 24 = .int .i64 ((p1.length : Int) + (1 : Int)) := hd 0 _ _ _ rfl rfl rfl rfl rfl; have a1 : R' 24 = .int .i64 ((p1.length : Int) + (1 : Int)) := hd 0 _ _ _ rfl rfl rfl rfl rfl; exact made_make a0 a1 e12 Try.underlying24 el_3 Try.zeroValue3 (fun A w => rep1_int) (Nat.le_trans hF.size ho.ch.size)) <|
          OblsR.cons (OblR.plain rfl rfl rfl rfl fun A' R' w' ho hd => by have a0 : R' 20 = u3 := hd 0 _ _ _ rfl rfl rfl rfl rfl; have a1 : R' 21 = .int .i64 y8 := hd 1 _ _ _ rfl rfl rfl rfl rfl; exact of_indexAddr_tr (tr_root (hO.own 0 _ rfl).2) a0 a1 Try.underlying75 Try.sizeOf24 e13 rfl) <|
          OblsR.cons (OblR.tookM 0 [6] _ rfl rfl rfl rfl fun A' R' w' ho hd ρ σ hok hav hin hop hds hdd => by have a0 : R' 26 = (vptr u3 (y8.toNat * 1)) := hd 0 _ _ _ rfl rfl rfl rfl rfl; have k1 := hok 0 (.head _) _ rfl; have e0 := (hin 0 (.head _) _ rfl).1; rw [e0] at k1 ⊢; exact took_put2 rfl ((tr_root k1.2.2).elem e13 rfl) (own_of_vec' (hok 6 (.tail _ (.head _)) _ rfl).1 (hok 6 (.tail _ (.head _)) _ rfl).2) (hop 6 (.tail _ (.head _)) _ _ rfl rfl rfl rfl).symm a0 hav hdd k1.2.1 (vec_ge (hok 6 (.tail _ (.head _)) _ rfl).1 (hok 6 (.tail _ (.head _)) _ rfl).2) Try.sizeOf24 (fun _ _ _ h => h)) <|
          OblsR.nil
      intro done ρ σ A R w hdn hI
      replace h0 : R 0 = v0 := (hI.reg rfl).trans h0
      replace h1 : R 1 = v1 := (hI.reg rfl).trans h1
      replace h2 : R 2 = .bool p2 := (hI.reg rfl).trans h2
      replace h7 : R 7 = u3 := (hI.reg rfl).trans h7
      replace h8 : R 8 = .int .i64 y8 := (hI.reg rfl).trans h8
      replace h16 : R 16 = .int .i64 ((List.replicate ((p0.length : Int) + (1 : Int)).toNat ([] : List Int)).length : Int) := (hI.reg rfl).trans h16
      replace h17 : R 17 = .int .i64 y8 := (hI.reg rfl).trans h17
      have z14 := hI.inivR 0 rfl
      have z15 := (hI.opnR hdn 8 7 rfl rfl rfl rfl rfl).trans z14
      obtain ⟨S16, eS_u3⟩ : ∃ S, σ 8 = S := ⟨_, rfl⟩
      replace f_v0 := f_v0.stp hI.stp
      replace f_v1 := f_v1.stp hI.stp
      replace hAA := hI.low' hAA hA0 (hO.ge (⟨fun _ h => h, trivial⟩))
      replace hF : Fr w0 w := hF.tr hI.ch (hO.ge (⟨fun _ h => h, trivial⟩))
      replace hO : IniOK [⟨u3, S16, trR (geB w0.heap.size) (oSl 24 (oSl 3 (oRd (eInt .i64)))) (y9.set y8.toNat (List.replicate ((p1.length : Int) + (1 : Int)).toNat (0 : Int))) []⟩] A w := hI.left hdn [(8, ⟨u3, S16, trR (geB w0.heap.size) (oSl 24 (oSl 3 (oRd (eInt .i64)))) (y9.set y8.toNat (List.replicate ((p1.length : Int) + (1 : Int)).toNat (0 : Int))) []⟩)] ⟨rfl, rfl, z15, eS_u3, rfl, trivial⟩
      replace hA := hI.avok
      clear hI
      refine HT.seq ?_
      obtain ⟨e17, hr⟩ := ck_some hr
      obtain ⟨h18, p_h18⟩ := (((tr_root (hO.own 0 _ rfl).2).elem e17 rfl)).open1 rfl
      replace hO : IniOK [⟨u3, S16, trR (geB w0.heap.size) (oSl 24 (oSl 3 (oRd (eInt .i64)))) (y9.set y8.toNat (List.replicate ((p1.length : Int) + (1 : Int)).toNat (0 : Int))) [((vptr u3 (y8.toNat * 1)), [h18])]⟩] A w := hO.repin 0 rfl (trP.pin p_h18)
      refine HT.text (l := ⟨_, true, .raw u3⟩ :: ⟨_, true, .raw (.int .i64 y8)⟩ :: ⟨_, true, .raw (vptr u3 (y8.toNat * 1))⟩ :: ⟨_, true, .raw h18⟩ :: ⟨_, true, .raw (.int .i64 ((gtD (y9.set y8.toNat (List.replicate ((p1.length : Int) + (1 : Int)).toNat (0 : Int))) y8).length : Int))⟩ :: ⟨_, true, .raw (.int .i64 (0 : Int))⟩ :: []) (tl := []) (by kernel_rfl) (by kernel_rfl) (by kernel_rfl) ?_ ?_
      · exact
          Obls.cons (Obl.plain rfl rfl fun R' w' hw hs hd => by have a0 : R' 7 = u3 := (hs 7 rfl).trans h7; exact of_move a0) <|
          Obls.cons (Obl.plain rfl rfl fun R' w' hw hs hd => by have a0 : R' 8 = .int .i64 y8 := (hs 8 rfl).trans h8; exact of_move a0) <|
          Obls.cons (Obl.plain rfl rfl fun R' w' hw hs hd => by have a0 : R' 27 = u3 := hd 0 _ _ _ rfl rfl rfl rfl rfl; have a1 : R' 28 = .int .i64 y8 := hd 1 _ _ _ rfl rfl rfl rfl rfl; exact of_indexAddr_tr (tr_root (hO.own 0 _ rfl).2) a0 a1 Try.underlying75 Try.sizeOf24 e17 rfl) <|
          Obls.cons (Obl.plain rfl rfl fun R' w' hw hs hd => by have a0 : R' 29 = (vptr u3 (y8.toNat * 1)) := hd 0 _ _ _ rfl rfl rfl rfl rfl; exact of_load_pin (((hO.fr hw).own 0 _ rfl).2.2 _ (.head _)) a0 Try.isAgg24 Try.sizeOf24) <|
          Obls.cons (Obl.plain rfl rfl fun R' w' hw hs hd => by have a0 : R' 30 = h18 := hd 0 _ _ _ rfl rfl rfl rfl rfl; exact of_len_tr ((((tr_root (hO.own 0 _ rfl).2).elem e17 rfl)).pin ((hO.own 0 _ rfl).2.2 _ (.head _)) rfl) a0 Try.underlying24) <|
          Obls.cons (Obl.plain rfl rfl fun R' w' hw hs hd => by exact of_move rfl) <|
          Obls.nil
      intro R w hw hs hF'
      replace h0 : R 0 = v0 := (hs 0 rfl).trans h0
      replace h1 : R 1 = v1 := (hs 1 rfl).trans h1
      replace h2 : R 2 = .bool p2 := (hs 2 rfl).trans h2
      replace h7 : R 7 = u3 := (hs 7 rfl).trans h7
      replace h8 : R 8 = .int .i64 y8 := (hs 8 rfl).trans h8
      replace h16 : R 16 = .int .i64 ((List.replicate ((p0.length : Int) + (1 : Int)).toNat ([] : List Int)).length : Int) := (hs 16 rfl).trans h16
      replace h17 : R 17 = .int .i64 y8 := (hs 17 rfl).trans h17
      have h31 : R 31 = .int .i64 ((gtD (y9.set y8.toNat (List.replicate ((p1.length : Int) + (1 : Int)).toNat (0 : Int))) y8).length : Int) := hF' 4 _ _ rfl rfl rfl
      have h32 : R 32 = .int .i64 (0 : Int) := hF' 5 _ _ rfl rfl rfl
      replace f_v0 := f_v0.fr hw
      replace f_v1 := f_v1.fr hw
      replace hO := hO.fr hw
      replace hA := hA.fr hw.size
      replace hF := hF.trans hw
      clear hs hF' hw
      refine seqR_nil ?_
      replace hO : IniOK [⟨u3, S16, trR (geB w0.heap.size) (oSl 24 (oSl 3 (oRd (eInt .i64)))) (y9.set y8.toNat (List.replicate ((p1.length : Int) + (1 : Int)).toNat (0 : Int))) []⟩] A w := hO.repin 0 rfl trP.nopin
      obtain ⟨rl20, q21, hr⟩ := cl_some hr
      replace q21 := q21 rfl
      refine HT.cut0 (fun R w => ∃ A : Av, ∃ (s22 : (List (List Int))) (So_u3 : Nat → Prop), rl20 = s22 ∧ AvOK A w ∧ Fr w0 w ∧ (∀ b o, A0 b o → A b o) ∧ IniOK [⟨u3, So_u3, trR (geB w0.heap.size) (oSl 24 (oSl 3 (oRd (eInt .i64)))) s22 []⟩] A w ∧ R 0 = v0 ∧ R 1 = v1 ∧ R 2 = .bool p2 ∧ R 7 = u3 ∧ R 16 = .int .i64 ((List.replicate ((p0.length : Int) + (1 : Int)).toNat ([] : List Int)).length : Int) ∧ R 17 = .int .i64 y8 ∧ Rep eStr A w v0 p0 ∧ Rep eStr A w v1 p1) ?_ ?_
      · refine HT.block ?_
        refine HT.loop (fun k R w => ∃ A : Av, ∃ (y23 : Int) (y24 : List (List Int)) (Sl_u3 : Nat → Prop), M_impl_distances_L1 fu p0 p1 p2 y8 y9 k y23 y24 = some rl20 ∧ AvOK A w ∧ Fr w0 w ∧ (∀ b o, A0 b o → A b o) ∧ IniOK [⟨u3, Sl_u3, trR (geB w0.heap.size) (oSl 24 (oSl 3 (oRd (eInt .i64)))) y24 []⟩] A w ∧ R 0 = v0 ∧ R 1 = v1 ∧ R 2 = .bool p2 ∧ R 7 = u3 ∧ R 8 = .int .i64 y8 ∧ R 16 = .int .i64 ((List.replicate ((p0.length : Int) + (1 : Int)).toNat ([] : List Int)).length : Int) ∧ R 17 = .int .i64 y8 ∧ R 31 = .int .i64 ((gtD (y9.set y8.toNat (List.replicate ((p1.length : Int) + (1 : Int)).toNat (0 : Int))) y8).length : Int) ∧ R 32 = .int .i64 y23 ∧ Rep eStr A w v0 p0 ∧ Rep eStr A w v1 p1) fu ⟨_, _, _, S16, q21, hA, hF, hAA, hO, h0, h1, h2, h7, h8, h16, h17, h31, h32, f_v0, f_v1⟩ ?_
        have hr0 := hr; clear hr q21
        rintro k R w ⟨A, y23, y24, Sl_u3, hr, hA, hF, hAA, hO, h0, h1, h2, h7, h8, h16, h17, h31, h32, f_v0, f_v1⟩
        rcases k with _ | k
        · cases (show none = some _ from hr)
        rw [M_impl_distances_L1] at hr
        refine HT.seq ?_
        refine HT.text (l := ⟨_, true, .raw (.bool (decide (y23 < ((gtD (y9.set y8.toNat (List.replicate ((p1.length : Int) + (1 : Int)).toNat (0 : Int))) y8).length : Int))))⟩ :: []) (tl := []) (by kernel_rfl) (by kernel_rfl) (by kernel_rfl) ?_ ?_
        · exact
            Obls.cons (Obl.plain rfl rfl fun R' w' hw hs hd => by have a0 : R' 32 = .int .i64 y23 := (hs 32 rfl).trans h32; have a1 : R' 31 = .int .i64 ((gtD (y9.set y8.toNat (List.replicate ((p1.length : Int) + (1 : Int)).toNat (0 : Int))) y8).length : Int) := (hs 31 rfl).trans h31; exact of_lss a0 a1) <|
            Obls.nil
        intro R w hw hs hF'
        replace h0 : R 0 = v0 := (hs 0 rfl).trans h0
        replace h1 : R 1 = v1 := (hs 1 rfl).trans h1
        replace h2 : R 2 = .bool p2 := (hs 2 rfl).trans h2
        replace h7 : R 7 = u3 := (hs 7 rfl).trans h7
        replace h8 : R 8 = .int .i64 y8 := (hs 8 rfl).trans h8
        replace h16 : R 16 = .int .i64 ((List.replicate ((p0.length : Int) + (1 : Int)).toNat ([] : List Int)).length : Int) := (hs 16 rfl).trans h16
        replace h17 : R 17 = .int .i64 y8 := (hs 17 rfl).trans h17
        replace h31 : R 31 = .int .i64 ((gtD (y9.set y8.toNat (List.replicate ((p1.length : Int) + (1 : Int)).toNat (0 : Int))) y8).length : Int) := (hs 31 rfl).trans h31
        replace h32 : R 32 = .int .i64 y23 := (hs 32 rfl).trans h32
        have h33 : R 33 = .bool (decide (y23 < ((gtD (y9.set y8.toNat (List.replicate ((p1.length : Int) + (1 : Int)).toNat (0 : Int))) y8).length : Int))) := hF' 0 _ _ rfl rfl rfl
        replace f_v0 := f_v0.fr hw
        replace f_v1 := f_v1.fr hw
        replace hO := hO.fr hw
        replace hA := hA.fr hw.size
        replace hF := hF.trans hw
        clear hs hF' hw
        refine seqR_nil ?_
        refine HT.seq ?_
        refine HT.cond (decide (y23 < ((gtD (y9.set y8.toNat (List.replicate ((p1.length : Int) + (1 : Int)).toNat (0 : Int))) y8).length : Int))) h33 (fun c25 => ?_) (fun c25 => ?_)
        · have hr := cnd_t c25 hr
          refine HT.skip ?_
          refine HT.seq ?_
          refine HT.block ?_
          refine HT.seq ?_
          refine HT.text (l := ⟨_, true, .raw (.int .i64 y23)⟩ :: ⟨_, true, .raw (.int .i64 y23)⟩ :: []) (tl := []) (by kernel_rfl) (by kernel_rfl) (by kernel_rfl) ?_ ?_
          · exact
              Obls.cons (Obl.plain rfl rfl fun R' w' hw hs hd => by have a0 : R' 32 = .int .i64 y23 := (hs 32 rfl).trans h32; exact of_move a0) <|
              Obls.cons (Obl.plain rfl rfl fun R' w' hw hs hd => by have a0 : R' 34 = .int .i64 y23 := hd 0 _ _ _ rfl rfl rfl rfl rfl; exact of_assign a0) <|
              Obls.nil
          intro R w hw hs hF'
          replace h0 : R 0 = v0 := (hs 0 rfl).trans h0
          replace h1 : R 1 = v1 := (hs 1 rfl).trans h1
          replace h2 : R 2 = .bool p2 := (hs 2 rfl).trans h2
          replace h7 : R 7 = u3 := (hs 7 rfl).trans h7
          replace h8 : R 8 = .int .i64 y8 := (hs 8 rfl).trans h8
          replace h16 : R 16 = .int .i64 ((List.replicate ((p0.length : Int) + (1 : Int)).toNat ([] : List Int)).length : Int) := (hs 16 rfl).trans h16
          replace h17 : R 17 = .int .i64 y8 := (hs 17 rfl).trans h17
          replace h31 : R 31 = .int .i64 ((gtD (y9.set y8.toNat (List.replicate ((p1.length : Int) + (1 : Int)).toNat (0 : Int))) y8).length : Int) := (hs 31 rfl).trans h31
          replace h32 : R 32 = .int .i64 y23 := (hs 32 rfl).trans h32
          have h9 : R 9 = .int .i64 y23 := hF' 1 _ _ rfl rfl rfl
          replace f_v0 := f_v0.fr hw
          replace f_v1 := f_v1.fr hw
          replace hO := hO.fr hw
          replace hA := hA.fr hw.size
          replace hF := hF.trans hw
          clear hs hF' hw
          refine seqR_nil ?_
          refine HT.seq ?_
          refine HT.block ?_
          refine HT.seq ?_
          refine HT.text (l := ⟨_, true, .raw (.int .i64 y8)⟩ :: ⟨_, true, .raw (.bool (y8 == (0 : Int)))⟩ :: ⟨_, true, .raw (.bool (y8 == (0 : Int)))⟩ :: []) (tl := []) (by kernel_rfl) (by kernel_rfl) (by kernel_rfl) ?_ ?_
          · exact
              Obls.cons (Obl.plain rfl rfl fun R' w' hw hs hd => by have a0 : R' 8 = .int .i64 y8 := (hs 8 rfl).trans h8; exact of_move a0) <|
              Obls.cons (Obl.plain rfl rfl fun R' w' hw hs hd => by have a0 : R' 36 = .int .i64 y8 := hd 0 _ _ _ rfl rfl rfl rfl rfl; exact of_eql a0 rfl) <|
              Obls.cons (Obl.plain rfl rfl fun R' w' hw hs hd => by have a0 : R' 37 = .bool (y8 == (0 : Int)) := hd 0 _ _ _ rfl rfl rfl rfl rfl; exact of_assign a0) <|
              Obls.nil
          intro R w hw hs hF'
          replace h0 : R 0 = v0 := (hs 0 rfl).trans h0
          replace h1 : R 1 = v1 := (hs 1 rfl).trans h1
          replace h2 : R 2 = .bool p2 := (hs 2 rfl).trans h2
          replace h7 : R 7 = u3 := (hs 7 rfl).trans h7
          replace h8 : R 8 = .int .i64 y8 := (hs 8 rfl).trans h8
          replace h9 : R 9 = .int .i64 y23 := (hs 9 rfl).trans h9
          replace h16 : R 16 = .int .i64 ((List.replicate ((p0.length : Int) + (1 : Int)).toNat ([] : List Int)).length : Int) := (hs 16 rfl).trans h16
          replace h17 : R 17 = .int .i64 y8 := (hs 17 rfl).trans h17
          replace h31 : R 31 = .int .i64 ((gtD (y9.set y8.toNat (List.replicate ((p1.length : Int) + (1 : Int)).toNat (0 : Int))) y8).length : Int) := (hs 31 rfl).trans h31
          replace h32 : R 32 = .int .i64 y23 := (hs 32 rfl).trans h32
          have h35 : R 35 = .bool (y8 == (0 : Int)) := hF' 2 _ _ rfl rfl rfl
          replace f_v0 := f_v0.fr hw
          replace f_v1 := f_v1.fr hw
          replace hO := hO.fr hw
          replace hA := hA.fr hw.size
          replace hF := hF.trans hw
          clear hs hF' hw
          refine seqR_nil ?_
          refine HT.cond (y8 == (0 : Int)) h35 (fun c26 => ?_) (fun c26 => ?_)
          · have hr := cnd_t c26 hr
            refine HT.seq ?_
            obtain ⟨e27, hr⟩ := ck_some hr
            obtain ⟨h28, p_h28⟩ := (((tr_root (hO.own 0 _ rfl).2).elem e27 rfl)).open1 rfl
            replace hO : IniOK [⟨u3, Sl_u3, trR (geB w0.heap.size) (oSl 24 (oSl 3 (oRd (eInt .i64)))) y24 [((vptr u3 (y8.toNat * 1)), [h28])]⟩] A w := hO.repin 0 rfl (trP.pin p_h28)
            obtain ⟨e30, hr⟩ := ck_some hr
            refine HT.textR [⟨u3, Sl_u3, trR (geB w0.heap.size) (oSl 24 (oSl 3 (oRd (eInt .i64)))) y24 [((vptr u3 (y8.toNat * 1)), [h28])]⟩] (⟨_, true, [], none, true, fun A => .raw u3⟩ :: ⟨_, true, [], none, true, fun A => .raw (.int .i64 y8)⟩ :: ⟨_, true, [], none, true, fun A => .raw (vptr u3 (y8.toNat * 1))⟩ :: ⟨_, true, [], none, true, fun A => .raw h28⟩ :: ⟨_, true, [], none, true, fun A => .raw (.int .i64 y23)⟩ :: ⟨_, true, [], none, true, fun A => .raw (.int .i64 y23)⟩ :: ⟨_, true, [], none, true, fun A => .raw (vptr h28 (y23.toNat * 1))⟩ :: ⟨_, true, [0], some (trR (geB w0.heap.size) (oSl 24 (oSl 3 (oRd (eInt .i64)))) (y24.set y8.toNat ((gtD y24 y8).set y23.toNat y23)) []), false, fun A => .any⟩ :: []) (by kernel_rfl) (by kernel_rfl) (Wf.mk' (by kernel_rfl) (UAll.cons ust_raw (UAll.cons ust_raw (UAll.cons ust_raw (UAll.cons ust_raw (UAll.cons ust_raw (UAll.cons ust_raw (UAll.cons ust_raw (UAll.cons ust_any (UAll.nil))))))))) (by kernel_rfl) (by kernel_rfl)) hO hA ?_ ?_
            · exact
                OblsR.cons (OblR.plain rfl rfl rfl rfl fun A' R' w' ho hd => by have a0 : R' 7 = u3 := (ho.old 7 rfl).trans h7; exact of_move a0) <|
                OblsR.cons (OblR.plain rfl rfl rfl rfl fun A' R' w' ho hd => by have a0 : R' 8 = .int .i64 y8 := (ho.old 8 rfl).trans h8; exact of_move a0) <|
                OblsR.cons (OblR.plain rfl rfl rfl rfl fun A' R' w' ho hd => by have a0 : R' 38 = u3 := hd 0 _ _ _ rfl rfl rfl rfl rfl; have a1 : R' 39 = .int .i64 y8 := hd 1 _ _ _ rfl rfl rfl rfl rfl; exact of_indexAddr_tr (tr_root (hO.own 0 _ rfl).2) a0 a1 Try.underlying75 Try.sizeOf24 e27 rfl) <|
                OblsR.cons (OblR.plain rfl rfl rfl rfl fun A' R' w' ho hd => by have a0 : R' 40 = (vptr u3 (y8.toNat * 1)) := hd 0 _ _ _ rfl rfl rfl rfl rfl; exact of_load_pin ((ho.rdo 0 _ rfl rfl).2.2 _ (.head _)) a0 Try.isAgg24 Try.sizeOf24) <|
                OblsR.cons (OblR.plain rfl rfl rfl rfl fun A' R' w' ho hd => by have a0 : R' 9 = .int .i64 y23 := (ho.old 9 rfl).trans h9; exact of_move a0) <|
                OblsR.cons (OblR.plain rfl rfl rfl rfl fun A' R' w' ho hd => by have a0 : R' 9 = .int .i64 y23 := (ho.old 9 rfl).trans h9; exact of_move a0) <|
                OblsR.cons (OblR.plain rfl rfl rfl rfl fun A' R' w' ho hd => by have a0 : R' 41 = h28 := hd 0 _ _ _ rfl rfl rfl rfl rfl; have a1 : R' 42 = .int .i64 y23 := hd 1 _ _ _ rfl rfl rfl rfl rfl; exact of_indexAddr_tr ((((tr_root (hO.own 0 _ rfl).2).elem e27 rfl)).pin ((hO.own 0 _ rfl).2.2 _ (.head _)) rfl) a0 a1 Try.underlying24 Try.sizeOf3 e30 rfl) <|
                OblsR.cons (OblR.tookS 0 _ _ rfl rfl rfl rfl rfl fun A' R' w' ho hd u S hok hown hav hin hop hds => by have a0 : R' 44 = (vptr h28 (y23.toNat * 1)) := hd 0 _ _ _ rfl rfl rfl rfl rfl; have a1 : R' 43 = .int .i64 y23 := hd 1 _ _ _ rfl rfl rfl rfl rfl; have e0 := (hin _ rfl).1; rw [e0] at hown ⊢; exact took_hstore (((((tr_root hown.2).elem e27 rfl)).pin (hown.2.2 _ (.head _)) rfl).elem e30 rfl) (rep_int.eq a1) a0 hav hown.1 Try.sizeOf3 (fun _ _ _ h => h)) <|
                OblsR.nil
            intro done ρ σ A R w hdn hI
            replace h0 : R 0 = v0 := (hI.reg rfl).trans h0
            replace h1 : R 1 = v1 := (hI.reg rfl).trans h1
            replace h2 : R 2 = .bool p2 := (hI.reg rfl).trans h2
            replace h7 : R 7 = u3 := (hI.reg rfl).trans h7
            replace h8 : R 8 = .int .i64 y8 := (hI.reg rfl).trans h8
            replace h16 : R 16 = .int .i64 ((List.replicate ((p0.length : Int) + (1 : Int)).toNat ([] : List Int)).length : Int) := (hI.reg rfl).trans h16
            replace h17 : R 17 = .int .i64 y8 := (hI.reg rfl).trans h17
            replace h31 : R 31 = .int .i64 ((gtD (y9.set y8.toNat (List.replicate ((p1.length : Int) + (1 : Int)).toNat (0 : Int))) y8).length : Int) := (hI.reg rfl).trans h31
            replace h32 : R 32 = .int .i64 y23 := (hI.reg rfl).trans h32
            have z31 := hI.inivR 0 rfl
            have z32 := (hI.opnR hdn 8 7 rfl rfl rfl rfl rfl).trans z31
            obtain ⟨S33, eS_u3⟩ : ∃ S, σ 8 = S := ⟨_, rfl⟩
            replace f_v0 := f_v0.stp hI.stp
            replace f_v1 := f_v1.stp hI.stp
            replace hAA := hI.low' hAA hA0 (hO.ge (⟨fun _ h => h, trivial⟩))
            replace hF : Fr w0 w := hF.tr hI.ch (hO.ge (⟨fun _ h => h, trivial⟩))
            replace hO : IniOK [⟨u3, S33, trR (geB w0.heap.size) (oSl 24 (oSl 3 (oRd (eInt .i64)))) (y24.set y8.toNat ((gtD y24 y8).set y23.toNat y23)) []⟩] A w := hI.left hdn [(8, ⟨u3, S33, trR (geB w0.heap.size) (oSl 24 (oSl 3 (oRd (eInt .i64)))) (y24.set y8.toNat ((gtD y24 y8).set y23.toNat y23)) []⟩)] ⟨rfl, rfl, z32, eS_u3, rfl, trivial⟩
            replace hA := hI.avok
            clear hI
            refine HT.exit ?_
            obtain ⟨e34, hr⟩ := ck_some hr
            refine HT.text (l := ⟨_, true, .raw (.int .i64 (y23 + (1 : Int)))⟩ :: ⟨_, true, .raw (.int .i64 (y23 + (1 : Int)))⟩ :: []) (tl := []) (by kernel_rfl) (by kernel_rfl) (by kernel_rfl) ?_ ?_
            · exact
                Obls.cons (Obl.plain rfl rfl fun R' w' hw hs hd => by have a0 : R' 32 = .int .i64 y23 := (hs 32 rfl).trans h32; exact of_add a0 rfl e34) <|
                Obls.cons (Obl.plain rfl rfl fun R' w' hw hs hd => by have a0 : R' 155 = .int .i64 (y23 + (1 : Int)) := hd 0 _ _ _ rfl rfl rfl rfl rfl; exact of_move a0) <|
                Obls.nil
            intro R w hw hs hF'
            replace h0 : R 0 = v0 := (hs 0 rfl).trans h0
            replace h1 : R 1 = v1 := (hs 1 rfl).trans h1
            replace h2 : R 2 = .bool p2 := (hs 2 rfl).trans h2
            replace h7 : R 7 = u3 := (hs 7 rfl).trans h7
            replace h8 : R 8 = .int .i64 y8 := (hs 8 rfl).trans h8
            replace h16 : R 16 = .int .i64 ((List.replicate ((p0.length : Int) + (1 : Int)).toNat ([] : List Int)).length : Int) := (hs 16 rfl).trans h16
            replace h17 : R 17 = .int .i64 y8 := (hs 17 rfl).trans h17
            replace h31 : R 31 = .int .i64 ((gtD (y9.set y8.toNat (List.replicate ((p1.length : Int) + (1 : Int)).toNat (0 : Int))) y8).length : Int) := (hs 31 rfl).trans h31
            have h32 : R 32 = .int .i64 (y23 + (1 : Int)) := hF' 1 _ _ rfl rfl rfl
            replace f_v0 := f_v0.fr hw
            replace f_v1 := f_v1.fr hw
            replace hO := hO.fr hw
            replace hA := hA.fr hw.size
            replace hF := hF.trans hw
            clear hs hF' hw
            refine seqR_nil ?_
            exact Exists.intro k (And.intro (Nat.lt_succ_self k) ⟨_, _, _, S33, hr, hA, hF, hAA, hO, h0, h1, h2, h7, h8, h16, h17, h31, h32, f_v0, f_v1⟩)
          · have hr := cnd_f c26 hr
            refine HT.seq ?_
            refine HT.text (l := ⟨_, true, .raw (.int .i64 y23)⟩ :: ⟨_, true, .raw (.bool (y23 == (0 : Int)))⟩ :: ⟨_, true, .raw (.bool (y23 == (0 : Int)))⟩ :: []) (tl := []) (by kernel_rfl) (by kernel_rfl) (by kernel_rfl) ?_ ?_
            · exact
                Obls.cons (Obl.plain rfl rfl fun R' w' hw hs hd => by have a0 : R' 9 = .int .i64 y23 := (hs 9 rfl).trans h9; exact of_move a0) <|
                Obls.cons (Obl.plain rfl rfl fun R' w' hw hs hd => by have a0 : R' 46 = .int .i64 y23 := hd 0 _ _ _ rfl rfl rfl rfl rfl; exact of_eql a0 rfl) <|
                Obls.cons (Obl.plain rfl rfl fun R' w' hw hs hd => by have a0 : R' 47 = .bool (y23 == (0 : Int)) := hd 0 _ _ _ rfl rfl rfl rfl rfl; exact of_assign a0) <|
                Obls.nil
            intro R w hw hs hF'
            replace h0 : R 0 = v0 := (hs 0 rfl).trans h0
            replace h1 : R 1 = v1 := (hs 1 rfl).trans h1
            replace h2 : R 2 = .bool p2 := (hs 2 rfl).trans h2
            replace h7 : R 7 = u3 := (hs 7 rfl).trans h7
            replace h8 : R 8 = .int .i64 y8 := (hs 8 rfl).trans h8
            replace h9 : R 9 = .int .i64 y23 := (hs 9 rfl).trans h9
            replace h16 : R 16 = .int .i64 ((List.replicate ((p0.length : Int) + (1 : Int)).toNat ([] : List Int)).length : Int) := (hs 16 rfl).trans h16
            replace h17 : R 17 = .int .i64 y8 := (hs 17 rfl).trans h17
            replace h31 : R 31 = .int .i64 ((gtD (y9.set y8.toNat (List.replicate ((p1.length : Int) + (1 : Int)).toNat (0 : Int))) y8).length : Int) := (hs 31 rfl).trans h31
            replace h32 : R 32 = .int .i64 y23 := (hs 32 rfl).trans h32
            have h45 : R 45 = .bool (y23 == (0 : Int)) := hF' 2 _ _ rfl rfl rfl
            replace f_v0 := f_v0.fr hw
            replace f_v1 := f_v1.fr hw
            replace hO := hO.fr hw
            replace hA := hA.fr hw.size
            replace hF := hF.trans hw
            clear hs hF' hw
            refine seqR_nil ?_
            refine HT.cond (y23 == (0 : Int)) h45 (fun c35 => ?_) (fun c35 => ?_)
            · have hr := cnd_t c35 hr
              refine HT.seq ?_
              obtain ⟨e36, hr⟩ := ck_some hr
              obtain ⟨h37, p_h37⟩ := (((tr_root (hO.own 0 _ rfl).2).elem e36 rfl)).open1 rfl
              replace hO : IniOK [⟨u3, Sl_u3, trR (geB w0.heap.size) (oSl 24 (oSl 3 (oRd (eInt .i64)))) y24 [((vptr u3 (y8.toNat * 1)), [h37])]⟩] A w := hO.repin 0 rfl (trP.pin p_h37)
              obtain ⟨e39, hr⟩ := ck_some hr
              refine HT.textR [⟨u3, Sl_u3, trR (geB w0.heap.size) (oSl 24 (oSl 3 (oRd (eInt .i64)))) y24 [((vptr u3 (y8.toNat * 1)), [h37])]⟩] (⟨_, true, [], none, true, fun A => .raw u3⟩ :: ⟨_, true, [], none, true, fun A => .raw (.int .i64 y8)⟩ :: ⟨_, true, [], none, true, fun A => .raw (vptr u3 (y8.toNat * 1))⟩ :: ⟨_, true, [], none, true, fun A => .raw h37⟩ :: ⟨_, true, [], none, true, fun A => .raw (.int .i64 y23)⟩ :: ⟨_, true, [], none, true, fun A => .raw (.int .i64 y8)⟩ :: ⟨_, true, [], none, true, fun A => .raw (vptr h37 (y23.toNat * 1))⟩ :: ⟨_, true, [0], some (trR (geB w0.heap.size) (oSl 24 (oSl 3 (oRd (eInt .i64)))) (y24.set y8.toNat ((gtD y24 y8).set y23.toNat y8)) []), false, fun A => .any⟩ :: []) (by kernel_rfl) (by kernel_rfl) (Wf.mk' (by kernel_rfl) (UAll.cons ust_raw (UAll.cons ust_raw (UAll.cons ust_raw (UAll.cons ust_raw (UAll.cons ust_raw (UAll.cons ust_raw (UAll.cons ust_raw (UAll.cons ust_any (UAll.nil))))))))) (by kernel_rfl) (by kernel_rfl)) hO hA ?_ ?_
              · exact
                  OblsR.cons (OblR.plain rfl rfl rfl rfl fun A' R' w' ho hd => by have a0 : R' 7 = u3 := (ho.old 7 rfl).trans h7; exact of_move a0) <|
                  OblsR.cons (OblR.plain rfl rfl rfl rfl fun A' R' w' ho hd => by have a0 : R' 8 = .int .i64 y8 := (ho.old 8 rfl).trans h8; exact of_move a0) <|
                  OblsR.cons (OblR.plain rfl rfl rfl rfl fun A' R' w' ho hd => by have a0 : R' 48 = u3 := hd 0 _ _ _ rfl rfl rfl rfl rfl; have a1 : R' 49 = .int .i64 y8 := hd 1 _ _ _ rfl rfl rfl rfl rfl; exact of_indexAddr_tr (tr_root (hO.own 0 _ rfl).2) a0 a1 Try.underlying75 Try.sizeOf24 e36 rfl) <|
                  OblsR.cons (OblR.plain rfl rfl rfl rfl fun A' R' w' ho hd => by have a0 : R' 50 = (vptr u3 (y8.toNat * 1)) := hd 0 _ _ _ rfl rfl rfl rfl rfl; exact of_load_pin ((ho.rdo 0 _ rfl rfl).2.2 _ (.head _)) a0 Try.isAgg24 Try.sizeOf24) <|
                  OblsR.cons (OblR.plain rfl rfl rfl rfl fun A' R' w' ho hd => by have a0 : R' 9 = .int .i64 y23 := (ho.old 9 rfl).trans h9; exact of_move a0) <|
                  OblsR.cons (OblR.plain rfl rfl rfl rfl fun A' R' w' ho hd => by have a0 : R' 8 = .int .i64 y8 := (ho.old 8 rfl).trans h8; exact of_move a0) <|
                  OblsR.cons (OblR.plain rfl rfl rfl rfl fun A' R' w' ho hd => by have a0 : R' 51 = h37 := hd 0 _ _ _ rfl rfl rfl rfl rfl; have a1 : R' 52 = .int .i64 y23 := hd 1 _ _ _ rfl rfl rfl rfl rfl; exact of_indexAddr_tr ((((tr_root (hO.own 0 _ rfl).2).elem e36 rfl)).pin ((hO.own 0 _ rfl).2.2 _ (.head _)) rfl) a0 a1 Try.underlying24 Try.sizeOf3 e39 rfl) <|
                  OblsR.cons (OblR.tookS 0 _ _ rfl rfl rfl rfl rfl fun A' R' w' ho hd u S hok hown hav hin hop hds => by have a0 : R' 54 = (vptr h37 (y23.toNat * 1)) := hd 0 _ _ _ rfl rfl rfl rfl rfl; have a1 : R' 53 = .int .i64 y8 := hd 1 _ _ _ rfl rfl rfl rfl rfl; have e0 := (hin _ rfl).1; rw [e0] at hown ⊢; exact took_hstore (((((tr_root hown.2).elem e36 rfl)).pin (hown.2.2 _ (.head _)) rfl).elem e39 rfl) (rep_int.eq a1) a0 hav hown.1 Try.sizeOf3 (fun _ _ _ h => h)) <|
                  OblsR.nil
              intro done ρ σ A R w hdn hI
              replace h0 : R 0 = v0 := (hI.reg rfl).trans h0
              replace h1 : R 1 = v1 := (hI.reg rfl).trans h1
              replace h2 : R 2 = .bool p2 := (hI.reg rfl).trans h2
              replace h7 : R 7 = u3 := (hI.reg rfl).trans h7
              replace h8 : R 8 = .int .i64 y8 := (hI.reg rfl).trans h8
              replace h16 : R 16 = .int .i64 ((List.replicate ((p0.length : Int) + (1 : Int)).toNat ([] : List Int)).length : Int) := (hI.reg rfl).trans h16
              replace h17 : R 17 = .int .i64 y8 := (hI.reg rfl).trans h17
              replace h31 : R 31 = .int .i64 ((gtD (y9.set y8.toNat (List.replicate ((p1.length : Int) + (1 : Int)).toNat (0 : Int))) y8).length : Int) := (hI.reg rfl).trans h31
              replace h32 : R 32 = .int .i64 y23 := (hI.reg rfl).trans h32
              have z40 := hI.inivR 0 rfl
              have z41 := (hI.opnR hdn 8 7 rfl rfl rfl rfl rfl).trans z40
              obtain ⟨S42, eS_u3⟩ : ∃ S, σ 8 = S := ⟨_, rfl⟩
              replace f_v0 := f_v0.stp hI.stp
              replace f_v1 := f_v1.stp hI.stp
              replace hAA := hI.low' hAA hA0 (hO.ge (⟨fun _ h => h, trivial⟩))
              replace hF : Fr w0 w := hF.tr hI.ch (hO.ge (⟨fun _ h => h, trivial⟩))
              replace hO : IniOK [⟨u3, S42, trR (geB w0.heap.size) (oSl 24 (oSl 3 (oRd (eInt .i64)))) (y24.set y8.toNat ((gtD y24 y8).set y23.toNat y8)) []⟩] A w := hI.left hdn [(8, ⟨u3, S42, trR (geB w0.heap.size) (oSl 24 (oSl 3 (oRd (eInt .i64)))) (y24.set y8.toNat ((gtD y24 y8).set y23.toNat y8)) []⟩)] ⟨rfl, rfl, z41, eS_u3, rfl, trivial⟩
              replace hA := hI.avok
              clear hI
              refine HT.exit ?_
              obtain ⟨e43, hr⟩ := ck_some hr
              refine HT.text (l := ⟨_, true, .raw (.int .i64 (y23 + (1 : Int)))⟩ :: ⟨_, true, .raw (.int .i64 (y23 + (1 : Int)))⟩ :: []) (tl := []) (by kernel_rfl) (by kernel_rfl) (by kernel_rfl) ?_ ?_
              · exact
                  Obls.cons (Obl.plain rfl rfl fun R' w' hw hs hd => by have a0 : R' 32 = .int .i64 y23 := (hs 32 rfl).trans h32; exact of_add a0 rfl e43) <|
                  Obls.cons (Obl.plain rfl rfl fun R' w' hw hs hd => by have a0 : R' 155 = .int .i64 (y23 + (1 : Int)) := hd 0 _ _ _ rfl rfl rfl rfl rfl; exact of_move a0) <|
                  Obls.nil
              intro R w hw hs hF'
              replace h0 : R 0 = v0 := (hs 0 rfl).trans h0
              replace h1 : R 1 = v1 := (hs 1 rfl).trans h1
              replace h2 : R 2 = .bool p2 := (hs 2 rfl).trans h2
              replace h7 : R 7 = u3 := (hs 7 rfl).trans h7
              replace h8 : R 8 = .int .i64 y8 := (hs 8 rfl).trans h8
              replace h16 : R 16 = .int .i64 ((List.replicate ((p0.length : Int) + (1 : Int)).toNat ([] : List Int)).length : Int) := (hs 16 rfl).trans h16
              replace h17 : R 17 = .int .i64 y8 := (hs 17 rfl).trans h17
              replace h31 : R 31 = .int .i64 ((gtD (y9.set y8.toNat (List.replicate ((p1.length : Int) + (1 : Int)).toNat (0 : Int))) y8).length : Int) := (hs 31 rfl).trans h31
              have h32 : R 32 = .int .i64 (y23 + (1 : Int)) := hF' 1 _ _ rfl rfl rfl
              replace f_v0 := f_v0.fr hw
              replace f_v1 := f_v1.fr hw
              replace hO := hO.fr hw
              replace hA := hA.fr hw.size
              replace hF := hF.trans hw
              clear hs hF' hw
              refine seqR_nil ?_
              exact Exists.intro k (And.intro (Nat.lt_succ_self k) ⟨_, _, _, S42, hr, hA, hF, hAA, hO, h0, h1, h2, h7, h8, h16, h17, h31, h32, f_v0, f_v1⟩)
            · have hr := cnd_f c35 hr
              refine HT.skip ?_
              refine HT.seq ?_
              refine HT.text (l := ⟨_, true, .raw (.int .i64 (1 : Int))⟩ :: []) (tl := []) (by kernel_rfl) (by kernel_rfl) (by kernel_rfl) ?_ ?_
              · exact
                  Obls.cons (Obl.plain rfl rfl fun R' w' hw hs hd => by exact of_assign rfl) <|
                  Obls.nil
              intro R w hw hs hF'
              replace h0 : R 0 = v0 := (hs 0 rfl).trans h0
              replace h1 : R 1 = v1 := (hs 1 rfl).trans h1
              replace h2 : R 2 = .bool p2 := (hs 2 rfl).trans h2
              replace h7 : R 7 = u3 := (hs 7 rfl).trans h7
              replace h8 : R 8 = .int .i64 y8 := (hs 8 rfl).trans h8
              replace h9 : R 9 = .int .i64 y23 := (hs 9 rfl).trans h9
              replace h16 : R 16 = .int .i64 ((List.replicate ((p0.length : Int) + (1 : Int)).toNat ([] : List Int)).length : Int) := (hs 16 rfl).trans h16
              replace h17 : R 17 = .int .i64 y8 := (hs 17 rfl).trans h17
              replace h31 : R 31 = .int .i64 ((gtD (y9.set y8.toNat (List.replicate ((p1.length : Int) + (1 : Int)).toNat (0 : Int))) y8).length : Int) := (hs 31 rfl).trans h31
              replace h32 : R 32 = .int .i64 y23 := (hs 32 rfl).trans h32
              have h10 : R 10 = .int .i64 (1 : Int) := hF' 0 _ _ rfl rfl rfl
              replace f_v0 := f_v0.fr hw
              replace f_v1 := f_v1.fr hw
              replace hO := hO.fr hw
              replace hA := hA.fr hw.size
              replace hF := hF.trans hw
              clear hs hF' hw
              refine seqR_nil ?_
              refine HT.seq ?_
              refine HT.seq ?_
              obtain ⟨e44, hr⟩ := ck_some hr
              obtain ⟨e45, hr⟩ := ck_some hr
              obtain ⟨e46, hr⟩ := ck_some hr
              obtain ⟨e47, hr⟩ := ck_some hr
              refine HT.draw (by kernel_rfl) (l := ⟨_, true, .raw v0⟩ :: ⟨_, true, .raw (.int .i64 y8)⟩ :: ⟨_, true, .raw (.int .i64 (y8 - (1 : Int)))⟩ :: ⟨_, true, .raw (.int .u8 (bAt p0 (y8 - (1 : Int))))⟩ :: ⟨_, true, .raw v1⟩ :: ⟨_, true, .raw (.int .i64 y23)⟩ :: ⟨_, true, .raw (.int .i64 (y23 - (1 : Int)))⟩ :: ⟨_, true, .raw (.int .u8 (bAt p1 (y23 - (1 : Int))))⟩ :: ⟨_, true, .raw (.bool ((bAt p0 (y8 - (1 : Int))) == (bAt p1 (y23 - (1 : Int)))))⟩ :: []) (tl := []) (by kernel_rfl) (by kernel_rfl) (by kernel_rfl) (by kernel_rfl) ?_ ?_
              · exact
                  Obls.cons (Obl.plain rfl rfl fun R' w' hw hs hd => by have a0 : R' 0 = v0 := (hs 0 rfl).trans h0; exact of_move a0) <|
                  Obls.cons (Obl.plain rfl rfl fun R' w' hw hs hd => by have a0 : R' 8 = .int .i64 y8 := (hs 8 rfl).trans h8; exact of_move a0) <|
                  Obls.cons (Obl.plain rfl rfl fun R' w' hw hs hd => by have a0 : R' 56 = .int .i64 y8 := hd 0 _ _ _ rfl rfl rfl rfl rfl; exact of_sub a0 rfl e44) <|
                  Obls.cons (Obl.plain rfl rfl fun R' w' hw hs hd => by have a0 : R' 55 = v0 := hd 0 _ _ _ rfl rfl rfl rfl rfl; have ra0 := (f_v0.fr hw).eq a0; have a1 : R' 57 = .int .i64 (y8 - (1 : Int)) := hd 1 _ _ _ rfl rfl rfl rfl rfl; exact of_strIndex ra0 a1 Try.underlying9 e45) <|
                  Obls.cons (Obl.plain rfl rfl fun R' w' hw hs hd => by have a0 : R' 1 = v1 := (hs 1 rfl).trans h1; exact of_move a0) <|
                  Obls.cons (Obl.plain rfl rfl fun R' w' hw hs hd => by have a0 : R' 9 = .int .i64 y23 := (hs 9 rfl).trans h9; exact of_move a0) <|
                  Obls.cons (Obl.plain rfl rfl fun R' w' hw hs hd => by have a0 : R' 60 = .int .i64 y23 := hd 0 _ _ _ rfl rfl rfl rfl rfl; exact of_sub a0 rfl e46) <|
                  Obls.cons (Obl.plain rfl rfl fun R' w' hw hs hd => by have a0 : R' 59 = v1 := hd 0 _ _ _ rfl rfl rfl rfl rfl; have ra0 := (f_v1.fr hw).eq a0; have a1 : R' 61 = .int .i64 (y23 - (1 : Int)) := hd 1 _ _ _ rfl rfl rfl rfl rfl; exact of_strIndex ra0 a1 Try.underlying9 e47) <|
                  Obls.cons (Obl.plain rfl rfl fun R' w' hw hs hd => by have a0 : R' 58 = .int .u8 (bAt p0 (y8 - (1 : Int))) := hd 0 _ _ _ rfl rfl rfl rfl rfl; have a1 : R' 62 = .int .u8 (bAt p1 (y23 - (1 : Int))) := hd 1 _ _ _ rfl rfl rfl rfl rfl; exact of_eql a0 a1) <|
                  Obls.nil
              intro R w hw hs hF'
              replace h0 : R 0 = v0 := (hs 0 rfl).trans h0
              replace h1 : R 1 = v1 := (hs 1 rfl).trans h1
              replace h2 : R 2 = .bool p2 := (hs 2 rfl).trans h2
              replace h7 : R 7 = u3 := (hs 7 rfl).trans h7
              replace h8 : R 8 = .int .i64 y8 := (hs 8 rfl).trans h8
              replace h9 : R 9 = .int .i64 y23 := (hs 9 rfl).trans h9
              replace h10 : R 10 = .int .i64 (1 : Int) := (hs 10 rfl).trans h10
              replace h16 : R 16 = .int .i64 ((List.replicate ((p0.length : Int) + (1 : Int)).toNat ([] : List Int)).length : Int) := (hs 16 rfl).trans h16
              replace h17 : R 17 = .int .i64 y8 := (hs 17 rfl).trans h17
              replace h31 : R 31 = .int .i64 ((gtD (y9.set y8.toNat (List.replicate ((p1.length : Int) + (1 : Int)).toNat (0 : Int))) y8).length : Int) := (hs 31 rfl).trans h31
              replace h32 : R 32 = .int .i64 y23 := (hs 32 rfl).trans h32
              have h63 : R 63 = .bool ((bAt p0 (y8 - (1 : Int))) == (bAt p1 (y23 - (1 : Int)))) := hF' 8 _ _ rfl rfl rfl
              replace f_v0 := f_v0.fr hw
              replace f_v1 := f_v1.fr hw
              replace hO := hO.fr hw
              replace hA := hA.fr hw.size
              replace hF := hF.trans hw
              clear hs hF' hw
              refine seqR_nil ?_
              refine HT.cond ((bAt p0 (y8 - (1 : Int))) == (bAt p1 (y23 - (1 : Int)))) h63 (fun c48 => ?_) (fun c48 => ?_)
              · have hr := cnd_t c48 hr
                refine HT.text (l := ⟨_, true, .raw (.int .i64 (0 : Int))⟩ :: []) (tl := []) (by kernel_rfl) (by kernel_rfl) (by kernel_rfl) ?_ ?_
                · exact
                    Obls.cons (Obl.plain rfl rfl fun R' w' hw hs hd => by exact of_assign rfl) <|
                    Obls.nil
                intro R w hw hs hF'
                replace h0 : R 0 = v0 := (hs 0 rfl).trans h0
                replace h1 : R 1 = v1 := (hs 1 rfl).trans h1
                replace h2 : R 2 = .bool p2 := (hs 2 rfl).trans h2
                replace h7 : R 7 = u3 := (hs 7 rfl).trans h7
                replace h8 : R 8 = .int .i64 y8 := (hs 8 rfl).trans h8
                replace h9 : R 9 = .int .i64 y23 := (hs 9 rfl).trans h9
                replace h16 : R 16 = .int .i64 ((List.replicate ((p0.length : Int) + (1 : Int)).toNat ([] : List Int)).length : Int) := (hs 16 rfl).trans h16
                replace h17 : R 17 = .int .i64 y8 := (hs 17 rfl).trans h17
                replace h31 : R 31 = .int .i64 ((gtD (y9.set y8.toNat (List.replicate ((p1.length : Int) + (1 : Int)).toNat (0 : Int))) y8).length : Int) := (hs 31 rfl).trans h31
                replace h32 : R 32 = .int .i64 y23 := (hs 32 rfl).trans h32
                have h10 : R 10 = .int .i64 (0 : Int) := hF' 0 _ _ rfl rfl rfl
                replace f_v0 := f_v0.fr hw
                replace f_v1 := f_v1.fr hw
                replace hO := hO.fr hw
                replace hA := hA.fr hw.size
                replace hF := hF.trans hw
                clear hs hF' hw
                refine seqR_nil ?_
                refine HT.seq ?_
                obtain ⟨e49, hr⟩ := ck_some hr
                obtain ⟨h50, p_h50⟩ := (((tr_root (hO.own 0 _ rfl).2).elem e49 rfl)).open1 rfl
                replace hO : IniOK [⟨u3, Sl_u3, trR (geB w0.heap.size) (oSl 24 (oSl 3 (oRd (eInt .i64)))) y24 [((vptr u3 (y8.toNat * 1)), [h50])]⟩] A w := hO.repin 0 rfl (trP.pin p_h50)
                obtain ⟨e52, hr⟩ := ck_some hr
                obtain ⟨e53, hr⟩ := ck_some hr
                obtain ⟨h54, p_h54⟩ := (((tr_root (hO.own 0 _ rfl).2).elem e53 rfl)).open1 rfl
                replace hO : IniOK [⟨u3, Sl_u3, trR (geB w0.heap.size) (oSl 24 (oSl 3 (oRd (eInt .i64)))) y24 [((vptr u3 ((y8 - (1 : Int)).toNat * 1)), [h54]), ((vptr u3 (y8.toNat * 1)), [h50])]⟩] A w := hO.repin 0 rfl (trP.pin p_h54)
                obtain ⟨e56, hr⟩ := ck_some hr
                obtain ⟨e57, hr⟩ := ck_some hr
                obtain ⟨e58, hr⟩ := ck_some hr
                obtain ⟨h59, p_h59⟩ := (((tr_root (hO.own 0 _ rfl).2).elem e58 rfl)).open1 rfl
                replace hO : IniOK [⟨u3, Sl_u3, trR (geB w0.heap.size) (oSl 24 (oSl 3 (oRd (eInt .i64)))) y24 [((vptr u3 (y8.toNat * 1)), [h59]), ((vptr u3 ((y8 - (1 : Int)).toNat * 1)), [h54]), ((vptr u3 (y8.toNat * 1)), [h50])]⟩] A w := hO.repin 0 rfl (trP.pin p_h59)
                obtain ⟨e61, hr⟩ := ck_some hr
                obtain ⟨e62, hr⟩ := ck_some hr
                obtain ⟨e63, hr⟩ := ck_some hr
                obtain ⟨e64, hr⟩ := ck_some hr
                obtain ⟨e65, hr⟩ := ck_some hr
                obtain ⟨h66, p_h66⟩ := (((tr_root (hO.own 0 _ rfl).2).elem e65 rfl)).open1 rfl
                replace hO : IniOK [⟨u3, Sl_u3, trR (geB w0.heap.size) (oSl 24 (oSl 3 (oRd (eInt .i64)))) y24 [((vptr u3 ((y8 - (1 : Int)).toNat * 1)), [h66]), ((vptr u3 (y8.toNat * 1)), [h59]), ((vptr u3 ((y8 - (1 : Int)).toNat * 1)), [h54]), ((vptr u3 (y8.toNat * 1)), [h50])]⟩] A w := hO.repin 0 rfl (trP.pin p_h66)
                obtain ⟨e68, hr⟩ := ck_some hr
                obtain ⟨e69, hr⟩ := ck_some hr
                obtain ⟨e70, hr⟩ := ck_some hr
                obtain ⟨e71, hr⟩ := ck_some hr
                refine HT.drawR [⟨u3, Sl_u3, trR (geB w0.heap.size) (oSl 24 (oSl 3 (oRd (eInt .i64)))) y24 [((vptr u3 ((y8 - (1 : Int)).toNat * 1)), [h66]), ((vptr u3 (y8.toNat * 1)), [h59]), ((vptr u3 ((y8 - (1 : Int)).toNat * 1)), [h54]), ((vptr u3 (y8.toNat * 1)), [h50])]⟩] (⟨_, true, [], none, true, fun A => .raw u3⟩ :: ⟨_, true, [], none, true, fun A => .raw (.int .i64 y8)⟩ :: ⟨_, true, [], none, true, fun A => .raw (vptr u3 (y8.toNat * 1))⟩ :: ⟨_, true, [], none, true, fun A => .raw h50⟩ :: ⟨_, true, [], none, true, fun A => .raw (.int .i64 y23)⟩ :: ⟨_, true, [], none, true, fun A => .raw u3⟩ :: ⟨_, true, [], none, true, fun A => .raw (.int .i64 y8)⟩ :: ⟨_, true, [], none, true, fun A => .raw (.int .i64 (y8 - (1 : Int)))⟩ :: ⟨_, true, [], none, true, fun A => .raw (vptr u3 ((y8 - (1 : Int)).toNat * 1))⟩ :: ⟨_, true, [], none, true, fun A => .raw h54⟩ :: ⟨_, true, [], none, true, fun A => .raw (.int .i64 y23)⟩ :: ⟨_, true, [], none, true, fun A => .raw (vptr h54 (y23.toNat * 1))⟩ :: ⟨_, true, [], none, true, fun A => .raw (.int .i64 (gtD (gtD y24 (y8 - (1 : Int))) y23))⟩ :: ⟨_, true, [], none, true, fun A => .raw (.int .i64 ((gtD (gtD y24 (y8 - (1 : Int))) y23) + (1 : Int)))⟩ :: ⟨_, true, [], none, true, fun A => .raw u3⟩ :: ⟨_, true, [], none, true, fun A => .raw (.int .i64 y8)⟩ :: ⟨_, true, [], none, true, fun A => .raw (vptr u3 (y8.toNat * 1))⟩ :: ⟨_, true, [], none, true, fun A => .raw h59⟩ :: ⟨_, true, [], none, true, fun A => .raw (.int .i64 y23)⟩ :: ⟨_, true, [], none, true, fun A => .raw (.int .i64 (y23 - (1 : Int)))⟩ :: ⟨_, true, [], none, true, fun A => .raw (vptr h59 ((y23 - (1 : Int)).toNat * 1))⟩ :: ⟨_, true, [], none, true, fun A => .raw (.int .i64 (gtD (gtD y24 y8) (y23 - (1 : Int))))⟩ :: ⟨_, true, [], none, true, fun A => .raw (.int .i64 ((gtD (gtD y24 y8) (y23 - (1 : Int))) + (1 : Int)))⟩ :: ⟨_, true, [], none, true, fun A => .raw u3⟩ :: ⟨_, true, [], none, true, fun A => .raw (.int .i64 y8)⟩ :: ⟨_, true, [], none, true, fun A => .raw (.int .i64 (y8 - (1 : Int)))⟩ :: ⟨_, true, [], none, true, fun A => .raw (vptr u3 ((y8 - (1 : Int)).toNat * 1))⟩ :: ⟨_, true, [], none, true, fun A => .raw h66⟩ :: ⟨_, true, [], none, true, fun A => .raw (.int .i64 y23)⟩ :: ⟨_, true, [], none, true, fun A => .raw (.int .i64 (y23 - (1 : Int)))⟩ :: ⟨_, true, [], none, true, fun A => .raw (vptr h66 ((y23 - (1 : Int)).toNat * 1))⟩ :: ⟨_, true, [], none, true, fun A => .raw (.int .i64 (gtD (gtD y24 (y8 - (1 : Int))) (y23 - (1 : Int))))⟩ :: ⟨_, true, [], none, true, fun A => .raw (.int .i64 (0 : Int))⟩ :: ⟨_, true, [], none, true, fun A => .raw (.int .i64 ((gtD (gtD y24 (y8 - (1 : Int))) (y23 - (1 : Int))) + (0 : Int)))⟩ :: ⟨_, true, [], none, true, fun A => .raw (.int .i64 (min (min ((gtD (gtD y24 (y8 - (1 : Int))) y23) + (1 : Int)) ((gtD (gtD y24 y8) (y23 - (1 : Int))) + (1 : Int))) ((gtD (gtD y24 (y8 - (1 : Int))) (y23 - (1 : Int))) + (0 : Int))))⟩ :: ⟨_, true, [], none, true, fun A => .raw (vptr h50 (y23.toNat * 1))⟩ :: ⟨_, true, [0], some (trR (geB w0.heap.size) (oSl 24 (oSl 3 (oRd (eInt .i64)))) (y24.set y8.toNat ((gtD y24 y8).set y23.toNat (min (min ((gtD (gtD y24 (y8 - (1 : Int))) y23) + (1 : Int)) ((gtD (gtD y24 y8) (y23 - (1 : Int))) + (1 : Int))) ((gtD (gtD y24 (y8 - (1 : Int))) (y23 - (1 : Int))) + (0 : Int))))) []), false, fun A => .any⟩ :: []) (by kernel_rfl) (by kernel_rfl) (by kernel_rfl) (Wf.mk' (by kernel_rfl) (UAll.cons ust_raw (UAll.cons ust_raw (UAll.cons ust_raw (UAll.cons ust_raw (UAll.cons ust_raw (UAll.cons ust_raw (UAll.cons ust_raw (UAll.cons ust_raw (UAll.cons ust_raw (UAll.cons ust_raw (UAll.cons ust_raw (UAll.cons ust_raw (UAll.cons ust_raw (UAll.cons ust_raw (UAll.cons ust_raw (UAll.cons ust_raw (UAll.cons ust_raw (UAll.cons ust_raw (UAll.cons ust_raw (UAll.cons ust_raw (UAll.cons ust_raw (UAll.cons ust_raw (UAll.cons ust_raw (UAll.cons ust_raw (UAll.cons ust_raw (UAll.cons ust_raw (UAll.cons ust_raw (UAll.cons ust_raw (UAll.cons ust_raw (UAll.cons ust_raw (UAll.cons ust_raw (UAll.cons ust_raw (UAll.cons ust_raw (UAll.cons ust_raw (UAll.cons ust_raw (UAll.cons ust_raw (UAll.cons ust_any (UAll.nil)))))))))))))))))))))))))))))))))))))) (by kernel_rfl) (by kernel_rfl)) hO hA ?_ ?_
                · exact
                    OblsR.cons (OblR.plain rfl rfl rfl rfl fun A' R' w' ho hd => by have a0 : R' 7 = u3 := (ho.old 7 rfl).trans h7; exact of_move a0) <|
                    OblsR.cons (OblR.plain rfl rfl rfl rfl fun A' R' w' ho hd => by have a0 : R' 8 = .int .i64 y8 := (ho.old 8 rfl).trans h8; exact of_move a0) <|
                    OblsR.cons (OblR.plain rfl rfl rfl rfl fun A' R' w' ho hd => by have a0 : R' 64 = u3 := hd 0 _ _ _ rfl rfl rfl rfl rfl; have a1 : R' 65 = .int .i64 y8 := hd 1 _ _ _ rfl rfl rfl rfl rfl; exact of_indexAddr_tr (tr_root (hO.own 0 _ rfl).2) a0 a1 Try.underlying75 Try.sizeOf24 e49 rfl) <|
                    OblsR.cons (OblR.plain rfl rfl rfl rfl fun A' R' w' ho hd => by have a0 : R' 66 = (vptr u3 (y8.toNat * 1)) := hd 0 _ _ _ rfl rfl rfl rfl rfl; exact of_load_pin ((ho.rdo 0 _ rfl rfl).2.2 _ (.tail _ (.tail _ (.tail _ (.head _))))) a0 Try.isAgg24 Try.sizeOf24) <|
                    OblsR.cons (OblR.plain rfl rfl rfl rfl fun A' R' w' ho hd => by have a0 : R' 9 = .int .i64 y23 := (ho.old 9 rfl).trans h9; exact of_move a0) <|
                    OblsR.cons (OblR.plain rfl rfl rfl rfl fun A' R' w' ho hd => by have a0 : R' 7 = u3 := (ho.old 7 rfl).trans h7; exact of_move a0) <|
                    OblsR.cons (OblR.plain rfl rfl rfl rfl fun A' R' w' ho hd => by have a0 : R' 8 = .int .i64 y8 := (ho.old 8 rfl).trans h8; exact of_move a0) <|
                    OblsR.cons (OblR.plain rfl rfl rfl rfl fun A' R' w' ho hd => by have a0 : R' 70 = .int .i64 y8 := hd 0 _ _ _ rfl rfl rfl rfl rfl; exact of_sub a0 rfl e52) <|
                    OblsR.cons (OblR.plain rfl rfl rfl rfl fun A' R' w' ho hd => by have a0 : R' 69 = u3 := hd 0 _ _ _ rfl rfl rfl rfl rfl; have a1 : R' 71 = .int .i64 (y8 - (1 : Int)) := hd 1 _ _ _ rfl rfl rfl rfl rfl; exact of_indexAddr_tr (tr_root (hO.own 0 _ rfl).2) a0 a1 Try.underlying75 Try.sizeOf24 e53 rfl) <|
                    OblsR.cons (OblR.plain rfl rfl rfl rfl fun A' R' w' ho hd => by have a0 : R' 72 = (vptr u3 ((y8 - (1 : Int)).toNat * 1)) := hd 0 _ _ _ rfl rfl rfl rfl rfl; exact of_load_pin ((ho.rdo 0 _ rfl rfl).2.2 _ (.tail _ (.tail _ (.head _)))) a0 Try.isAgg24 Try.sizeOf24) <|
                    OblsR.cons (OblR.plain rfl rfl rfl rfl fun A' R' w' ho hd => by have a0 : R' 9 = .int .i64 y23 := (ho.old 9 rfl).trans h9; exact of_move a0) <|
                    OblsR.cons (OblR.plain rfl rfl rfl rfl fun A' R' w' ho hd => by have a0 : R' 73 = h54 := hd 0 _ _ _ rfl rfl rfl rfl rfl; have a1 : R' 74 = .int .i64 y23 := hd 1 _ _ _ rfl rfl rfl rfl rfl; exact of_indexAddr_tr ((((tr_root (hO.own 0 _ rfl).2).elem e53 rfl)).pin ((hO.own 0 _ rfl).2.2 _ (.tail _ (.tail _ (.head _)))) rfl) a0 a1 Try.underlying24 Try.sizeOf3 e56 rfl) <|
                    OblsR.cons (OblR.plain rfl rfl rfl rfl fun A' R' w' ho hd => by have a0 : R' 75 = (vptr h54 (y23.toNat * 1)) := hd 0 _ _ _ rfl rfl rfl rfl rfl; exact OpF.int (of_load_tr ((((((tr_root (ho.rdo 0 _ rfl rfl).2).elem e53 rfl)).pin ((ho.rdo 0 _ rfl rfl).2.2 _ (.tail _ (.tail _ (.head _)))) rfl).elem e56 rfl)) a0 Try.isAgg3 Try.sizeOf3)) <|
                    OblsR.cons (OblR.plain rfl rfl rfl rfl fun A' R' w' ho hd => by have a0 : R' 76 = .int .i64 (gtD (gtD y24 (y8 - (1 : Int))) y23) := hd 0 _ _ _ rfl rfl rfl rfl rfl; exact of_add a0 rfl e57) <|
                    OblsR.cons (OblR.plain rfl rfl rfl rfl fun A' R' w' ho hd => by have a0 : R' 7 = u3 := (ho.old 7 rfl).trans h7; exact of_move a0) <|
                    OblsR.cons (OblR.plain rfl rfl rfl rfl fun A' R' w' ho hd => by have a0 : R' 8 = .int .i64 y8 := (ho.old 8 rfl).trans h8; exact of_move a0) <|
                    OblsR.cons (OblR.plain rfl rfl rfl rfl fun A' R' w' ho hd => by have a0 : R' 78 = u3 := hd 0 _ _ _ rfl rfl rfl rfl rfl; have a1 : R' 79 = .int .i64 y8 := hd 1 _ _ _ rfl rfl rfl rfl rfl; exact of_indexAddr_tr (tr_root (hO.own 0 _ rfl).2) a0 a1 Try.underlying75 Try.sizeOf24 e58 rfl) <|
                    OblsR.cons (OblR.plain rfl rfl rfl rfl fun A' R' w' ho hd => by have a0 : R' 80 = (vptr u3 (y8.toNat * 1)) := hd 0 _ _ _ rfl rfl rfl rfl rfl; exact of_load_pin ((ho.rdo 0 _ rfl rfl).2.2 _ (.tail _ (.head _))) a0 Try.isAgg24 Try.sizeOf24) <|
                    OblsR.cons (OblR.plain rfl rfl rfl rfl fun A' R' w' ho hd => by have a0 : R' 9 = .int .i64 y23 := (ho.old 9 rfl).trans h9; exact of_move a0) <|
                    OblsR.cons (OblR.plain rfl rfl rfl rfl fun A' R' w' ho hd => by have a0 : R' 82 = .int .i64 y23 := hd 0 _ _ _ rfl rfl rfl rfl rfl; exact of_sub a0 rfl e61) <|
                    OblsR.cons (OblR.plain rfl rfl rfl rfl fun A' R' w' ho hd => by have a0 : R' 81 = h59 := hd 0 _ _ _ rfl rfl rfl rfl rfl; have a1 : R' 83 = .int .i64 (y23 - (1 : Int)) := hd 1 _ _ _ rfl rfl rfl rfl rfl; exact of_indexAddr_tr ((((tr_root (hO.own 0 _ rfl).2).elem e58 rfl)).pin ((hO.own 0 _ rfl).2.2 _ (.tail _ (.head _))) rfl) a0 a1 Try.underlying24 Try.sizeOf3 e62 rfl) <|
                    OblsR.cons (OblR.plain rfl rfl rfl rfl fun A' R' w' ho hd => by have a0 : R' 84 = (vptr h59 ((y23 - (1 : Int)).toNat * 1)) := hd 0 _ _ _ rfl rfl rfl rfl rfl; exact OpF.int (of_load_tr ((((((tr_root (ho.rdo 0 _ rfl rfl).2).elem e58 rfl)).pin ((ho.rdo 0 _ rfl rfl).2.2 _ (.tail _ (.head _))) rfl).elem e62 rfl)) a0 Try.isAgg3 Try.sizeOf3)) <|
                    OblsR.cons (OblR.plain rfl rfl rfl rfl fun A' R' w' ho hd => by have a0 : R' 85 = .int .i64 (gtD (gtD y24 y8) (y23 - (1 : Int))) := hd 0 _ _ _ rfl rfl rfl rfl rfl; exact of_add a0 rfl e63) <|
                    OblsR.cons (OblR.plain rfl rfl rfl rfl fun A' R' w' ho hd => by have a0 : R' 7 = u3 := (ho.old 7 rfl).trans h7; exact of_move a0) <|
                    OblsR.cons (OblR.plain rfl rfl rfl rfl fun A' R' w' ho hd => by have a0 : R' 8 = .int .i64 y8 := (ho.old 8 rfl).trans h8; exact of_move a0) <|
                    OblsR.cons (OblR.plain rfl rfl rfl rfl fun A' R' w' ho hd => by have a0 : R' 88 = .int .i64 y8 := hd 0 _ _ _ rfl rfl rfl rfl rfl; exact of_sub a0 rfl e64) <|
                    OblsR.cons (OblR.plain rfl rfl rfl rfl fun A' R' w' ho hd => by have a0 : R' 87 = u3 := hd 0 _ _ _ rfl rfl rfl rfl rfl; have a1 : R' 89 = .int .i64 (y8 - (1 : Int)) := hd 1 _ _ _ rfl rfl rfl rfl rfl; exact of_indexAddr_tr (tr_root (hO.own 0 _ rfl).2) a0 a1 Try.underlying75 Try.sizeOf24 e65 rfl) <|
                    OblsR.cons (OblR.plain rfl rfl rfl rfl fun A' R' w' ho hd => by have a0 : R' 90 = (vptr u3 ((y8 - (1 : Int)).toNat * 1)) := hd 0 _ _ _ rfl rfl rfl rfl rfl; exact of_load_pin ((ho.rdo 0 _ rfl rfl).2.2 _ (.head _)) a0 Try.isAgg24 Try.sizeOf24) <|
                    OblsR.cons (OblR.plain rfl rfl rfl rfl fun A' R' w' ho hd => by have a0 : R' 9 = .int .i64 y23 := (ho.old 9 rfl).trans h9; exact of_move a0) <|
                    OblsR.cons (OblR.plain rfl rfl rfl rfl fun A' R' w' ho hd => by have a0 : R' 92 = .int .i64 y23 := hd 0 _ _ _ rfl rfl rfl rfl rfl; exact of_sub a0 rfl e68) <|
                    OblsR.cons (OblR.plain rfl rfl rfl rfl fun A' R' w' ho hd => by have a0 : R' 91 = h66 := hd 0 _ _ _ rfl rfl rfl rfl rfl; have a1 : R' 93 = .int .i64 (y23 - (1 : Int)) := hd 1 _ _ _ rfl rfl rfl rfl rfl; exact of_indexAddr_tr ((((tr_root (hO.own 0 _ rfl).2).elem e65 rfl)).pin ((hO.own 0 _ rfl).2.2 _ (.head _)) rfl) a0 a1 Try.underlying24 Try.sizeOf3 e69 rfl) <|
                    OblsR.cons (OblR.plain rfl rfl rfl rfl fun A' R' w' ho hd => by have a0 : R' 94 = (vptr h66 ((y23 - (1 : Int)).toNat * 1)) := hd 0 _ _ _ rfl rfl rfl rfl rfl; exact OpF.int (of_load_tr ((((((tr_root (ho.rdo 0 _ rfl rfl).2).elem e65 rfl)).pin ((ho.rdo 0 _ rfl rfl).2.2 _ (.head _)) rfl).elem e69 rfl)) a0 Try.isAgg3 Try.sizeOf3)) <|
                    OblsR.cons (OblR.plain rfl rfl rfl rfl fun A' R' w' ho hd => by have a0 : R' 10 = .int .i64 (0 : Int) := (ho.old 10 rfl).trans h10; exact of_move a0) <|
                    OblsR.cons (OblR.plain rfl rfl rfl rfl fun A' R' w' ho hd => by have a0 : R' 95 = .int .i64 (gtD (gtD y24 (y8 - (1 : Int))) (y23 - (1 : Int))) := hd 0 _ _ _ rfl rfl rfl rfl rfl; have a1 : R' 96 = .int .i64 (0 : Int) := hd 1 _ _ _ rfl rfl rfl rfl rfl; exact of_add a0 a1 e70) <|
                    OblsR.cons (OblR.plain rfl rfl rfl rfl fun A' R' w' ho hd => by have a0 : R' 77 = .int .i64 ((gtD (gtD y24 (y8 - (1 : Int))) y23) + (1 : Int)) := hd 0 _ _ _ rfl rfl rfl rfl rfl; have a1 : R' 86 = .int .i64 ((gtD (gtD y24 y8) (y23 - (1 : Int))) + (1 : Int)) := hd 1 _ _ _ rfl rfl rfl rfl rfl; have a2 : R' 97 = .int .i64 ((gtD (gtD y24 (y8 - (1 : Int))) (y23 - (1 : Int))) + (0 : Int)) := hd 2 _ _ _ rfl rfl rfl rfl rfl; exact of_min3 a0 a1 a2) <|
                    OblsR.cons (OblR.plain rfl rfl rfl rfl fun A' R' w' ho hd => by have a0 : R' 67 = h50 := hd 0 _ _ _ rfl rfl rfl rfl rfl; have a1 : R' 68 = .int .i64 y23 := hd 1 _ _ _ rfl rfl rfl rfl rfl; exact of_indexAddr_tr ((((tr_root (hO.own 0 _ rfl).2).elem e49 rfl)).pin ((hO.own 0 _ rfl).2.2 _ (.tail _ (.tail _ (.tail _ (.head _))))) rfl) a0 a1 Try.underlying24 Try.sizeOf3 e71 rfl) <|
                    OblsR.cons (OblR.tookS 0 _ _ rfl rfl rfl rfl rfl fun A' R' w' ho hd u S hok hown hav hin hop hds => by have a0 : R' 99 = (vptr h50 (y23.toNat * 1)) := hd 0 _ _ _ rfl rfl rfl rfl rfl; have a1 : R' 98 = .int .i64 (min (min ((gtD (gtD y24 (y8 - (1 : Int))) y23) + (1 : Int)) ((gtD (gtD y24 y8) (y23 - (1 : Int))) + (1 : Int))) ((gtD (gtD y24 (y8 - (1 : Int))) (y23 - (1 : Int))) + (0 : Int))) := hd 1 _ _ _ rfl rfl rfl rfl rfl; have e0 := (hin _ rfl).1; rw [e0] at hown ⊢; exact took_hstore (((((tr_root hown.2).elem e49 rfl)).pin (hown.2.2 _ (.tail _ (.tail _ (.tail _ (.head _))))) rfl).elem e71 rfl) (rep_int.eq a1) a0 hav hown.1 Try.sizeOf3 (fun _ _ _ h => h)) <|
                    OblsR.nil
                intro done ρ σ A R w hdn hI
                replace h0 : R 0 = v0 := (hI.reg rfl).trans h0
                replace h1 : R 1 = v1 := (hI.reg rfl).trans h1
                replace h2 : R 2 = .bool p2 := (hI.reg rfl).trans h2
                replace h7 : R 7 = u3 := (hI.reg rfl).trans h7
                replace h8 : R 8 = .int .i64 y8 := (hI.reg rfl).trans h8
                replace h9 : R 9 = .int .i64 y23 := (hI.reg rfl).trans h9
                replace h16 : R 16 = .int .i64 ((List.replicate ((p0.length : Int) + (1 : Int)).toNat ([] : List Int)).length : Int) := (hI.reg rfl).trans h16
                replace h17 : R 17 = .int .i64 y8 := (hI.reg rfl).trans h17
                replace h31 : R 31 = .int .i64 ((gtD (y9.set y8.toNat (List.replicate ((p1.length : Int) + (1 : Int)).toNat (0 : Int))) y8).length : Int) := (hI.reg rfl).trans h31
                replace h32 : R 32 = .int .i64 y23 := (hI.reg rfl).trans h32
                have z72 := hI.inivR 0 rfl
                have z73 := (hI.opnR hdn 37 36 rfl rfl rfl rfl rfl).trans z72
                obtain ⟨S74, eS_u3⟩ : ∃ S, σ 37 = S := ⟨_, rfl⟩
                replace f_v0 := f_v0.stp hI.stp
                replace f_v1 := f_v1.stp hI.stp
                replace hAA := hI.low' hAA hA0 (hO.ge (⟨fun _ h => h, trivial⟩))
                replace hF : Fr w0 w := hF.tr hI.ch (hO.ge (⟨fun _ h => h, trivial⟩))
                replace hO : IniOK [⟨u3, S74, trR (geB w0.heap.size) (oSl 24 (oSl 3 (oRd (eInt .i64)))) (y24.set y8.toNat ((gtD y24 y8).set y23.toNat (min (min ((gtD (gtD y24 (y8 - (1 : Int))) y23) + (1 : Int)) ((gtD (gtD y24 y8) (y23 - (1 : Int))) + (1 : Int))) ((gtD (gtD y24 (y8 - (1 : Int))) (y23 - (1 : Int))) + (0 : Int))))) []⟩] A w := hI.left hdn [(37, ⟨u3, S74, trR (geB w0.heap.size) (oSl 24 (oSl 3 (oRd (eInt .i64)))) (y24.set y8.toNat ((gtD y24 y8).set y23.toNat (min (min ((gtD (gtD y24 (y8 - (1 : Int))) y23) + (1 : Int)) ((gtD (gtD y24 y8) (y23 - (1 : Int))) + (1 : Int))) ((gtD (gtD y24 (y8 - (1 : Int))) (y23 - (1 : Int))) + (0 : Int))))) []⟩)] ⟨rfl, rfl, z73, eS_u3, rfl, trivial⟩
                replace hA := hI.avok
                clear hI
                refine HT.seq ?_
                obtain ⟨x75, q76, hr⟩ := bd_some hr
                obtain ⟨x77, q78, hr⟩ := bd_some hr
                obtain ⟨e79, hr⟩ := ck_some hr
                obtain ⟨e80, hr⟩ := ck_some hr
                obtain ⟨e81, hr⟩ := ck_some hr
                obtain ⟨e82, hr⟩ := ck_some hr
                obtain ⟨x83, q84, hr⟩ := bd_some hr
                obtain ⟨e85, hr⟩ := ck_some hr
                obtain ⟨e86, hr⟩ := ck_some hr
                obtain ⟨e87, hr⟩ := ck_some hr
                obtain ⟨e88, hr⟩ := ck_some hr
                obtain ⟨x89, q90, hr⟩ := bd_some hr
                refine HT.draw (by kernel_rfl) (l := ⟨_, true, .raw (.bool p2)⟩ :: ⟨_, true, .raw (.bool p2)⟩ :: ⟨_, (true && (p2 == true)), .raw (.int .i64 y8)⟩ :: ⟨_, (true && (p2 == true)), .raw (.bool (decide ((1 : Int) < y8)))⟩ :: ⟨_, true, .raw (.bool x75)⟩ :: ⟨_, true, .raw (.bool x75)⟩ :: ⟨_, (true && (x75 == true)), .raw (.int .i64 y23)⟩ :: ⟨_, (true && (x75 == true)), .raw (.bool (decide ((1 : Int) < y23)))⟩ :: ⟨_, true, .raw (.bool x77)⟩ :: ⟨_, true, .raw (.bool x77)⟩ :: ⟨_, (true && (x77 == true)), .raw v0⟩ :: ⟨_, (true && (x77 == true)), .raw (.int .i64 y8)⟩ :: ⟨_, (true && (x77 == true)), .raw (.int .i64 (y8 - (1 : Int)))⟩ :: ⟨_, (true && (x77 == true)), .raw (.int .u8 (bAt p0 (y8 - (1 : Int))))⟩ :: ⟨_, (true && (x77 == true)), .raw v1⟩ :: ⟨_, (true && (x77 == true)), .raw (.int .i64 y23)⟩ :: ⟨_, (true && (x77 == true)), .raw (.int .i64 (y23 - (2 : Int)))⟩ :: ⟨_, (true && (x77 == true)), .raw (.int .u8 (bAt p1 (y23 - (2 : Int))))⟩ :: ⟨_, (true && (x77 == true)), .raw (.bool ((bAt p0 (y8 - (1 : Int))) == (bAt p1 (y23 - (2 : Int)))))⟩ :: ⟨_, true, .raw (.bool x83)⟩ :: ⟨_, true, .raw (.bool x83)⟩ :: ⟨_, (true && (x83 == true)), .raw v0⟩ :: ⟨_, (true && (x83 == true)), .raw (.int .i64 y8)⟩ :: ⟨_, (true && (x83 == true)), .raw (.int .i64 (y8 - (2 : Int)))⟩ :: ⟨_, (true && (x83 == true)), .raw (.int .u8 (bAt p0 (y8 - (2 : Int))))⟩ :: ⟨_, (true && (x83 == true)), .raw v1⟩ :: ⟨_, (true && (x83 == true)), .raw (.int .i64 y23)⟩ :: ⟨_, (true && (x83 == true)), .raw (.int .i64 (y23 - (1 : Int)))⟩ :: ⟨_, (true && (x83 == true)), .raw (.int .u8 (bAt p1 (y23 - (1 : Int))))⟩ :: ⟨_, (true && (x83 == true)), .raw (.bool ((bAt p0 (y8 - (2 : Int))) == (bAt p1 (y23 - (1 : Int)))))⟩ :: ⟨_, true, .raw (.bool x89)⟩ :: []) (tl := []) (by kernel_rfl) (by kernel_rfl) (by kernel_rfl) (by kernel_rfl) ?_ ?_
                · exact
                    Obls.cons (Obl.plain rfl rfl fun R' w' hw hs hd => by have a0 : R' 2 = .bool p2 := (hs 2 rfl).trans h2; exact of_move a0) <|
                    Obls.cons (Obl.plain rfl rfl fun R' w' hw hs hd => by have a0 : R' 100 = .bool p2 := hd 0 _ _ _ rfl rfl rfl rfl rfl; exact of_move a0) <|
                    Obls.cons (Obl.grd 1 true _ _ _ rfl rfl rfl rfl rfl (by kernel_rfl) fun hg R' w' hw hs hd => by have a0 : R' 8 = .int .i64 y8 := (hs 8 rfl).trans h8; exact of_move a0) <|
                    Obls.cons (Obl.grd 1 true _ _ _ rfl rfl rfl rfl rfl (by kernel_rfl) fun hg R' w' hw hs hd => by have a0 : R' 102 = .int .i64 y8 := hd 0 _ _ _ rfl rfl rfl rfl hg; exact of_gtr a0 rfl) <|
                    Obls.cons (Obl.plain rfl rfl fun R' w' hw hs hd => by have a0 : R' 101 = .bool p2 := hd 0 _ _ _ rfl rfl rfl rfl rfl; exact of_pick p2 a0 (fun hc => by have a1 : R' 103 = .bool (decide ((1 : Int) < y8)) := hd 1 _ _ _ rfl rfl rfl rfl (g_and rfl (beq_of hc)); show _ = Value.bool x75; rw [q76, hc]; exact a1) (fun hc => by show _ = Value.bool x75; rw [q76, hc]; exact rfl)) <|
                    Obls.cons (Obl.plain rfl rfl fun R' w' hw hs hd => by have a0 : R' 104 = .bool x75 := hd 0 _ _ _ rfl rfl rfl rfl rfl; exact of_move a0) <|
                    Obls.cons (Obl.grd 5 true _ _ _ rfl rfl rfl rfl rfl (by kernel_rfl) fun hg R' w' hw hs hd => by have a0 : R' 9 = .int .i64 y23 := (hs 9 rfl).trans h9; exact of_move a0) <|
                    Obls.cons (Obl.grd 5 true _ _ _ rfl rfl rfl rfl rfl (by kernel_rfl) fun hg R' w' hw hs hd => by have a0 : R' 106 = .int .i64 y23 := hd 0 _ _ _ rfl rfl rfl rfl hg; exact of_gtr a0 rfl) <|
                    Obls.cons (Obl.plain rfl rfl fun R' w' hw hs hd => by have a0 : R' 105 = .bool x75 := hd 0 _ _ _ rfl rfl rfl rfl rfl; exact of_pick x75 a0 (fun hc => by have a1 : R' 107 = .bool (decide ((1 : Int) < y23)) := hd 1 _ _ _ rfl rfl rfl rfl (g_and rfl (beq_of hc)); show _ = Value.bool x77; rw [q78, hc]; exact a1) (fun hc => by show _ = Value.bool x77; rw [q78, hc]; exact rfl)) <|
                    Obls.cons (Obl.plain rfl rfl fun R' w' hw hs hd => by have a0 : R' 108 = .bool x77 := hd 0 _ _ _ rfl rfl rfl rfl rfl; exact of_move a0) <|
                    Obls.cons (Obl.grd 9 true _ _ _ rfl rfl rfl rfl rfl (by kernel_rfl) fun hg R' w' hw hs hd => by have a0 : R' 0 = v0 := (hs 0 rfl).trans h0; exact of_move a0) <|
                    Obls.cons (Obl.grd 9 true _ _ _ rfl rfl rfl rfl rfl (by kernel_rfl) fun hg R' w' hw hs hd => by have a0 : R' 8 = .int .i64 y8 := (hs 8 rfl).trans h8; exact of_move a0) <|
                    Obls.cons (Obl.grd 9 true _ _ _ rfl rfl rfl rfl rfl (by kernel_rfl) fun hg R' w' hw hs hd => by have a0 : R' 111 = .int .i64 y8 := hd 0 _ _ _ rfl rfl rfl rfl hg; exact of_sub a0 rfl (gd e79 hg)) <|
                    Obls.cons (Obl.grd 9 true _ _ _ rfl rfl rfl rfl rfl (by kernel_rfl) fun hg R' w' hw hs hd => by have a0 : R' 110 = v0 := hd 0 _ _ _ rfl rfl rfl rfl hg; have ra0 := (f_v0.fr hw).eq a0; have a1 : R' 112 = .int .i64 (y8 - (1 : Int)) := hd 1 _ _ _ rfl rfl rfl rfl hg; exact of_strIndex ra0 a1 Try.underlying9 (gd e80 hg)) <|
                    Obls.cons (Obl.grd 9 true _ _ _ rfl rfl rfl rfl rfl (by kernel_rfl) fun hg R' w' hw hs hd => by have a0 : R' 1 = v1 := (hs 1 rfl).trans h1; exact of_move a0) <|
                    Obls.cons (Obl.grd 9 true _ _ _ rfl rfl rfl rfl rfl (by kernel_rfl) fun hg R' w' hw hs hd => by have a0 : R' 9 = .int .i64 y23 := (hs 9 rfl).trans h9; exact of_move a0) <|
                    Obls.cons (Obl.grd 9 true _ _ _ rfl rfl rfl rfl rfl (by kernel_rfl) fun hg R' w' hw hs hd => by have a0 : R' 115 = .int .i64 y23 := hd 0 _ _ _ rfl rfl rfl rfl hg; exact of_sub a0 rfl (gd e81 hg)) <|
                    Obls.cons (Obl.grd 9 true _ _ _ rfl rfl rfl rfl rfl (by kernel_rfl) fun hg R' w' hw hs hd => by have a0 : R' 114 = v1 := hd 0 _ _ _ rfl rfl rfl rfl hg; have ra0 := (f_v1.fr hw).eq a0; have a1 : R' 116 = .int .i64 (y23 - (2 : Int)) := hd 1 _ _ _ rfl rfl rfl rfl hg; exact of_strIndex ra0 a1 Try.underlying9 (gd e82 hg)) <|
                    Obls.cons (Obl.grd 9 true _ _ _ rfl rfl rfl rfl rfl (by kernel_rfl) fun hg R' w' hw hs hd => by have a0 : R' 113 = .int .u8 (bAt p0 (y8 - (1 : Int))) := hd 0 _ _ _ rfl rfl rfl rfl hg; have a1 : R' 117 = .int .u8 (bAt p1 (y23 - (2 : Int))) := hd 1 _ _ _ rfl rfl rfl rfl hg; exact of_eql a0 a1) <|
                    Obls.cons (Obl.plain rfl rfl fun R' w' hw hs hd => by have a0 : R' 109 = .bool x77 := hd 0 _ _ _ rfl rfl rfl rfl rfl; exact of_pick x77 a0 (fun hc => by have a1 : R' 118 = .bool ((bAt p0 (y8 - (1 : Int))) == (bAt p1 (y23 - (2 : Int)))) := hd 1 _ _ _ rfl rfl rfl rfl (g_and rfl (beq_of hc)); show _ = Value.bool x83; rw [q84, hc]; exact a1) (fun hc => by show _ = Value.bool x83; rw [q84, hc]; exact rfl)) <|
                    Obls.cons (Obl.plain rfl rfl fun R' w' hw hs hd => by have a0 : R' 119 = .bool x83 := hd 0 _ _ _ rfl rfl rfl rfl rfl; exact of_move a0) <|
                    Obls.cons (Obl.grd 20 true _ _ _ rfl rfl rfl rfl rfl (by kernel_rfl) fun hg R' w' hw hs hd => by have a0 : R' 0 = v0 := (hs 0 rfl).trans h0; exact of_move a0) <|
                    Obls.cons (Obl.grd 20 true _ _ _ rfl rfl rfl rfl rfl (by kernel_rfl) fun hg R' w' hw hs hd => by have a0 : R' 8 = .int .i64 y8 := (hs 8 rfl).trans h8; exact of_move a0) <|
                    Obls.cons (Obl.grd 20 true _ _ _ rfl rfl rfl rfl rfl (by kernel_rfl) fun hg R' w' hw hs hd => by have a0 : R' 122 = .int .i64 y8 := hd 0 _ _ _ rfl rfl rfl rfl hg; exact of_sub a0 rfl (gd e85 hg)) <|
                    Obls.cons (Obl.grd 20 true _ _ _ rfl rfl rfl rfl rfl (by kernel_rfl) fun hg R' w' hw hs hd => by have a0 : R' 121 = v0 := hd 0 _ _ _ rfl rfl rfl rfl hg; have ra0 := (f_v0.fr hw).eq a0; have a1 : R' 123 = .int .i64 (y8 - (2 : Int)) := hd 1 _ _ _ rfl rfl rfl rfl hg; exact of_strIndex ra0 a1 Try.underlying9 (gd e86 hg)) <|
                    Obls.cons (Obl.grd 20 true _ _ _ rfl rfl rfl rfl rfl (by kernel_rfl) fun hg R' w' hw hs hd => by have a0 : R' 1 = v1 := (hs 1 rfl).trans h1; exact of_move a0) <|
                    Obls.cons (Obl.grd 20 true _ _ _ rfl rfl rfl rfl rfl (by kernel_rfl) fun hg R' w' hw hs hd => by have a0 : R' 9 = .int .i64 y23 := (hs 9 rfl).trans h9; exact of_move a0) <|
                    Obls.cons (Obl.grd 20 true _ _ _ rfl rfl rfl rfl rfl (by kernel_rfl) fun hg R' w' hw hs hd => by have a0 : R' 126 = .int .i64 y23 := hd 0 _ _ _ rfl rfl rfl rfl hg; exact of_sub a0 rfl (gd e87 hg)) <|
                    Obls.cons (Obl.grd 20 true _ _ _ rfl rfl rfl rfl rfl (by kernel_rfl) fun hg R' w' hw hs hd => by have a0 : R' 125 = v1 := hd 0 _ _ _ rfl rfl rfl rfl hg; have ra0 := (f_v1.fr hw).eq a0; have a1 : R' 127 = .int .i64 (y23 - (1 : Int)) := hd 1 _ _ _ rfl rfl rfl rfl hg; exact of_strIndex ra0 a1 Try.underlying9 (gd e88 hg)) <|
                    Obls.cons (Obl.grd 20 true _ _ _ rfl rfl rfl rfl rfl (by kernel_rfl) fun hg R' w' hw hs hd => by have a0 : R' 124 = .int .u8 (bAt p0 (y8 - (2 : Int))) := hd 0 _ _ _ rfl rfl rfl rfl hg; have a1 : R' 128 = .int .u8 (bAt p1 (y23 - (1 : Int))) := hd 1 _ _ _ rfl rfl rfl rfl hg; exact of_eql a0 a1) <|
                    Obls.cons (Obl.plain rfl rfl fun R' w' hw hs hd => by have a0 : R' 120 = .bool x83 := hd 0 _ _ _ rfl rfl rfl rfl rfl; exact of_pick x83 a0 (fun hc => by have a1 : R' 129 = .bool ((bAt p0 (y8 - (2 : Int))) == (bAt p1 (y23 - (1 : Int)))) := hd 1 _ _ _ rfl rfl rfl rfl (g_and rfl (beq_of hc)); show _ = Value.bool x89; rw [q90, hc]; exact a1) (fun hc => by show _ = Value.bool x89; rw [q90, hc]; exact rfl)) <|
                    Obls.nil
                intro R w hw hs hF'
                replace h0 : R 0 = v0 := (hs 0 rfl).trans h0
                replace h1 : R 1 = v1 := (hs 1 rfl).trans h1
                replace h2 : R 2 = .bool p2 := (hs 2 rfl).trans h2
                replace h7 : R 7 = u3 := (hs 7 rfl).trans h7
                replace h8 : R 8 = .int .i64 y8 := (hs 8 rfl).trans h8
                replace h9 : R 9 = .int .i64 y23 := (hs 9 rfl).trans h9
                replace h16 : R 16 = .int .i64 ((List.replicate ((p0.length : Int) + (1 : Int)).toNat ([] : List Int)).length : Int) := (hs 16 rfl).trans h16
                replace h17 : R 17 = .int .i64 y8 := (hs 17 rfl).trans h17
                replace h31 : R 31 = .int .i64 ((gtD (y9.set y8.toNat (List.replicate ((p1.length : Int) + (1 : Int)).toNat (0 : Int))) y8).length : Int) := (hs 31 rfl).trans h31
                replace h32 : R 32 = .int .i64 y23 := (hs 32 rfl).trans h32
                have h130 : R 130 = .bool x89 := hF' 30 _ _ rfl rfl rfl
                replace f_v0 := f_v0.fr hw
                replace f_v1 := f_v1.fr hw
                replace hO := hO.fr hw
                replace hA := hA.fr hw.size
                replace hF := hF.trans hw
                clear hs hF' hw
                refine seqR_nil ?_
                refine HT.cond x89 h130 (fun c91 => ?_) (fun c91 => ?_)
                · have hr := cnd_t c91 hr
                  obtain ⟨e92, hr⟩ := ck_some hr
                  obtain ⟨h93, p_h93⟩ := (((tr_root (hO.own 0 _ rfl).2).elem e92 rfl)).open1 rfl
                  replace hO : IniOK [⟨u3, S74, trR (geB w0.heap.size) (oSl 24 (oSl 3 (oRd (eInt .i64)))) (y24.set y8.toNat ((gtD y24 y8).set y23.toNat (min (min ((gtD (gtD y24 (y8 - (1 : Int))) y23) + (1 : Int)) ((gtD (gtD y24 y8) (y23 - (1 : Int))) + (1 : Int))) ((gtD (gtD y24 (y8 - (1 : Int))) (y23 - (1 : Int))) + (0 : Int))))) [((vptr u3 (y8.toNat * 1)), [h93])]⟩] A w := hO.repin 0 rfl (trP.pin p_h93)
                  obtain ⟨e95, hr⟩ := ck_some hr
                  obtain ⟨h96, p_h96⟩ := (((tr_root (hO.own 0 _ rfl).2).elem e95 rfl)).open1 rfl
                  replace hO : IniOK [⟨u3, S74, trR (geB w0.heap.size) (oSl 24 (oSl 3 (oRd (eInt .i64)))) (y24.set y8.toNat ((gtD y24 y8).set y23.toNat (min (min ((gtD (gtD y24 (y8 - (1 : Int))) y23) + (1 : Int)) ((gtD (gtD y24 y8) (y23 - (1 : Int))) + (1 : Int))) ((gtD (gtD y24 (y8 - (1 : Int))) (y23 - (1 : Int))) + (0 : Int))))) [((vptr u3 (y8.toNat * 1)), [h96]), ((vptr u3 (y8.toNat * 1)), [h93])]⟩] A w := hO.repin 0 rfl (trP.pin p_h96)
                  obtain ⟨e98, hr⟩ := ck_some hr
                  obtain ⟨e99, hr⟩ := ck_some hr
                  obtain ⟨e100, hr⟩ := ck_some hr
                  obtain ⟨h101, p_h101⟩ := (((tr_root (hO.own 0 _ rfl).2).elem e100 rfl)).open1 rfl
                  replace hO : IniOK [⟨u3, S74, trR (geB w0.heap.size) (oSl 24 (oSl 3 (oRd (eInt .i64)))) (y24.set y8.toNat ((gtD y24 y8).set y23.toNat (min (min ((gtD (gtD y24 (y8 - (1 : Int))) y23) + (1 : Int)) ((gtD (gtD y24 y8) (y23 - (1 : Int))) + (1 : Int))) ((gtD (gtD y24 (y8 - (1 : Int))) (y23 - (1 : Int))) + (0 : Int))))) [((vptr u3 ((y8 - (2 : Int)).toNat * 1)), [h101]), ((vptr u3 (y8.toNat * 1)), [h96]), ((vptr u3 (y8.toNat * 1)), [h93])]⟩] A w := hO.repin 0 rfl (trP.pin p_h101)
                  obtain ⟨e103, hr⟩ := ck_some hr
                  obtain ⟨e104, hr⟩ := ck_some hr
                  obtain ⟨e105, hr⟩ := ck_some hr
                  obtain ⟨e106, hr⟩ := ck_some hr
                  refine HT.drawR [⟨u3, S74, trR (geB w0.heap.size) (oSl 24 (oSl 3 (oRd (eInt .i64)))) (y24.set y8.toNat ((gtD y24 y8).set y23.toNat (min (min ((gtD (gtD y24 (y8 - (1 : Int))) y23) + (1 : Int)) ((gtD (gtD y24 y8) (y23 - (1 : Int))) + (1 : Int))) ((gtD (gtD y24 (y8 - (1 : Int))) (y23 - (1 : Int))) + (0 : Int))))) [((vptr u3 ((y8 - (2 : Int)).toNat * 1)), [h101]), ((vptr u3 (y8.toNat * 1)), [h96]), ((vptr u3 (y8.toNat * 1)), [h93])]⟩] (⟨_, true, [], none, true, fun A => .raw u3⟩ :: ⟨_, true, [], none, true, fun A => .raw (.int .i64 y8)⟩ :: ⟨_, true, [], none, true, fun A => .raw (vptr u3 (y8.toNat * 1))⟩ :: ⟨_, true, [], none, true, fun A => .raw h93⟩ :: ⟨_, true, [], none, true, fun A => .raw (.int .i64 y23)⟩ :: ⟨_, true, [], none, true, fun A => .raw u3⟩ :: ⟨_, true, [], none, true, fun A => .raw (.int .i64 y8)⟩ :: ⟨_, true, [], none, true, fun A => .raw (vptr u3 (y8.toNat * 1))⟩ :: ⟨_, true, [], none, true, fun A => .raw h96⟩ :: ⟨_, true, [], none, true, fun A => .raw (.int .i64 y23)⟩ :: ⟨_, true, [], none, true, fun A => .raw (vptr h96 (y23.toNat * 1))⟩ :: ⟨_, true, [], none, true, fun A => .raw (.int .i64 (gtD (gtD (y24.set y8.toNat ((gtD y24 y8).set y23.toNat (min (min ((gtD (gtD y24 (y8 - (1 : Int))) y23) + (1 : Int)) ((gtD (gtD y24 y8) (y23 - (1 : Int))) + (1 : Int))) ((gtD (gtD y24 (y8 - (1 : Int))) (y23 - (1 : Int))) + (0 : Int))))) y8) y23))⟩ :: ⟨_, true, [], none, true, fun A => .raw u3⟩ :: ⟨_, true, [], none, true, fun A => .raw (.int .i64 y8)⟩ :: ⟨_, true, [], none, true, fun A => .raw (.int .i64 (y8 - (2 : Int)))⟩ :: ⟨_, true, [], none, true, fun A => .raw (vptr u3 ((y8 - (2 : Int)).toNat * 1))⟩ :: ⟨_, true, [], none, true, fun A => .raw h101⟩ :: ⟨_, true, [], none, true, fun A => .raw (.int .i64 y23)⟩ :: ⟨_, true, [], none, true, fun A => .raw (.int .i64 (y23 - (2 : Int)))⟩ :: ⟨_, true, [], none, true, fun A => .raw (vptr h101 ((y23 - (2 : Int)).toNat * 1))⟩ :: ⟨_, true, [], none, true, fun A => .raw (.int .i64 (gtD (gtD (y24.set y8.toNat ((gtD y24 y8).set y23.toNat (min (min ((gtD (gtD y24 (y8 - (1 : Int))) y23) + (1 : Int)) ((gtD (gtD y24 y8) (y23 - (1 : Int))) + (1 : Int))) ((gtD (gtD y24 (y8 - (1 : Int))) (y23 - (1 : Int))) + (0 : Int))))) (y8 - (2 : Int))) (y23 - (2 : Int))))⟩ :: ⟨_, true, [], none, true, fun A => .raw (.int .i64 ((gtD (gtD (y24.set y8.toNat ((gtD y24 y8).set y23.toNat (min (min ((gtD (gtD y24 (y8 - (1 : Int))) y23) + (1 : Int)) ((gtD (gtD y24 y8) (y23 - (1 : Int))) + (1 : Int))) ((gtD (gtD y24 (y8 - (1 : Int))) (y23 - (1 : Int))) + (0 : Int))))) (y8 - (2 : Int))) (y23 - (2 : Int))) + (1 : Int)))⟩ :: ⟨_, true, [], none, true, fun A => .raw (.int .i64 (min (gtD (gtD (y24.set y8.toNat ((gtD y24 y8).set y23.toNat (min (min ((gtD (gtD y24 (y8 - (1 : Int))) y23) + (1 : Int)) ((gtD (gtD y24 y8) (y23 - (1 : Int))) + (1 : Int))) ((gtD (gtD y24 (y8 - (1 : Int))) (y23 - (1 : Int))) + (0 : Int))))) y8) y23) ((gtD (gtD (y24.set y8.toNat ((gtD y24 y8).set y23.toNat (min (min ((gtD (gtD y24 (y8 - (1 : Int))) y23) + (1 : Int)) ((gtD (gtD y24 y8) (y23 - (1 : Int))) + (1 : Int))) ((gtD (gtD y24 (y8 - (1 : Int))) (y23 - (1 : Int))) + (0 : Int))))) (y8 - (2 : Int))) (y23 - (2 : Int))) + (1 : Int))))⟩ :: ⟨_, true, [], none, true, fun A => .raw (vptr h93 (y23.toNat * 1))⟩ :: ⟨_, true, [0], some (trR (geB w0.heap.size) (oSl 24 (oSl 3 (oRd (eInt .i64)))) ((y24.set y8.toNat ((gtD y24 y8).set y23.toNat (min (min ((gtD (gtD y24 (y8 - (1 : Int))) y23) + (1 : Int)) ((gtD (gtD y24 y8) (y23 - (1 : Int))) + (1 : Int))) ((gtD (gtD y24 (y8 - (1 : Int))) (y23 - (1 : Int))) + (0 : Int))))).set y8.toNat ((gtD (y24.set y8.toNat ((gtD y24 y8).set y23.toNat (min (min ((gtD (gtD y24 (y8 - (1 : Int))) y23) + (1 : Int)) ((gtD (gtD y24 y8) (y23 - (1 : Int))) + (1 : Int))) ((gtD (gtD y24 (y8 - (1 : Int))) (y23 - (1 : Int))) + (0 : Int))))) y8).set y23.toNat (min (gtD (gtD (y24.set y8.toNat ((gtD y24 y8).set y23.toNat (min (min ((gtD (gtD y24 (y8 - (1 : Int))) y23) + (1 : Int)) ((gtD (gtD y24 y8) (y23 - (1 : Int))) + (1 : Int))) ((gtD (gtD y24 (y8 - (1 : Int))) (y23 - (1 : Int))) + (0 : Int))))) y8) y23) ((gtD (gtD (y24.set y8.toNat ((gtD y24 y8).set y23.toNat (min (min ((gtD (gtD y24 (y8 - (1 : Int))) y23) + (1 : Int)) ((gtD (gtD y24 y8) (y23 - (1 : Int))) + (1 : Int))) ((gtD (gtD y24 (y8 - (1 : Int))) (y23 - (1 : Int))) + (0 : Int))))) (y8 - (2 : Int))) (y23 - (2 : Int))) + (1 : Int))))) []), false, fun A => .any⟩ :: []) (by kernel_rfl) (by kernel_rfl) (by kernel_rfl) (Wf.mk' (by kernel_rfl) (UAll.cons ust_raw (UAll.cons ust_raw (UAll.cons ust_raw (UAll.cons ust_raw (UAll.cons ust_raw (UAll.cons ust_raw (UAll.cons ust_raw (UAll.cons ust_raw (UAll.cons ust_raw (UAll.cons ust_raw (UAll.cons ust_raw (UAll.cons ust_raw (UAll.cons ust_raw (UAll.cons ust_raw (UAll.cons ust_raw (UAll.cons ust_raw (UAll.cons ust_raw (UAll.cons ust_raw (UAll.cons ust_raw (UAll.cons ust_raw (UAll.cons ust_raw (UAll.cons ust_raw (UAll.cons ust_raw (UAll.cons ust_raw (UAll.cons ust_any (UAll.nil)))))))))))))))))))))))))) (by kernel_rfl) (by kernel_rfl)) hO hA ?_ ?_
                  · exact
                      OblsR.cons (OblR.plain rfl rfl rfl rfl fun A' R' w' ho hd => by have a0 : R' 7 = u3 := (ho.old 7 rfl).trans h7; exact of_move a0) <|
                      OblsR.cons (OblR.plain rfl rfl rfl rfl fun A' R' w' ho hd => by have a0 : R' 8 = .int .i64 y8 := (ho.old 8 rfl).trans h8; exact of_move a0) <|
                      OblsR.cons (OblR.plain rfl rfl rfl rfl fun A' R' w' ho hd => by have a0 : R' 131 = u3 := hd 0 _ _ _ rfl rfl rfl rfl rfl; have a1 : R' 132 = .int .i64 y8 := hd 1 _ _ _ rfl rfl rfl rfl rfl; exact of_indexAddr_tr (tr_root (hO.own 0 _ rfl).2) a0 a1 Try.underlying75 Try.sizeOf24 e92 rfl) <|
                      OblsR.cons (OblR.plain rfl rfl rfl rfl fun A' R' w' ho hd => by have a0 : R' 133 = (vptr u3 (y8.toNat * 1)) := hd 0 _ _ _ rfl rfl rfl rfl rfl; exact of_load_pin ((ho.rdo 0 _ rfl rfl).2.2 _ (.tail _ (.tail _ (.head _)))) a0 Try.isAgg24 Try.sizeOf24) <|
                      OblsR.cons (OblR.plain rfl rfl rfl rfl fun A' R' w' ho hd => by have a0 : R' 9 = .int .i64 y23 := (ho.old 9 rfl).trans h9; exact of_move a0) <|
                      OblsR.cons (OblR.plain rfl rfl rfl rfl fun A' R' w' ho hd => by have a0 : R' 7 = u3 := (ho.old 7 rfl).trans h7; exact of_move a0) <|
                      OblsR.cons (OblR.plain rfl rfl rfl rfl fun A' R' w' ho hd => by have a0 : R' 8 = .int .i64 y8 := (ho.old 8 rfl).trans h8; exact of_move a0) <|
                      OblsR.cons (OblR.plain rfl rfl rfl rfl fun A' R' w' ho hd => by have a0 : R' 136 = u3 := hd 0 _ _ _ rfl rfl rfl rfl rfl; have a1 : R' 137 = .int .i64 y8 := hd 1 _ _ _ rfl rfl rfl rfl rfl; exact of_indexAddr_tr (tr_root (hO.own 0 _ rfl).2) a0 a1 Try.underlying75 Try.sizeOf24 e95 rfl) <|
                      OblsR.cons (OblR.plain rfl rfl rfl rfl fun A' R' w' ho hd => by have a0 : R' 138 = (vptr u3 (y8.toNat * 1)) := hd 0 _ _ _ rfl rfl rfl rfl rfl; exact of_load_pin ((ho.rdo 0 _ rfl rfl).2.2 _ (.tail _ (.head _))) a0 Try.isAgg24 Try.sizeOf24) <|
                      OblsR.cons (OblR.plain rfl rfl rfl rfl fun A' R' w' ho hd => by have a0 : R' 9 = .int .i64 y23 := (ho.old 9 rfl).trans h9; exact of_move a0) <|
                      OblsR.cons (OblR.plain rfl rfl rfl rfl fun A' R' w' ho hd => by have a0 : R' 139 = h96 := hd 0 _ _ _ rfl rfl rfl rfl rfl; have a1 : R' 140 = .int .i64 y23 := hd 1 _ _ _ rfl rfl rfl rfl rfl; exact of_indexAddr_tr ((((tr_root (hO.own 0 _ rfl).2).elem e95 rfl)).pin ((hO.own 0 _ rfl).2.2 _ (.tail _ (.head _))) rfl) a0 a1 Try.underlying24 Try.sizeOf3 e98 rfl) <|
                      OblsR.cons (OblR.plain rfl rfl rfl rfl fun A' R' w' ho hd => by have a0 : R' 141 = (vptr h96 (y23.toNat * 1)) := hd 0 _ _ _ rfl rfl rfl rfl rfl; exact OpF.int (of_load_tr ((((((tr_root (ho.rdo 0 _ rfl rfl).2).elem e95 rfl)).pin ((ho.rdo 0 _ rfl rfl).2.2 _ (.tail _ (.head _))) rfl).elem e98 rfl)) a0 Try.isAgg3 Try.sizeOf3)) <|
                      OblsR.cons (OblR.plain rfl rfl rfl rfl fun A' R' w' ho hd => by have a0 : R' 7 = u3 := (ho.old 7 rfl).trans h7; exact of_move a0) <|
                      OblsR.cons (OblR.plain rfl rfl rfl rfl fun A' R' w' ho hd => by have a0 : R' 8 = .int .i64 y8 := (ho.old 8 rfl).trans h8; exact of_move a0) <|
                      OblsR.cons (OblR.plain rfl rfl rfl rfl fun A' R' w' ho hd => by have a0 : R' 144 = .int .i64 y8 := hd 0 _ _ _ rfl rfl rfl rfl rfl; exact of_sub a0 rfl e99) <|
                      OblsR.cons (OblR.plain rfl rfl rfl rfl fun A' R' w' ho hd => by have a0 : R' 143 = u3 := hd 0 _ _ _ rfl rfl rfl rfl rfl; have a1 : R' 145 = .int .i64 (y8 - (2 : Int)) := hd 1 _ _ _ rfl rfl rfl rfl rfl; exact of_indexAddr_tr (tr_root (hO.own 0 _ rfl).2) a0 a1 Try.underlying75 Try.sizeOf24 e100 rfl) <|
                      OblsR.cons (OblR.plain rfl rfl rfl rfl fun A' R' w' ho hd => by have a0 : R' 146 = (vptr u3 ((y8 - (2 : Int)).toNat * 1)) := hd 0 _ _ _ rfl rfl rfl rfl rfl; exact of_load_pin ((ho.rdo 0 _ rfl rfl).2.2 _ (.head _)) a0 Try.isAgg24 Try.sizeOf24) <|
                      OblsR.cons (OblR.plain rfl rfl rfl rfl fun A' R' w' ho hd => by have a0 : R' 9 = .int .i64 y23 := (ho.old 9 rfl).trans h9; exact of_move a0) <|
                      OblsR.cons (OblR.plain rfl rfl rfl rfl fun A' R' w' ho hd => by have a0 : R' 148 = .int .i64 y23 := hd 0 _ _ _ rfl rfl rfl rfl rfl; exact of_sub a0 rfl e103) <|
                      OblsR.cons (OblR.plain rfl rfl rfl rfl fun A' R' w' ho hd => by have a0 : R' 147 = h101 := hd 0 _ _ _ rfl rfl rfl rfl rfl; have a1 : R' 149 = .int .i64 (y23 - (2 : Int)) := hd 1 _ _ _ rfl rfl rfl rfl rfl; exact of_indexAddr_tr ((((tr_root (hO.own 0 _ rfl).2).elem e100 rfl)).pin ((hO.own 0 _ rfl).2.2 _ (.head _)) rfl) a0 a1 Try.underlying24 Try.sizeOf3 e104 rfl) <|
                      OblsR.cons (OblR.plain rfl rfl rfl rfl fun A' R' w' ho hd => by have a0 : R' 150 = (vptr h101 ((y23 - (2 : Int)).toNat * 1)) := hd 0 _ _ _ rfl rfl rfl rfl rfl; exact OpF.int (of_load_tr ((((((tr_root (ho.rdo 0 _ rfl rfl).2).elem e100 rfl)).pin ((ho.rdo 0 _ rfl rfl).2.2 _ (.head _)) rfl).elem e104 rfl)) a0 Try.isAgg3 Try.sizeOf3)) <|
                      OblsR.cons (OblR.plain rfl rfl rfl rfl fun A' R' w' ho hd => by have a0 : R' 151 = .int .i64 (gtD (gtD (y24.set y8.toNat ((gtD y24 y8).set y23.toNat (min (min ((gtD (gtD y24 (y8 - (1 : Int))) y23) + (1 : Int)) ((gtD (gtD y24 y8) (y23 - (1 : Int))) + (1 : Int))) ((gtD (gtD y24 (y8 - (1 : Int))) (y23 - (1 : Int))) + (0 : Int))))) (y8 - (2 : Int))) (y23 - (2 : Int))) := hd 0 _ _ _ rfl rfl rfl rfl rfl; exact of_add a0 rfl e105) <|
                      OblsR.cons (OblR.plain rfl rfl rfl rfl fun A' R' w' ho hd => by have a0 : R' 142 = .int .i64 (gtD (gtD (y24.set y8.toNat ((gtD y24 y8).set y23.toNat (min (min ((gtD (gtD y24 (y8 - (1 : Int))) y23) + (1 : Int)) ((gtD (gtD y24 y8) (y23 - (1 : Int))) + (1 : Int))) ((gtD (gtD y24 (y8 - (1 : Int))) (y23 - (1 : Int))) + (0 : Int))))) y8) y23) := hd 0 _ _ _ rfl rfl rfl rfl rfl; have a1 : R' 152 = .int .i64 ((gtD (gtD (y24.set y8.toNat ((gtD y24 y8).set y23.toNat (min (min ((gtD (gtD y24 (y8 - (1 : Int))) y23) + (1 : Int)) ((gtD (gtD y24 y8) (y23 - (1 : Int))) + (1 : Int))) ((gtD (gtD y24 (y8 - (1 : Int))) (y23 - (1 : Int))) + (0 : Int))))) (y8 - (2 : Int))) (y23 - (2 : Int))) + (1 : Int)) := hd 1 _ _ _ rfl rfl rfl rfl rfl; exact of_min2 a0 a1) <|
                      OblsR.cons (OblR.plain rfl rfl rfl rfl fun A' R' w' ho hd => by have a0 : R' 134 = h93 := hd 0 _ _ _ rfl rfl rfl rfl rfl; have a1 : R' 135 = .int .i64 y23 := hd 1 _ _ _ rfl rfl rfl rfl rfl; exact of_indexAddr_tr ((((tr_root (hO.own 0 _ rfl).2).elem e92 rfl)).pin ((hO.own 0 _ rfl).2.2 _ (.tail _ (.tail _ (.head _)))) rfl) a0 a1 Try.underlying24 Try.sizeOf3 e106 rfl) <|
                      OblsR.cons (OblR.tookS 0 _ _ rfl rfl rfl rfl rfl fun A' R' w' ho hd u S hok hown hav hin hop hds => by have a0 : R' 154 = (vptr h93 (y23.toNat * 1)) := hd 0 _ _ _ rfl rfl rfl rfl rfl; have a1 : R' 153 = .int .i64 (min (gtD (gtD (y24.set y8.toNat ((gtD y24 y8).set y23.toNat (min (min ((gtD (gtD y24 (y8 - (1 : Int))) y23) + (1 : Int)) ((gtD (gtD y24 y8) (y23 - (1 : Int))) + (1 : Int))) ((gtD (gtD y24 (y8 - (1 : Int))) (y23 - (1 : Int))) + (0 : Int))))) y8) y23) ((gtD (gtD (y24.set y8.toNat ((gtD y24 y8).set y23.toNat (min (min ((gtD (gtD y24 (y8 - (1 : Int))) y23) + (1 : Int)) ((gtD (gtD y24 y8) (y23 - (1 : Int))) + (1 : Int))) ((gtD (gtD y24 (y8 - (1 : Int))) (y23 - (1 : Int))) + (0 : Int))))) (y8 - (2 : Int))) (y23 - (2 : Int))) + (1 : Int))) := hd 1 _ _ _ rfl rfl rfl rfl rfl; have e0 := (hin _ rfl).1; rw [e0] at hown ⊢; exact took_hstore (((((tr_root hown.2).elem e92 rfl)).pin (hown.2.2 _ (.tail _ (.tail _ (.head _)))) rfl).elem e106 rfl) (rep_int.eq a1) a0 hav hown.1 Try.sizeOf3 (fun _ _ _ h => h)) <|
                      OblsR.nil
                  intro done ρ σ A R w hdn hI
                  replace h0 : R 0 = v0 := (hI.reg rfl).trans h0
                  replace h1 : R 1 = v1 := (hI.reg rfl).trans h1
                  replace h2 : R 2 = .bool p2 := (hI.reg rfl).trans h2
                  replace h7 : R 7 = u3 := (hI.reg rfl).trans h7
                  replace h8 : R 8 = .int .i64 y8 := (hI.reg rfl).trans h8
                  replace h16 : R 16 = .int .i64 ((List.replicate ((p0.length : Int) + (1 : Int)).toNat ([] : List Int)).length : Int) := (hI.reg rfl).trans h16
                  replace h17 : R 17 = .int .i64 y8 := (hI.reg rfl).trans h17
                  replace h31 : R 31 = .int .i64 ((gtD (y9.set y8.toNat (List.replicate ((p1.length : Int) + (1 : Int)).toNat (0 : Int))) y8).length : Int) := (hI.reg rfl).trans h31
                  replace h32 : R 32 = .int .i64 y23 := (hI.reg rfl).trans h32
                  have z107 := hI.inivR 0 rfl
                  have z108 := (hI.opnR hdn 25 24 rfl rfl rfl rfl rfl).trans z107
                  obtain ⟨S109, eS_u3⟩ : ∃ S, σ 25 = S := ⟨_, rfl⟩
                  replace f_v0 := f_v0.stp hI.stp
                  replace f_v1 := f_v1.stp hI.stp
                  replace hAA := hI.low' hAA hA0 (hO.ge (⟨fun _ h => h, trivial⟩))
                  replace hF : Fr w0 w := hF.tr hI.ch (hO.ge (⟨fun _ h => h, trivial⟩))
                  replace hO : IniOK [⟨u3, S109, trR (geB w0.heap.size) (oSl 24 (oSl 3 (oRd (eInt .i64)))) ((y24.set y8.toNat ((gtD y24 y8).set y23.toNat (min (min ((gtD (gtD y24 (y8 - (1 : Int))) y23) + (1 : Int)) ((gtD (gtD y24 y8) (y23 - (1 : Int))) + (1 : Int))) ((gtD (gtD y24 (y8 - (1 : Int))) (y23 - (1 : Int))) + (0 : Int))))).set y8.toNat ((gtD (y24.set y8.toNat ((gtD y24 y8).set y23.toNat (min (min ((gtD (gtD y24 (y8 - (1 : Int))) y23) + (1 : Int)) ((gtD (gtD y24 y8) (y23 - (1 : Int))) + (1 : Int))) ((gtD (gtD y24 (y8 - (1 : Int))) (y23 - (1 : Int))) + (0 : Int))))) y8).set y23.toNat (min (gtD (gtD (y24.set y8.toNat ((gtD y24 y8).set y23.toNat (min (min ((gtD (gtD y24 (y8 - (1 : Int))) y23) + (1 : Int)) ((gtD (gtD y24 y8) (y23 - (1 : Int))) + (1 : Int))) ((gtD (gtD y24 (y8 - (1 : Int))) (y23 - (1 : Int))) + (0 : Int))))) y8) y23) ((gtD (gtD (y24.set y8.toNat ((gtD y24 y8).set y23.toNat (min (min ((gtD (gtD y24 (y8 - (1 : Int))) y23) + (1 : Int)) ((gtD (gtD y24 y8) (y23 - (1 : Int))) + (1 : Int))) ((gtD (gtD y24 (y8 - (1 : Int))) (y23 - (1 : Int))) + (0 : Int))))) (y8 - (2 : Int))) (y23 - (2 : Int))) + (1 : Int))))) []⟩] A w := hI.left hdn [(25, ⟨u3, S109, trR (geB w0.heap.size) (oSl 24 (oSl 3 (oRd (eInt .i64)))) ((y24.set y8.toNat ((gtD y24 y8).set y23.toNat (min (min ((gtD (gtD y24 (y8 - (1 : Int))) y23) + (1 : Int)) ((gtD (gtD y24 y8) (y23 - (1 : Int))) + (1 : Int))) ((gtD (gtD y24 (y8 - (1 : Int))) (y23 - (1 : Int))) + (0 : Int))))).set y8.toNat ((gtD (y24.set y8.toNat ((gtD y24 y8).set y23.toNat (min (min ((gtD (gtD y24 (y8 - (1 : Int))) y23) + (1 : Int)) ((gtD (gtD y24 y8) (y23 - (1 : Int))) + (1 : Int))) ((gtD (gtD y24 (y8 - (1 : Int))) (y23 - (1 : Int))) + (0 : Int))))) y8).set y23.toNat (min (gtD (gtD (y24.set y8.toNat ((gtD y24 y8).set y23.toNat (min (min ((gtD (gtD y24 (y8 - (1 : Int))) y23) + (1 : Int)) ((gtD (gtD y24 y8) (y23 - (1 : Int))) + (1 : Int))) ((gtD (gtD y24 (y8 - (1 : Int))) (y23 - (1 : Int))) + (0 : Int))))) y8) y23) ((gtD (gtD (y24.set y8.toNat ((gtD y24 y8).set y23.toNat (min (min ((gtD (gtD y24 (y8 - (1 : Int))) y23) + (1 : Int)) ((gtD (gtD y24 y8) (y23 - (1 : Int))) + (1 : Int))) ((gtD (gtD y24 (y8 - (1 : Int))) (y23 - (1 : Int))) + (0 : Int))))) (y8 - (2 : Int))) (y23 - (2 : Int))) + (1 : Int))))) []⟩)] ⟨rfl, rfl, z108, eS_u3, rfl, trivial⟩
                  replace hA := hI.avok
                  clear hI
                  obtain ⟨e110, hr⟩ := ck_some hr
                  refine HT.text (l := ⟨_, true, .raw (.int .i64 (y23 + (1 : Int)))⟩ :: ⟨_, true, .raw (.int .i64 (y23 + (1 : Int)))⟩ :: []) (tl := []) (by kernel_rfl) (by kernel_rfl) (by kernel_rfl) ?_ ?_
                  · exact
                      Obls.cons (Obl.plain rfl rfl fun R' w' hw hs hd => by have a0 : R' 32 = .int .i64 y23 := (hs 32 rfl).trans h32; exact of_add a0 rfl e110) <|
                      Obls.cons (Obl.plain rfl rfl fun R' w' hw hs hd => by have a0 : R' 155 = .int .i64 (y23 + (1 : Int)) := hd 0 _ _ _ rfl rfl rfl rfl rfl; exact of_move a0) <|
                      Obls.nil
                  intro R w hw hs hF'
                  replace h0 : R 0 = v0 := (hs 0 rfl).trans h0
                  replace h1 : R 1 = v1 := (hs 1 rfl).trans h1
                  replace h2 : R 2 = .bool p2 := (hs 2 rfl).trans h2
                  replace h7 : R 7 = u3 := (hs 7 rfl).trans h7
                  replace h8 : R 8 = .int .i64 y8 := (hs 8 rfl).trans h8
                  replace h16 : R 16 = .int .i64 ((List.replicate ((p0.length : Int) + (1 : Int)).toNat ([] : List Int)).length : Int) := (hs 16 rfl).trans h16
                  replace h17 : R 17 = .int .i64 y8 := (hs 17 rfl).trans h17
                  replace h31 : R 31 = .int .i64 ((gtD (y9.set y8.toNat (List.replicate ((p1.length : Int) + (1 : Int)).toNat (0 : Int))) y8).length : Int) := (hs 31 rfl).trans h31
                  have h32 : R 32 = .int .i64 (y23 + (1 : Int)) := hF' 1 _ _ rfl rfl rfl
                  replace f_v0 := f_v0.fr hw
                  replace f_v1 := f_v1.fr hw
                  replace hO := hO.fr hw
                  replace hA := hA.fr hw.size
                  replace hF := hF.trans hw
                  clear hs hF' hw
                  refine seqR_nil ?_
                  exact Exists.intro k (And.intro (Nat.lt_succ_self k) ⟨_, _, _, S109, hr, hA, hF, hAA, hO, h0, h1, h2, h7, h8, h16, h17, h31, h32, f_v0, f_v1⟩)
                · have hr := cnd_f c91 hr
                  refine HT.skip ?_
                  obtain ⟨e111, hr⟩ := ck_some hr
                  refine HT.text (l := ⟨_, true, .raw (.int .i64 (y23 + (1 : Int)))⟩ :: ⟨_, true, .raw (.int .i64 (y23 + (1 : Int)))⟩ :: []) (tl := []) (by kernel_rfl) (by kernel_rfl) (by kernel_rfl) ?_ ?_
                  · exact
                      Obls.cons (Obl.plain rfl rfl fun R' w' hw hs hd => by have a0 : R' 32 = .int .i64 y23 := (hs 32 rfl).trans h32; exact of_add a0 rfl e111) <|
                      Obls.cons (Obl.plain rfl rfl fun R' w' hw hs hd => by have a0 : R' 155 = .int .i64 (y23 + (1 : Int)) := hd 0 _ _ _ rfl rfl rfl rfl rfl; exact of_move a0) <|
                      Obls.nil
                  intro R w hw hs hF'
                  replace h0 : R 0 = v0 := (hs 0 rfl).trans h0
                  replace h1 : R 1 = v1 := (hs 1 rfl).trans h1
                  replace h2 : R 2 = .bool p2 := (hs 2 rfl).trans h2
                  replace h7 : R 7 = u3 := (hs 7 rfl).trans h7
                  replace h8 : R 8 = .int .i64 y8 := (hs 8 rfl).trans h8
                  replace h16 : R 16 = .int .i64 ((List.replicate ((p0.length : Int) + (1 : Int)).toNat ([] : List Int)).length : Int) := (hs 16 rfl).trans h16
                  replace h17 : R 17 = .int .i64 y8 := (hs 17 rfl).trans h17
                  replace h31 : R 31 = .int .i64 ((gtD (y9.set y8.toNat (List.replicate ((p1.length : Int) + (1 : Int)).toNat (0 : Int))) y8).length : Int) := (hs 31 rfl).trans h31
                  have h32 : R 32 = .int .i64 (y23 + (1 : Int)) := hF' 1 _ _ rfl rfl rfl
                  replace f_v0 := f_v0.fr hw
                  replace f_v1 := f_v1.fr hw
                  replace hO := hO.fr hw
                  replace hA := hA.fr hw.size
                  replace hF := hF.trans hw
                  clear hs hF' hw
                  refine seqR_nil ?_
                  exact Exists.intro k (And.intro (Nat.lt_succ_self k) ⟨_, _, _, S74, hr, hA, hF, hAA, hO, h0, h1, h2, h7, h8, h16, h17, h31, h32, f_v0, f_v1⟩)
              · have hr := cnd_f c48 hr
                refine HT.skip ?_
                refine HT.seq ?_
                obtain ⟨e112, hr⟩ := ck_some hr
                obtain ⟨h113, p_h113⟩ := (((tr_root (hO.own 0 _ rfl).2).elem e112 rfl)).open1 rfl
                replace hO : IniOK [⟨u3, Sl_u3, trR (geB w0.heap.size) (oSl 24 (oSl 3 (oRd (eInt .i64)))) y24 [((vptr u3 (y8.toNat * 1)), [h113])]⟩] A w := hO.repin 0 rfl (trP.pin p_h113)
                obtain ⟨e115, hr⟩ := ck_some hr
                obtain ⟨e116, hr⟩ := ck_some hr
                obtain ⟨h117, p_h117⟩ := (((tr_root (hO.own 0 _ rfl).2).elem e116 rfl)).open1 rfl
                replace hO : IniOK [⟨u3, Sl_u3, trR (geB w0.heap.size) (oSl 24 (oSl 3 (oRd (eInt .i64)))) y24 [((vptr u3 ((y8 - (1 : Int)).toNat * 1)), [h117]), ((vptr u3 (y8.toNat * 1)), [h113])]⟩] A w := hO.repin 0 rfl (trP.pin p_h117)
                obtain ⟨e119, hr⟩ := ck_some hr
                obtain ⟨e120, hr⟩ := ck_some hr
                obtain ⟨e121, hr⟩ := ck_some hr
                obtain ⟨h122, p_h122⟩ := (((tr_root (hO.own 0 _ rfl).2).elem e121 rfl)).open1 rfl
                replace hO : IniOK [⟨u3, Sl_u3, trR (geB w0.heap.size) (oSl 24 (oSl 3 (oRd (eInt .i64)))) y24 [((vptr u3 (y8.toNat * 1)), [h122]), ((vptr u3 ((y8 - (1 : Int)).toNat * 1)), [h117]), ((vptr u3 (y8.toNat * 1)), [h113])]⟩] A w := hO.repin 0 rfl (trP.pin p_h122)
                obtain ⟨e124, hr⟩ := ck_some hr
                obtain ⟨e125, hr⟩ := ck_some hr
                obtain ⟨e126, hr⟩ := ck_some hr
                obtain ⟨e127, hr⟩ := ck_some hr
                obtain ⟨e128, hr⟩ := ck_some hr
                obtain ⟨h129, p_h129⟩ := (((tr_root (hO.own 0 _ rfl).2).elem e128 rfl)).open1 rfl
                replace hO : IniOK [⟨u3, Sl_u3, trR (geB w0.heap.size) (oSl 24 (oSl 3 (oRd (eInt .i64)))) y24 [((vptr u3 ((y8 - (1 : Int)).toNat * 1)), [h129]), ((vptr u3 (y8.toNat * 1)), [h122]), ((vptr u3 ((y8 - (1 : Int)).toNat * 1)), [h117]), ((vptr u3 (y8.toNat * 1)), [h113])]⟩] A w := hO.repin 0 rfl (trP.pin p_h129)
                obtain ⟨e131, hr⟩ := ck_some hr
                obtain ⟨e132, hr⟩ := ck_some hr
                obtain ⟨e133, hr⟩ := ck_some hr
                obtain ⟨e134, hr⟩ := ck_some hr
                refine HT.drawR [⟨u3, Sl_u3, trR (geB w0.heap.size) (oSl 24 (oSl 3 (oRd (eInt .i64)))) y24 [((vptr u3 ((y8 - (1 : Int)).toNat * 1)), [h129]), ((vptr u3 (y8.toNat * 1)), [h122]), ((vptr u3 ((y8 - (1 : Int)).toNat * 1)), [h117]), ((vptr u3 (y8.toNat * 1)), [h113])]⟩] (⟨_, true, [], none, true, fun A => .raw u3⟩ :: ⟨_, true, [], none, true, fun A => .raw (.int .i64 y8)⟩ :: ⟨_, true, [], none, true, fun A => .raw (vptr u3 (y8.toNat * 1))⟩ :: ⟨_, true, [], none, true, fun A => .raw h113⟩ :: ⟨_, true, [], none, true, fun A => .raw (.int .i64 y23)⟩ :: ⟨_, true, [], none, true, fun A => .raw u3⟩ :: ⟨_, true, [], none, true, fun A => .raw (.int .i64 y8)⟩ :: ⟨_, true, [], none, true, fun A => .raw (.int .i64 (y8 - (1 : Int)))⟩ :: ⟨_, true, [], none, true, fun A => .raw (vptr u3 ((y8 - (1 : Int)).toNat * 1))⟩ :: ⟨_, true, [], none, true, fun A => .raw h117⟩ :: ⟨_, true, [], none, true, fun A => .raw (.int .i64 y23)⟩ :: ⟨_, true, [], none, true, fun A => .raw (vptr h117 (y23.toNat * 1))⟩ :: ⟨_, true, [], none, true, fun A => .raw (.int .i64 (gtD (gtD y24 (y8 - (1 : Int))) y23))⟩ :: ⟨_, true, [], none, true, fun A => .raw (.int .i64 ((gtD (gtD y24 (y8 - (1 : Int))) y23) + (1 : Int)))⟩ :: ⟨_, true, [], none, true, fun A => .raw u3⟩ :: ⟨_, true, [], none, true, fun A => .raw (.int .i64 y8)⟩ :: ⟨_, true, [], none, true, fun A => .raw (vptr u3 (y8.toNat * 1))⟩ :: ⟨_, true, [], none, true, fun A => .raw h122⟩ :: ⟨_, true, [], none, true, fun A => .raw (.int .i64 y23)⟩ :: ⟨_, true, [], none, true, fun A => .raw (.int .i64 (y23 - (1 : Int)))⟩ :: ⟨_, true, [], none, true, fun A => .raw (vptr h122 ((y23 - (1 : Int)).toNat * 1))⟩ :: ⟨_, true, [], none, true, fun A => .raw (.int .i64 (gtD (gtD y24 y8) (y23 - (1 : Int))))⟩ :: ⟨_, true, [], none, true, fun A => .raw (.int .i64 ((gtD (gtD y24 y8) (y23 - (1 : Int))) + (1 : Int)))⟩ :: ⟨_, true, [], none, true, fun A => .raw u3⟩ :: ⟨_, true, [], none, true, fun A => .raw (.int .i64 y8)⟩ :: ⟨_, true, [], none, true, fun A => .raw (.int .i64 (y8 - (1 : Int)))⟩ :: ⟨_, true, [], none, true, fun A => .raw (vptr u3 ((y8 - (1 : Int)).toNat * 1))⟩ :: ⟨_, true, [], none, true, fun A => .raw h129⟩ :: ⟨_, true, [], none, true, fun A => .raw (.int .i64 y23)⟩ :: ⟨_, true, [], none, true, fun A => .raw (.int .i64 (y23 - (1 : Int)))⟩ :: ⟨_, true, [], none, true, fun A => .raw (vptr h129 ((y23 - (1 : Int)).toNat * 1))⟩ :: ⟨_, true, [], none, true, fun A => .raw (.int .i64 (gtD (gtD y24 (y8 - (1 : Int))) (y23 - (1 : Int))))⟩ :: ⟨_, true, [], none, true, fun A => .raw (.int .i64 (1 : Int))⟩ :: ⟨_, true, [], none, true, fun A => .raw (.int .i64 ((gtD (gtD y24 (y8 - (1 : Int))) (y23 - (1 : Int))) + (1 : Int)))⟩ :: ⟨_, true, [], none, true, fun A => .raw (.int .i64 (min (min ((gtD (gtD y24 (y8 - (1 : Int))) y23) + (1 : Int)) ((gtD (gtD y24 y8) (y23 - (1 : Int))) + (1 : Int))) ((gtD (gtD y24 (y8 - (1 : Int))) (y23 - (1 : Int))) + (1 : Int))))⟩ :: ⟨_, true, [], none, true, fun A => .raw (vptr h113 (y23.toNat * 1))⟩ :: ⟨_, true, [0], some (trR (geB w0.heap.size) (oSl 24 (oSl 3 (oRd (eInt .i64)))) (y24.set y8.toNat ((gtD y24 y8).set y23.toNat (min (min ((gtD (gtD y24 (y8 - (1 : Int))) y23) + (1 : Int)) ((gtD (gtD y24 y8) (y23 - (1 : Int))) + (1 : Int))) ((gtD (gtD y24 (y8 - (1 : Int))) (y23 - (1 : Int))) + (1 : Int))))) []), false, fun A => .any⟩ :: []) (by kernel_rfl) (by kernel_rfl) (by kernel_rfl) (Wf.mk' (by kernel_rfl) (UAll.cons ust_raw (UAll.cons ust_raw (UAll.cons ust_raw (UAll.cons ust_raw (UAll.cons ust_raw (UAll.cons ust_raw (UAll.cons ust_raw (UAll.cons ust_raw (UAll.cons ust_raw (UAll.cons ust_raw (UAll.cons ust_raw (UAll.cons ust_raw (UAll.cons ust_raw (UAll.cons ust_raw (UAll.cons ust_raw (UAll.cons ust_raw (UAll.cons ust_raw (UAll.cons ust_raw (UAll.cons ust_raw (UAll.cons ust_raw (UAll.cons ust_raw (UAll.cons ust_raw (UAll.cons ust_raw (UAll.cons ust_raw (UAll.cons ust_raw (UAll.cons ust_raw (UAll.cons ust_raw (UAll.cons ust_raw (UAll.cons ust_raw (UAll.cons ust_raw (UAll.cons ust_raw (UAll.cons ust_raw (UAll.cons ust_raw (UAll.cons ust_raw (UAll.cons ust_raw (UAll.cons ust_raw (UAll.cons ust_any (UAll.nil)))))))))))))))))))))))))))))))))))))) (by kernel_rfl) (by kernel_rfl)) hO hA ?_ ?_
                · exact
                    OblsR.cons (OblR.plain rfl rfl rfl rfl fun A' R' w' ho hd => by have a0 : R' 7 = u3 := (ho.old 7 rfl).trans h7; exact of_move a0) <|
                    OblsR.cons (OblR.plain rfl rfl rfl rfl fun A' R' w' ho hd => by have a0 : R' 8 = .int .i64 y8 := (ho.old 8 rfl).trans h8; exact of_move a0) <|
                    OblsR.cons (OblR.plain rfl rfl rfl rfl fun A' R' w' ho hd => by have a0 : R' 64 = u3 := hd 0 _ _ _ rfl rfl rfl rfl rfl; have a1 : R' 65 = .int .i64 y8 := hd 1 _ _ _ rfl rfl rfl rfl rfl; exact of_indexAddr_tr (tr_root (hO.own 0 _ rfl).2) a0 a1 Try.underlying75 Try.sizeOf24 e112 rfl) <|
                    OblsR.cons (OblR.plain rfl rfl rfl rfl fun A' R' w' ho hd => by have a0 : R' 66 = (vptr u3 (y8.toNat * 1)) := hd 0 _ _ _ rfl rfl rfl rfl rfl; exact of_load_pin ((ho.rdo 0 _ rfl rfl).2.2 _ (.tail _ (.tail _ (.tail _ (.head _))))) a0 Try.isAgg24 Try.sizeOf24) <|
                    OblsR.cons (OblR.plain rfl rfl rfl rfl fun A' R' w' ho hd => by have a0 : R' 9 = .int .i64 y23 := (ho.old 9 rfl).trans h9; exact of_move a0) <|
                    OblsR.cons (OblR.plain rfl rfl rfl rfl fun A' R' w' ho hd => by have a0 : R' 7 = u3 := (ho.old 7 rfl).trans h7; exact of_move a0) <|
                    OblsR.cons (OblR.plain rfl rfl rfl rfl fun A' R' w' ho hd => by have a0 : R' 8 = .int .i64 y8 := (ho.old 8 rfl).trans h8; exact of_move a0) <|
                    OblsR.cons (OblR.plain rfl rfl rfl rfl fun A' R' w' ho hd => by have a0 : R' 70 = .int .i64 y8 := hd 0 _ _ _ rfl rfl rfl rfl rfl; exact of_sub a0 rfl e115) <|
                    OblsR.cons (OblR.plain rfl rfl rfl rfl fun A' R' w' ho hd => by have a0 : R' 69 = u3 := hd 0 _ _ _ rfl rfl rfl rfl rfl; have a1 : R' 71 = .int .i64 (y8 - (1 : Int)) := hd 1 _ _ _ rfl rfl rfl rfl rfl; exact of_indexAddr_tr (tr_root (hO.own 0 _ rfl).2) a0 a1 Try.underlying75 Try.sizeOf24 e116 rfl) <|
                    OblsR.cons (OblR.plain rfl rfl rfl rfl fun A' R' w' ho hd => by have a0 : R' 72 = (vptr u3 ((y8 - (1 : Int)).toNat * 1)) := hd 0 _ _ _ rfl rfl rfl rfl rfl; exact of_load_pin ((ho.rdo 0 _ rfl rfl).2.2 _ (.tail _ (.tail _ (.head _)))) a0 Try.isAgg24 Try.sizeOf24) <|
                    OblsR.cons (OblR.plain rfl rfl rfl rfl fun A' R' w' ho hd => by have a0 : R' 9 = .int .i64 y23 := (ho.old 9 rfl).trans h9; exact of_move a0) <|
                    OblsR.cons (OblR.plain rfl rfl rfl rfl fun A' R' w' ho hd => by have a0 : R' 73 = h117 := hd 0 _ _ _ rfl rfl rfl rfl rfl; have a1 : R' 74 = .int .i64 y23 := hd 1 _ _ _ rfl rfl rfl rfl rfl; exact of_indexAddr_tr ((((tr_root (hO.own 0 _ rfl).2).elem e116 rfl)).pin ((hO.own 0 _ rfl).2.2 _ (.tail _ (.tail _ (.head _)))) rfl) a0 a1 Try.underlying24 Try.sizeOf3 e119 rfl) <|
                    OblsR.cons (OblR.plain rfl rfl rfl rfl fun A' R' w' ho hd => by have a0 : R' 75 = (vptr h117 (y23.toNat * 1)) := hd 0 _ _ _ rfl rfl rfl rfl rfl; exact OpF.int (of_load_tr ((((((tr_root (ho.rdo 0 _ rfl rfl).2).elem e116 rfl)).pin ((ho.rdo 0 _ rfl rfl).2.2 _ (.tail _ (.tail _ (.head _)))) rfl).elem e119 rfl)) a0 Try.isAgg3 Try.sizeOf3)) <|
                    OblsR.cons (OblR.plain rfl rfl rfl rfl fun A' R' w' ho hd => by have a0 : R' 76 = .int .i64 (gtD (gtD y24 (y8 - (1 : Int))) y23) := hd 0 _ _ _ rfl rfl rfl rfl rfl; exact of_add a0 rfl e120) <|
                    OblsR.cons (OblR.plain rfl rfl rfl rfl fun A' R' w' ho hd => by have a0 : R' 7 = u3 := (ho.old 7 rfl).trans h7; exact of_move a0) <|
                    OblsR.cons (OblR.plain rfl rfl rfl rfl fun A' R' w' ho hd => by have a0 : R' 8 = .int .i64 y8 := (ho.old 8 rfl).trans h8; exact of_move a0) <|
                    OblsR.cons (OblR.plain rfl rfl rfl rfl fun A' R' w' ho hd => by have a0 : R' 78 = u3 := hd 0 _ _ _ rfl rfl rfl rfl rfl; have a1 : R' 79 = .int .i64 y8 := hd 1 _ _ _ rfl rfl rfl rfl rfl; exact of_indexAddr_tr (tr_root (hO.own 0 _ rfl).2) a0 a1 Try.underlying75 Try.sizeOf24 e121 rfl) <|
                    OblsR.cons (OblR.plain rfl rfl rfl rfl fun A' R' w' ho hd => by have a0 : R' 80 = (vptr u3 (y8.toNat * 1)) := hd 0 _ _ _ rfl rfl rfl rfl rfl; exact of_load_pin ((ho.rdo 0 _ rfl rfl).2.2 _ (.tail _ (.head _))) a0 Try.isAgg24 Try.sizeOf24) <|
                    OblsR.cons (OblR.plain rfl rfl rfl rfl fun A' R' w' ho hd => by have a0 : R' 9 = .int .i64 y23 := (ho.old 9 rfl).trans h9; exact of_move a0) <|
                    OblsR.cons (OblR.plain rfl rfl rfl rfl fun A' R' w' ho hd => by have a0 : R' 82 = .int .i64 y23 := hd 0 _ _ _ rfl rfl rfl rfl rfl; exact of_sub a0 rfl e124) <|
                    OblsR.cons (OblR.plain rfl rfl rfl rfl fun A' R' w' ho hd => by have a0 : R' 81 = h122 := hd 0 _ _ _ rfl rfl rfl rfl rfl; have a1 : R' 83 = .int .i64 (y23 - (1 : Int)) := hd 1 _ _ _ rfl rfl rfl rfl rfl; exact of_indexAddr_tr ((((tr_root (hO.own 0 _ rfl).2).elem e121 rfl)).pin ((hO.own 0 _ rfl).2.2 _ (.tail _ (.head _))) rfl) a0 a1 Try.underlying24 Try.sizeOf3 e125 rfl) <|
                    OblsR.cons (OblR.plain rfl rfl rfl rfl fun A' R' w' ho hd => by have a0 : R' 84 = (vptr h122 ((y23 - (1 : Int)).toNat * 1)) := hd 0 _ _ _ rfl rfl rfl rfl rfl; exact OpF.int (of_load_tr ((((((tr_root (ho.rdo 0 _ rfl rfl).2).elem e121 rfl)).pin ((ho.rdo 0 _ rfl rfl).2.2 _ (.tail _ (.head _))) rfl).elem e125 rfl)) a0 Try.isAgg3 Try.sizeOf3)) <|
                    OblsR.cons (OblR.plain rfl rfl rfl rfl fun A' R' w' ho hd => by have a0 : R' 85 = .int .i64 (gtD (gtD y24 y8) (y23 - (1 : Int))) := hd 0 _ _ _ rfl rfl rfl rfl rfl; exact of_add a0 rfl e126) <|
                    OblsR.cons (OblR.plain rfl rfl rfl rfl fun A' R' w' ho hd => by have a0 : R' 7 = u3 := (ho.old 7 rfl).trans h7; exact of_move a0) <|
                    OblsR.cons (OblR.plain rfl rfl rfl rfl fun A' R' w' ho hd => by have a0 : R' 8 = .int .i64 y8 := (ho.old 8 rfl).trans h8; exact of_move a0) <|
                    OblsR.cons (OblR.plain rfl rfl rfl rfl fun A' R' w' ho hd => by have a0 : R' 88 = .int .i64 y8 := hd 0 _ _ _ rfl rfl rfl rfl rfl; exact of_sub a0 rfl e127) <|
                    OblsR.cons (OblR.plain rfl rfl rfl rfl fun A' R' w' ho hd => by have a0 : R' 87 = u3 := hd 0 _ _ _ rfl rfl rfl rfl rfl; have a1 : R' 89 = .int .i64 (y8 - (1 : Int)) := hd 1 _ _ _ rfl rfl rfl rfl rfl; exact of_indexAddr_tr (tr_root (hO.own 0 _ rfl).2) a0 a1 Try.underlying75 Try.sizeOf24 e128 rfl) <|
                    OblsR.cons (OblR.plain rfl rfl rfl rfl fun A' R' w' ho hd => by have a0 : R' 90 = (vptr u3 ((y8 - (1 : Int)).toNat * 1)) := hd 0 _ _ _ rfl rfl rfl rfl rfl; exact of_load_pin ((ho.rdo 0 _ rfl rfl).2.2 _ (.head _)) a0 Try.isAgg24 Try.sizeOf24) <|
                    OblsR.cons (OblR.plain rfl rfl rfl rfl fun A' R' w' ho hd => by have a0 : R' 9 = .int .i64 y23 := (ho.old 9 rfl).trans h9; exact of_move a0) <|
                    OblsR.cons (OblR.plain rfl rfl rfl rfl fun A' R' w' ho hd => by have a0 : R' 92 = .int .i64 y23 := hd 0 _ _ _ rfl rfl rfl rfl rfl; exact of_sub a0 rfl e131) <|
                    OblsR.cons (OblR.plain rfl rfl rfl rfl fun A' R' w' ho hd => by have a0 : R' 91 = h129 := hd 0 _ _ _ rfl rfl rfl rfl rfl; have a1 : R' 93 = .int .i64 (y23 - (1 : Int)) := hd 1 _ _ _ rfl rfl rfl rfl rfl; exact of_indexAddr_tr ((((tr_root (hO.own 0 _ rfl).2).elem e128 rfl)).pin ((hO.own 0 _ rfl).2.2 _ (.head _)) rfl) a0 a1 Try.underlying24 Try.sizeOf3 e132 rfl) <|
                    OblsR.cons (OblR.plain rfl rfl rfl rfl fun A' R' w' ho hd => by have a0 : R' 94 = (vptr h129 ((y23 - (1 : Int)).toNat * 1)) := hd 0 _ _ _ rfl rfl rfl rfl rfl; exact OpF.int (of_load_tr ((((((tr_root (ho.rdo 0 _ rfl rfl).2).elem e128 rfl)).pin ((ho.rdo 0 _ rfl rfl).2.2 _ (.head _)) rfl).elem e132 rfl)) a0 Try.isAgg3 Try.sizeOf3)) <|
                    OblsR.cons (OblR.plain rfl rfl rfl rfl fun A' R' w' ho hd => by have a0 : R' 10 = .int .i64 (1 : Int) := (ho.old 10 rfl).trans h10; exact of_move a0) <|
                    OblsR.cons (OblR.plain rfl rfl rfl rfl fun A' R' w' ho hd => by have a0 : R' 95 = .int .i64 (gtD (gtD y24 (y8 - (1 : Int))) (y23 - (1 : Int))) := hd 0 _ _ _ rfl rfl rfl rfl rfl; have a1 : R' 96 = .int .i64 (1 : Int) := hd 1 _ _ _ rfl rfl rfl rfl rfl; exact of_add a0 a1 e133) <|
                    OblsR.cons (OblR.plain rfl rfl rfl rfl fun A' R' w' ho hd => by have a0 : R' 77 = .int .i64 ((gtD (gtD y24 (y8 - (1 : Int))) y23) + (1 : Int)) := hd 0 _ _ _ rfl rfl rfl rfl rfl; have a1 : R' 86 = .int .i64 ((gtD (gtD y24 y8) (y23 - (1 : Int))) + (1 : Int)) := hd 1 _ _ _ rfl rfl rfl rfl rfl; have a2 : R' 97 = .int .i64 ((gtD (gtD y24 (y8 - (1 : Int))) (y23 - (1 : Int))) + (1 : Int)) := hd 2 _ _ _ rfl rfl rfl rfl rfl; exact of_min3 a0 a1 a2) <|
                    OblsR.cons (OblR.plain rfl rfl rfl rfl fun A' R' w' ho hd => by have a0 : R' 67 = h113 := hd 0 _ _ _ rfl rfl rfl rfl rfl; have a1 : R' 68 = .int .i64 y23 := hd 1 _ _ _ rfl rfl rfl rfl rfl; exact of_indexAddr_tr ((((tr_root (hO.own 0 _ rfl).2).elem e112 rfl)).pin ((hO.own 0 _ rfl).2.2 _ (.tail _ (.tail _ (.tail _ (.head _))))) rfl) a0 a1 Try.underlying24 Try.sizeOf3 e134 rfl) <|
                    OblsR.cons (OblR.tookS 0 _ _ rfl rfl rfl rfl rfl fun A' R' w' ho hd u S hok hown hav hin hop hds => by have a0 : R' 99 = (vptr h113 (y23.toNat * 1)) := hd 0 _ _ _ rfl rfl rfl rfl rfl; have a1 : R' 98 = .int .i64 (min (min ((gtD (gtD y24 (y8 - (1 : Int))) y23) + (1 : Int)) ((gtD (gtD y24 y8) (y23 - (1 : Int))) + (1 : Int))) ((gtD (gtD y24 (y8 - (1 : Int))) (y23 - (1 : Int))) + (1 : Int))) := hd 1 _ _ _ rfl rfl rfl rfl rfl; have e0 := (hin _ rfl).1; rw [e0] at hown ⊢; exact took_hstore (((((tr_root hown.2).elem e112 rfl)).pin (hown.2.2 _ (.tail _ (.tail _ (.tail _ (.head _))))) rfl).elem e134 rfl) (rep_int.eq a1) a0 hav hown.1 Try.sizeOf3 (fun _ _ _ h => h)) <|
                    OblsR.nil
                intro done ρ σ A R w hdn hI
                replace h0 : R 0 = v0 := (hI.reg rfl).trans h0
                replace h1 : R 1 = v1 := (hI.reg rfl).trans h1
                replace h2 : R 2 = .bool p2 := (hI.reg rfl).trans h2
                replace h7 : R 7 = u3 := (hI.reg rfl).trans h7
                replace h8 : R 8 = .int .i64 y8 := (hI.reg rfl).trans h8
                replace h9 : R 9 = .int .i64 y23 := (hI.reg rfl).trans h9
                replace h16 : R 16 = .int .i64 ((List.replicate ((p0.length : Int) + (1 : Int)).toNat ([] : List Int)).length : Int) := (hI.reg rfl).trans h16
                replace h17 : R 17 = .int .i64 y8 := (hI.reg rfl).trans h17
                replace h31 : R 31 = .int .i64 ((gtD (y9.set y8.toNat (List.replicate ((p1.length : Int) + (1 : Int)).toNat (0 : Int))) y8).length : Int) := (hI.reg rfl).trans h31
                replace h32 : R 32 = .int .i64 y23 := (hI.reg rfl).trans h32
                have z135 := hI.inivR 0 rfl
                have z136 := (hI.opnR hdn 37 36 rfl rfl rfl rfl rfl).trans z135
                obtain ⟨S137, eS_u3⟩ : ∃ S, σ 37 = S := ⟨_, rfl⟩
                replace f_v0 := f_v0.stp hI.stp
                replace f_v1 := f_v1.stp hI.stp
                replace hAA := hI.low' hAA hA0 (hO.ge (⟨fun _ h => h, trivial⟩))
                replace hF : Fr w0 w := hF.tr hI.ch (hO.ge (⟨fun _ h => h, trivial⟩))
                replace hO : IniOK [⟨u3, S137, trR (geB w0.heap.size) (oSl 24 (oSl 3 (oRd (eInt .i64)))) (y24.set y8.toNat ((gtD y24 y8).set y23.toNat (min (min ((gtD (gtD y24 (y8 - (1 : Int))) y23) + (1 : Int)) ((gtD (gtD y24 y8) (y23 - (1 : Int))) + (1 : Int))) ((gtD (gtD y24 (y8 - (1 : Int))) (y23 - (1 : Int))) + (1 : Int))))) []⟩] A w := hI.left hdn [(37, ⟨u3, S137, trR (geB w0.heap.size) (oSl 24 (oSl 3 (oRd (eInt .i64)))) (y24.set y8.toNat ((gtD y24 y8).set y23.toNat (min (min ((gtD (gtD y24 (y8 - (1 : Int))) y23) + (1 : Int)) ((gtD (gtD y24 y8) (y23 - (1 : Int))) + (1 : Int))) ((gtD (gtD y24 (y8 - (1 : Int))) (y23 - (1 : Int))) + (1 : Int))))) []⟩)] ⟨rfl, rfl, z136, eS_u3, rfl, trivial⟩
                replace hA := hI.avok
                clear hI
                refine HT.seq ?_
                obtain ⟨x138, q139, hr⟩ := bd_some hr
                obtain ⟨x140, q141, hr⟩ := bd_some hr
                obtain ⟨e142, hr⟩ := ck_some hr
                obtain ⟨e143, hr⟩ := ck_some hr
                obtain ⟨e144, hr⟩ := ck_some hr
                obtain ⟨e145, hr⟩ := ck_some hr
                obtain ⟨x146, q147, hr⟩ := bd_some hr
                obtain ⟨e148, hr⟩ := ck_some hr
                obtain ⟨e149, hr⟩ := ck_some hr
                obtain ⟨e150, hr⟩ := ck_some hr
                obtain ⟨e151, hr⟩ := ck_some hr
                obtain ⟨x152, q153, hr⟩ := bd_some hr
                refine HT.draw (by kernel_rfl) (l := ⟨_, true, .raw (.bool p2)⟩ :: ⟨_, true, .raw (.bool p2)⟩ :: ⟨_, (true && (p2 == true)), .raw (.int .i64 y8)⟩ :: ⟨_, (true && (p2 == true)), .raw (.bool (decide ((1 : Int) < y8)))⟩ :: ⟨_, true, .raw (.bool x138)⟩ :: ⟨_, true, .raw (.bool x138)⟩ :: ⟨_, (true && (x138 == true)), .raw (.int .i64 y23)⟩ :: ⟨_, (true && (x138 == true)), .raw (.bool (decide ((1 : Int) < y23)))⟩ :: ⟨_, true, .raw (.bool x140)⟩ :: ⟨_, true, .raw (.bool x140)⟩ :: ⟨_, (true && (x140 == true)), .raw v0⟩ :: ⟨_, (true && (x140 == true)), .raw (.int .i64 y8)⟩ :: ⟨_, (true && (x140 == true)), .raw (.int .i64 (y8 - (1 : Int)))⟩ :: ⟨_, (true && (x140 == true)), .raw (.int .u8 (bAt p0 (y8 - (1 : Int))))⟩ :: ⟨_, (true && (x140 == true)), .raw v1⟩ :: ⟨_, (true && (x140 == true)), .raw (.int .i64 y23)⟩ :: ⟨_, (true && (x140 == true)), .raw (.int .i64 (y23 - (2 : Int)))⟩ :: ⟨_, (true && (x140 == true)), .raw (.int .u8 (bAt p1 (y23 - (2 : Int))))⟩ :: ⟨_, (true && (x140 == true)), .raw (.bool ((bAt p0 (y8 - (1 : Int))) == (bAt p1 (y23 - (2 : Int)))))⟩ :: ⟨_, true, .raw (.bool x146)⟩ :: ⟨_, true, .raw (.bool x146)⟩ :: ⟨_, (true && (x146 == true)), .raw v0⟩ :: ⟨_, (true && (x146 == true)), .raw (.int .i64 y8)⟩ :: ⟨_, (true && (x146 == true)), .raw (.int .i64 (y8 - (2 : Int)))⟩ :: ⟨_, (true && (x146 == true)), .raw (.int .u8 (bAt p0 (y8 - (2 : Int))))⟩ :: ⟨_, (true && (x146 == true)), .raw v1⟩ :: ⟨_, (true && (x146 == true)), .raw (.int .i64 y23)⟩ :: ⟨_, (true && (x146 == true)), .raw (.int .i64 (y23 - (1 : Int)))⟩ :: ⟨_, (true && (x146 == true)), .raw (.int .u8 (bAt p1 (y23 - (1 : Int))))⟩ :: ⟨_, (true && (x146 == true)), .raw (.bool ((bAt p0 (y8 - (2 : Int))) == (bAt p1 (y23 - (1 : Int)))))⟩ :: ⟨_, true, .raw (.bool x152)⟩ :: []) (tl := []) (by kernel_rfl) (by kernel_rfl) (by kernel_rfl) (by kernel_rfl) ?_ ?_
                · exact
                    Obls.cons (Obl.plain rfl rfl fun R' w' hw hs hd => by have a0 : R' 2 = .bool p2 := (hs 2 rfl).trans h2; exact of_move a0) <|
                    Obls.cons (Obl.plain rfl rfl fun R' w' hw hs hd => by have a0 : R' 100 = .bool p2 := hd 0 _ _ _ rfl rfl rfl rfl rfl; exact of_move a0) <|
                    Obls.cons (Obl.grd 1 true _ _ _ rfl rfl rfl rfl rfl (by kernel_rfl) fun hg R' w' hw hs hd => by have a0 : R' 8 = .int .i64 y8 := (hs 8 rfl).trans h8; exact of_move a0) <|
                    Obls.cons (Obl.grd 1 true _ _ _ rfl rfl rfl rfl rfl (by kernel_rfl) fun hg R' w' hw hs hd => by have a0 : R' 102 = .int .i64 y8 := hd 0 _ _ _ rfl rfl rfl rfl hg; exact of_gtr a0 rfl) <|
                    Obls.cons (Obl.plain rfl rfl fun R' w' hw hs hd => by have a0 : R' 101 = .bool p2 := hd 0 _ _ _ rfl rfl rfl rfl rfl; exact of_pick p2 a0 (fun hc => by have a1 : R' 103 = .bool (decide ((1 : Int) < y8)) := hd 1 _ _ _ rfl rfl rfl rfl (g_and rfl (beq_of hc)); show _ = Value.bool x138; rw [q139, hc]; exact a1) (fun hc => by show _ = Value.bool x138; rw [q139, hc]; exact rfl)) <|
                    Obls.cons (Obl.plain rfl rfl fun R' w' hw hs hd => by have a0 : R' 104 = .bool x138 := hd 0 _ _ _ rfl rfl rfl rfl rfl; exact of_move a0) <|
                    Obls.cons (Obl.grd 5 true _ _ _ rfl rfl rfl rfl rfl (by kernel_rfl) fun hg R' w' hw hs hd => by have a0 : R' 9 = .int .i64 y23 := (hs 9 rfl).trans h9; exact of_move a0) <|
                    Obls.cons (Obl.grd 5 true _ _ _ rfl rfl rfl rfl rfl (by kernel_rfl) fun hg R' w' hw hs hd => by have a0 : R' 106 = .int .i64 y23 := hd 0 _ _ _ rfl rfl rfl rfl hg; exact of_gtr a0 rfl) <|
                    Obls.cons (Obl.plain rfl rfl fun R' w' hw hs hd => by have a0 : R' 105 = .bool x138 := hd 0 _ _ _ rfl rfl rfl rfl rfl; exact of_pick x138 a0 (fun hc => by have a1 : R' 107 = .bool (decide ((1 : Int) < y23)) := hd 1 _ _ _ rfl rfl rfl rfl (g_and rfl (beq_of hc)); show _ = Value.bool x140; rw [q141, hc]; exact a1) (fun hc => by show _ = Value.bool x140; rw [q141, hc]; exact rfl)) <|
                    Obls.cons (Obl.plain rfl rfl fun R' w' hw hs hd => by have a0 : R' 108 = .bool x140 := hd 0 _ _ _ rfl rfl rfl rfl rfl; exact of_move a0) <|
                    Obls.cons (Obl.grd 9 true _ _ _ rfl rfl rfl rfl rfl (by kernel_rfl) fun hg R' w' hw hs hd => by have a0 : R' 0 = v0 := (hs 0 rfl).trans h0; exact of_move a0) <|
                    Obls.cons (Obl.grd 9 true _ _ _ rfl rfl rfl rfl rfl (by kernel_rfl) fun hg R' w' hw hs hd => by have a0 : R' 8 = .int .i64 y8 := (hs 8 rfl).trans h8; exact of_move a0) <|
                    Obls.cons (Obl.grd 9 true _ _ _ rfl rfl rfl rfl rfl (by kernel_rfl) fun hg R' w' hw hs hd => by have a0 : R' 111 = .int .i64 y8 := hd 0 _ _ _ rfl rfl rfl rfl hg; exact of_sub a0 rfl (gd e142 hg)) <|
                    Obls.cons (Obl.grd 9 true _ _ _ rfl rfl rfl rfl rfl (by kernel_rfl) fun hg R' w' hw hs hd => by have a0 : R' 110 = v0 := hd 0 _ _ _ rfl rfl rfl rfl hg; have ra0 := (f_v0.fr hw).eq a0; have a1 : R' 112 = .int .i64 (y8 - (1 : Int)) := hd 1 _ _ _ rfl rfl rfl rfl hg; exact of_strIndex ra0 a1 Try.underlying9 (gd e143 hg)) <|
                    Obls.cons (Obl.grd 9 true _ _ _ rfl rfl rfl rfl rfl (by kernel_rfl) fun hg R' w' hw hs hd => by have a0 : R' 1 = v1 := (hs 1 rfl).trans h1; exact of_move a0) <|
                    Obls.cons (Obl.grd 9 true _ _ _ rfl rfl rfl rfl rfl (by kernel_rfl) fun hg R' w' hw hs hd => by have a0 : R' 9 = .int .i64 y23 := (hs 9 rfl).trans h9; exact of_move a0) <|
                    Obls.cons (Obl.grd 9 true _ _ _ rfl rfl rfl rfl rfl (by kernel_rfl) fun hg R' w' hw hs hd => by have a0 : R' 115 = .int .i64 y23 := hd 0 _ _ _ rfl rfl rfl rfl hg; exact of_sub a0 rfl (gd e144 hg)) <|
                    Obls.cons (Obl.grd 9 true _ _ _ rfl rfl rfl rfl rfl (by kernel_rfl) fun hg R' w' hw hs hd => by have a0 : R' 114 = v1 := hd 0 _ _ _ rfl rfl rfl rfl hg; have ra0 := (f_v1.fr hw).eq a0; have a1 : R' 116 = .int .i64 (y23 - (2 : Int)) := hd 1 _ _ _ rfl rfl rfl rfl hg; exact of_strIndex ra0 a1 Try.underlying9 (gd e145 hg)) <|
                    Obls.cons (Obl.grd 9 true _ _ _ rfl rfl rfl rfl rfl (by kernel_rfl) fun hg R' w' hw hs hd => by have a0 : R' 113 = .int .u8 (bAt p0 (y8 - (1 : Int))) := hd 0 _ _ _ rfl rfl rfl rfl hg; have a1 : R' 117 = .int .u8 (bAt p1 (y23 - (2 : Int))) := hd 1 _ _ _ rfl rfl rfl rfl hg; exact of_eql a0 a1) <|
                    Obls.cons (Obl.plain rfl rfl fun R' w' hw hs hd => by have a0 : R' 109 = .bool x140 := hd 0 _ _ _ rfl rfl rfl rfl rfl; exact of_pick x140 a0 (fun hc => by have a1 : R' 118 = .bool ((bAt p0 (y8 - (1 : Int))) == (bAt p1 (y23 - (2 : Int)))) := hd 1 _ _ _ rfl rfl rfl rfl (g_and rfl (beq_of hc)); show _ = Value.bool x146; rw [q147, hc]; exact a1) (fun hc => by show _ = Value.bool x146; rw [q147, hc]; exact rfl)) <|
                    Obls.cons (Obl.plain rfl rfl fun R' w' hw hs hd => by have a0 : R' 119 = .bool x146 := hd 0 _ _ _ rfl rfl rfl rfl rfl; exact of_move a0) <|
                    Obls.cons (Obl.grd 20 true _ _ _ rfl rfl rfl rfl rfl (by kernel_rfl) fun hg R' w' hw hs hd => by have a0 : R' 0 = v0 := (hs 0 rfl).trans h0; exact of_move a0) <|
                    Obls.cons (Obl.grd 20 true _ _ _ rfl rfl rfl rfl rfl (by kernel_rfl) fun hg R' w' hw hs hd => by have a0 : R' 8 = .int .i64 y8 := (hs 8 rfl).trans h8; exact of_move a0) <|
                    Obls.cons (Obl.grd 20 true _ _ _ rfl rfl rfl rfl rfl (by kernel_rfl) fun hg R' w' hw hs hd => by have a0 : R' 122 = .int .i64 y8 := hd 0 _ _ _ rfl rfl rfl rfl hg; exact of_sub a0 rfl (gd e148 hg)) <|
                    Obls.cons (Obl.grd 20 true _ _ _ rfl rfl rfl rfl rfl (by kernel_rfl) fun hg R' w' hw hs hd => by have a0 : R' 121 = v0 := hd 0 _ _ _ rfl rfl rfl rfl hg; have ra0 := (f_v0.fr hw).eq a0; have a1 : R' 123 = .int .i64 (y8 - (2 : Int)) := hd 1 _ _ _ rfl rfl rfl rfl hg; exact of_strIndex ra0 a1 Try.underlying9 (gd e149 hg)) <|
                    Obls.cons (Obl.grd 20 true _ _ _ rfl rfl rfl rfl rfl (by kernel_rfl) fun hg R' w' hw hs hd => by have a0 : R' 1 = v1 := (hs 1 rfl).trans h1; exact of_move a0) <|
                    Obls.cons (Obl.grd 20 true _ _ _ rfl rfl rfl rfl rfl (by kernel_rfl) fun hg R' w' hw hs hd => by have a0 : R' 9 = .int .i64 y23 := (hs 9 rfl).trans h9; exact of_move a0) <|
                    Obls.cons (Obl.grd 20 true _ _ _ rfl rfl rfl rfl rfl (by kernel_rfl) fun hg R' w' hw hs hd => by have a0 : R' 126 = .int .i64 y23 := hd 0 _ _ _ rfl rfl rfl rfl hg; exact of_sub a0 rfl (gd e150 hg)) <|
                    Obls.cons (Obl.grd 20 true _ _ _ rfl rfl rfl rfl rfl (by kernel_rfl) fun hg R' w' hw hs hd => by have a0 : R' 125 = v1 := hd 0 _ _ _ rfl rfl rfl rfl hg; have ra0 := (f_v1.fr hw).eq a0; have a1 : R' 127 = .int .i64 (y23 - (1 : Int)) := hd 1 _ _ _ rfl rfl rfl rfl hg; exact of_strIndex ra0 a1 Try.underlying9 (gd e151 hg)) <|
                    Obls.cons (Obl.grd 20 true _ _ _ rfl rfl rfl rfl rfl (by kernel_rfl) fun hg R' w' hw hs hd => by have a0 : R' 124 = .int .u8 (bAt p0 (y8 - (2 : Int))) := hd 0 _ _ _ rfl rfl rfl rfl hg; have a1 : R' 128 = .int .u8 (bAt p1 (y23 - (1 : Int))) := hd 1 _ _ _ rfl rfl rfl rfl hg; exact of_eql a0 a1) <|
                    Obls.cons (Obl.plain rfl rfl fun R' w' hw hs hd => by have a0 : R' 120 = .bool x146 := hd 0 _ _ _ rfl rfl rfl rfl rfl; exact of_pick x146 a0 (fun hc => by have a1 : R' 129 = .bool ((bAt p0 (y8 - (2 : Int))) == (bAt p1 (y23 - (1 : Int)))) := hd 1 _ _ _ rfl rfl rfl rfl (g_and rfl (beq_of hc)); show _ = Value.bool x152; rw [q153, hc]; exact a1) (fun hc => by show _ = Value.bool x152; rw [q153, hc]; exact rfl)) <|
                    Obls.nil
                intro R w hw hs hF'
                replace h0 : R 0 = v0 := (hs 0 rfl).trans h0
                replace h1 : R 1 = v1 := (hs 1 rfl).trans h1
                replace h2 : R 2 = .bool p2 := (hs 2 rfl).trans h2
                replace h7 : R 7 = u3 := (hs 7 rfl).trans h7
                replace h8 : R 8 = .int .i64 y8 := (hs 8 rfl).trans h8
                replace h9 : R 9 = .int .i64 y23 := (hs 9 rfl).trans h9
                replace h16 : R 16 = .int .i64 ((List.replicate ((p0.length : Int) + (1 : Int)).toNat ([] : List Int)).length : Int) := (hs 16 rfl).trans h16
                replace h17 : R 17 = .int .i64 y8 := (hs 17 rfl).trans h17
                replace h31 : R 31 = .int .i64 ((gtD (y9.set y8.toNat (List.replicate ((p1.length : Int) + (1 : Int)).toNat (0 : Int))) y8).length : Int) := (hs 31 rfl).trans h31
                replace h32 : R 32 = .int .i64 y23 := (hs 32 rfl).trans h32
                have h130 : R 130 = .bool x152 := hF' 30 _ _ rfl rfl rfl
                replace f_v0 := f_v0.fr hw
                replace f_v1 := f_v1.fr hw
                replace hO := hO.fr hw
                replace hA := hA.fr hw.size
                replace hF := hF.trans hw
                clear hs hF' hw
                refine seqR_nil ?_
                refine HT.cond x152 h130 (fun c154 => ?_) (fun c154 => ?_)
                · have hr := cnd_t c154 hr
                  obtain ⟨e155, hr⟩ := ck_some hr
                  obtain ⟨h156, p_h156⟩ := (((tr_root (hO.own 0 _ rfl).2).elem e155 rfl)).open1 rfl
                  replace hO : IniOK [⟨u3, S137, trR (geB w0.heap.size) (oSl 24 (oSl 3 (oRd (eInt .i64)))) (y24.set y8.toNat ((gtD y24 y8).set y23.toNat (min (min ((gtD (gtD y24 (y8 - (1 : Int))) y23) + (1 : Int)) ((gtD (gtD y24 y8) (y23 - (1 : Int))) + (1 : Int))) ((gtD (gtD y24 (y8 - (1 : Int))) (y23 - (1 : Int))) + (1 : Int))))) [((vptr u3 (y8.toNat * 1)), [h156])]⟩] A w := hO.repin 0 rfl (trP.pin p_h156)
                  obtain ⟨e158, hr⟩ := ck_some hr
                  obtain ⟨h159, p_h159⟩ := (((tr_root (hO.own 0 _ rfl).2).elem e158 rfl)).open1 rfl
                  replace hO : IniOK [⟨u3, S137, trR (geB w0.heap.size) (oSl 24 (oSl 3 (oRd (eInt .i64)))) (y24.set y8.toNat ((gtD y24 y8).set y23.toNat (min (min ((gtD (gtD y24 (y8 - (1 : Int))) y23) + (1 : Int)) ((gtD (gtD y24 y8) (y23 - (1 : Int))) + (1 : Int))) ((gtD (gtD y24 (y8 - (1 : Int))) (y23 - (1 : Int))) + (1 : Int))))) [((vptr u3 (y8.toNat * 1)), [h159]), ((vptr u3 (y8.toNat * 1)), [h156])]⟩] A w := hO.repin 0 rfl (trP.pin p_h159)
                  obtain ⟨e161, hr⟩ := ck_some hr
                  obtain ⟨e162, hr⟩ := ck_some hr
                  obtain ⟨e163, hr⟩ := ck_some hr
                  obtain ⟨h164, p_h164⟩ := (((tr_root (hO.own 0 _ rfl).2).elem e163 rfl)).open1 rfl
                  replace hO : IniOK [⟨u3, S137, trR (geB w0.heap.size) (oSl 24 (oSl 3 (oRd (eInt .i64)))) (y24.set y8.toNat ((gtD y24 y8).set y23.toNat (min (min ((gtD (gtD y24 (y8 - (1 : Int))) y23) + (1 : Int)) ((gtD (gtD y24 y8) (y23 - (1 : Int))) + (1 : Int))) ((gtD (gtD y24 (y8 - (1 : Int))) (y23 - (1 : Int))) + (1 : Int))))) [((vptr u3 ((y8 - (2 : Int)).toNat * 1)), [h164]), ((vptr u3 (y8.toNat * 1)), [h159]), ((vptr u3 (y8.toNat * 1)), [h156])]⟩] A w := hO.repin 0 rfl (trP.pin p_h164)
                  obtain ⟨e166, hr⟩ := ck_some hr
                  obtain ⟨e167, hr⟩ := ck_some hr
                  obtain ⟨e168, hr⟩ := ck_some hr
                  obtain ⟨e169, hr⟩ := ck_some hr
                  refine HT.drawR [⟨u3, S137, trR (geB w0.heap.size) (oSl 24 (oSl 3 (oRd (eInt .i64)))) (y24.set y8.toNat ((gtD y24 y8).set y23.toNat (min (min ((gtD (gtD y24 (y8 - (1 : Int))) y23) + (1 : Int)) ((gtD (gtD y24 y8) (y23 - (1 : Int))) + (1 : Int))) ((gtD (gtD y24 (y8 - (1 : Int))) (y23 - (1 : Int))) + (1 : Int))))) [((vptr u3 ((y8 - (2 : Int)).toNat * 1)), [h164]), ((vptr u3 (y8.toNat * 1)), [h159]), ((vptr u3 (y8.toNat * 1)), [h156])]⟩] (⟨_, true, [], none, true, fun A => .raw u3⟩ :: ⟨_, true, [], none, true, fun A => .raw (.int .i64 y8)⟩ :: ⟨_, true, [], none, true, fun A => .raw (vptr u3 (y8.toNat * 1))⟩ :: ⟨_, true, [], none, true, fun A => .raw h156⟩ :: ⟨_, true, [], none, true, fun A => .raw (.int .i64 y23)⟩ :: ⟨_, true, [], none, true, fun A => .raw u3⟩ :: ⟨_, true, [], none, true, fun A => .raw (.int .i64 y8)⟩ :: ⟨_, true, [], none, true, fun A => .raw (vptr u3 (y8.toNat * 1))⟩ :: ⟨_, true, [], none, true, fun A => .raw h159⟩ :: ⟨_, true, [], none, true, fun A => .raw (.int .i64 y23)⟩ :: ⟨_, true, [], none, true, fun A => .raw (vptr h159 (y23.toNat * 1))⟩ :: ⟨_, true, [], none, true, fun A => .raw (.int .i64 (gtD (gtD (y24.set y8.toNat ((gtD y24 y8).set y23.toNat (min (min ((gtD (gtD y24 (y8 - (1 : Int))) y23) + (1 : Int)) ((gtD (gtD y24 y8) (y23 - (1 : Int))) + (1 : Int))) ((gtD (gtD y24 (y8 - (1 : Int))) (y23 - (1 : Int))) + (1 : Int))))) y8) y23))⟩ :: ⟨_, true, [], none, true, fun A => .raw u3⟩ :: ⟨_, true, [], none, true, fun A => .raw (.int .i64 y8)⟩ :: ⟨_, true, [], none, true, fun A => .raw (.int .i64 (y8 - (2 : Int)))⟩ :: ⟨_, true, [], none, true, fun A => .raw (vptr u3 ((y8 - (2 : Int)).toNat * 1))⟩ :: ⟨_, true, [], none, true, fun A => .raw h164⟩ :: ⟨_, true, [], none, true, fun A => .raw (.int .i64 y23)⟩ :: ⟨_, true, [], none, true, fun A => .raw (.int .i64 (y23 - (2 : Int)))⟩ :: ⟨_, true, [], none, true, fun A => .raw (vptr h164 ((y23 - (2 : Int)).toNat * 1))⟩ :: ⟨_, true, [], none, true, fun A => .raw (.int .i64 (gtD (gtD (y24.set y8.toNat ((gtD y24 y8).set y23.toNat (min (min ((gtD (gtD y24 (y8 - (1 : Int))) y23) + (1 : Int)) ((gtD (gtD y24 y8) (y23 - (1 : Int))) + (1 : Int))) ((gtD (gtD y24 (y8 - (1 : Int))) (y23 - (1 : Int))) + (1 : Int))))) (y8 - (2 : Int))) (y23 - (2 : Int))))⟩ :: ⟨_, true, [], none, true, fun A => .raw (.int .i64 ((gtD (gtD (y24.set y8.toNat ((gtD y24 y8).set y23.toNat (min (min ((gtD (gtD y24 (y8 - (1 : Int))) y23) + (1 : Int)) ((gtD (gtD y24 y8) (y23 - (1 : Int))) + (1 : Int))) ((gtD (gtD y24 (y8 - (1 : Int))) (y23 - (1 : Int))) + (1 : Int))))) (y8 - (2 : Int))) (y23 - (2 : Int))) + (1 : Int)))⟩ :: ⟨_, true, [], none, true, fun A => .raw (.int .i64 (min (gtD (gtD (y24.set y8.toNat ((gtD y24 y8).set y23.toNat (min (min ((gtD (gtD y24 (y8 - (1 : Int))) y23) + (1 : Int)) ((gtD (gtD y24 y8) (y23 - (1 : Int))) + (1 : Int))) ((gtD (gtD y24 (y8 - (1 : Int))) (y23 - (1 : Int))) + (1 : Int))))) y8) y23) ((gtD (gtD (y24.set y8.toNat ((gtD y24 y8).set y23.toNat (min (min ((gtD (gtD y24 (y8 - (1 : Int))) y23) + (1 : Int)) ((gtD (gtD y24 y8) (y23 - (1 : Int))) + (1 : Int))) ((gtD (gtD y24 (y8 - (1 : Int))) (y23 - (1 : Int))) + (1 : Int))))) (y8 - (2 : Int))) (y23 - (2 : Int))) + (1 : Int))))⟩ :: ⟨_, true, [], none, true, fun A => .raw (vptr h156 (y23.toNat * 1))⟩ :: ⟨_, true, [0], some (trR (geB w0.heap.size) (oSl 24 (oSl 3 (oRd (eInt .i64)))) ((y24.set y8.toNat ((gtD y24 y8).set y23.toNat (min (min ((gtD (gtD y24 (y8 - (1 : Int))) y23) + (1 : Int)) ((gtD (gtD y24 y8) (y23 - (1 : Int))) + (1 : Int))) ((gtD (gtD y24 (y8 - (1 : Int))) (y23 - (1 : Int))) + (1 : Int))))).set y8.toNat ((gtD (y24.set y8.toNat ((gtD y24 y8).set y23.toNat (min (min ((gtD (gtD y24 (y8 - (1 : Int))) y23) + (1 : Int)) ((gtD (gtD y24 y8) (y23 - (1 : Int))) + (1 : Int))) ((gtD (gtD y24 (y8 - (1 : Int))) (y23 - (1 : Int))) + (1 : Int))))) y8).set y23.toNat (min (gtD (gtD (y24.set y8.toNat ((gtD y24 y8).set y23.toNat (min (min ((gtD (gtD y24 (y8 - (1 : Int))) y23) + (1 : Int)) ((gtD (gtD y24 y8) (y23 - (1 : Int))) + (1 : Int))) ((gtD (gtD y24 (y8 - (1 : Int))) (y23 - (1 : Int))) + (1 : Int))))) y8) y23) ((gtD (gtD (y24.set y8.toNat ((gtD y24 y8).set y23.toNat (min (min ((gtD (gtD y24 (y8 - (1 : Int))) y23) + (1 : Int)) ((gtD (gtD y24 y8) (y23 - (1 : Int))) + (1 : Int))) ((gtD (gtD y24 (y8 - (1 : Int))) (y23 - (1 : Int))) + (1 : Int))))) (y8 - (2 : Int))) (y23 - (2 : Int))) + (1 : Int))))) []), false, fun A => .any⟩ :: []) (by kernel_rfl) (by kernel_rfl) (by kernel_rfl) (Wf.mk' (by kernel_rfl) (UAll.cons ust_raw (UAll.cons ust_raw (UAll.cons ust_raw (UAll.cons ust_raw (UAll.cons ust_raw (UAll.cons ust_raw (UAll.cons ust_raw (UAll.cons ust_raw (UAll.cons ust_raw (UAll.cons ust_raw (UAll.cons ust_raw (UAll.cons ust_raw (UAll.cons ust_raw (UAll.cons ust_raw (UAll.cons ust_raw (UAll.cons ust_raw (UAll.cons ust_raw (UAll.cons ust_raw (UAll.cons ust_raw (UAll.cons ust_raw (UAll.cons ust_raw (UAll.cons ust_raw (UAll.cons ust_raw (UAll.cons ust_raw (UAll.cons ust_any (UAll.nil)))))))))))))))))))))))))) (by kernel_rfl) (by kernel_rfl)) hO hA ?_ ?_
                  · exact
                      OblsR.cons (OblR.plain rfl rfl rfl rfl fun A' R' w' ho hd => by have a0 : R' 7 = u3 := (ho.old 7 rfl).trans h7; exact of_move a0) <|
                      OblsR.cons (OblR.plain rfl rfl rfl rfl fun A' R' w' ho hd => by have a0 : R' 8 = .int .i64 y8 := (ho.old 8 rfl).trans h8; exact of_move a0) <|
                      OblsR.cons (OblR.plain rfl rfl rfl rfl fun A' R' w' ho hd => by have a0 : R' 131 = u3 := hd 0 _ _ _ rfl rfl rfl rfl rfl; have a1 : R' 132 = .int .i64 y8 := hd 1 _ _ _ rfl rfl rfl rfl rfl; exact of_indexAddr_tr (tr_root (hO.own 0 _ rfl).2) a0 a1 Try.underlying75 Try.sizeOf24 e155 rfl) <|
                      OblsR.cons (OblR.plain rfl rfl rfl rfl fun A' R' w' ho hd => by have a0 : R' 133 = (vptr u3 (y8.toNat * 1)) := hd 0 _ _ _ rfl rfl rfl rfl rfl; exact of_load_pin ((ho.rdo 0 _ rfl rfl).2.2 _ (.tail _ (.tail _ (.head _)))) a0 Try.isAgg24 Try.sizeOf24) <|
                      OblsR.cons (OblR.plain rfl rfl rfl rfl fun A' R' w' ho hd => by have a0 : R' 9 = .int .i64 y23 := (ho.old 9 rfl).trans h9; exact of_move a0) <|
                      OblsR.cons (OblR.plain rfl rfl rfl rfl fun A' R' w' ho hd => by have a0 : R' 7 = u3 := (ho.old 7 rfl).trans h7; exact of_move a0) <|
                      OblsR.cons (OblR.plain rfl rfl rfl rfl fun A' R' w' ho hd => by have a0 : R' 8 = .int .i64 y8 := (ho.old 8 rfl).trans h8; exact of_move a0) <|
                      OblsR.cons (OblR.plain rfl rfl rfl rfl fun A' R' w' ho hd => by have a0 : R' 136 = u3 := hd 0 _ _ _ rfl rfl rfl rfl rfl; have a1 : R' 137 = .int .i64 y8 := hd 1 _ _ _ rfl rfl rfl rfl rfl; exact of_indexAddr_tr (tr_root (hO.own 0 _ rfl).2) a0 a1 Try.underlying75 Try.sizeOf24 e158 rfl) <|
                      OblsR.cons (OblR.plain rfl rfl rfl rfl fun A' R' w' ho hd => by have a0 : R' 138 = (vptr u3 (y8.toNat * 1)) := hd 0 _ _ _ rfl rfl rfl rfl rfl; exact of_load_pin ((ho.rdo 0 _ rfl rfl).2.2 _ (.tail _ (.head _))) a0 Try.isAgg24 Try.sizeOf24) <|
                      OblsR.cons (OblR.plain rfl rfl rfl rfl fun A' R' w' ho hd => by have a0 : R' 9 = .int .i64 y23 := (ho.old 9 rfl).trans h9; exact of_move a0) <|
                      OblsR.cons (OblR.plain rfl rfl rfl rfl fun A' R' w' ho hd => by have a0 : R' 139 = h159 := hd 0 _ _ _ rfl rfl rfl rfl rfl; have a1 : R' 140 = .int .i64 y23 := hd 1 _ _ _ rfl rfl rfl rfl rfl; exact of_indexAddr_tr ((((tr_root (hO.own 0 _ rfl).2).elem e158 rfl)).pin ((hO.own 0 _ rfl).2.2 _ (.tail _ (.head _))) rfl) a0 a1 Try.underlying24 Try.sizeOf3 e161 rfl) <|
                      OblsR.cons (OblR.plain rfl rfl rfl rfl fun A' R' w' ho hd => by have a0 : R' 141 = (vptr h159 (y23.toNat * 1)) := hd 0 _ _ _ rfl rfl rfl rfl rfl; exact OpF.int (of_load_tr ((((((tr_root (ho.rdo 0 _ rfl rfl).2).elem e158 rfl)).pin ((ho.rdo 0 _ rfl rfl).2.2 _ (.tail _ (.head _))) rfl).elem e161 rfl)) a0 Try.isAgg3 Try.sizeOf3)) <|
                      OblsR.cons (OblR.plain rfl rfl rfl rfl fun A' R' w' ho hd => by have a0 : R' 7 = u3 := (ho.old 7 rfl).trans h7; exact of_move a0) <|
                      OblsR.cons (OblR.plain rfl rfl rfl rfl fun A' R' w' ho hd => by have a0 : R' 8 = .int .i64 y8 := (ho.old 8 rfl).trans h8; exact of_move a0) <|
                      OblsR.cons (OblR.plain rfl rfl rfl rfl fun A' R' w' ho hd => by have a0 : R' 144 = .int .i64 y8 := hd 0 _ _ _ rfl rfl rfl rfl rfl; exact of_sub a0 rfl e162) <|
                      OblsR.cons (OblR.plain rfl rfl rfl rfl fun A' R' w' ho hd => by have a0 : R' 143 = u3 := hd 0 _ _ _ rfl rfl rfl rfl rfl; have a1 : R' 145 = .int .i64 (y8 - (2 : Int)) := hd 1 _ _ _ rfl rfl rfl rfl rfl; exact of_indexAddr_tr (tr_root (hO.own 0 _ rfl).2) a0 a1 Try.underlying75 Try.sizeOf24 e163 rfl) <|
                      OblsR.cons (OblR.plain rfl rfl rfl rfl fun A' R' w' ho hd => by have a0 : R' 146 = (vptr u3 ((y8 - (2 : Int)).toNat * 1)) := hd 0 _ _ _ rfl rfl rfl rfl rfl; exact of_load_pin ((ho.rdo 0 _ rfl rfl).2.2 _ (.head _)) a0 Try.isAgg24 Try.sizeOf24) <|
                      OblsR.cons (OblR.plain rfl rfl rfl rfl fun A' R' w' ho hd => by have a0 : R' 9 = .int .i64 y23 := (ho.old 9 rfl).trans h9; exact of_move a0) <|
                      OblsR.cons (OblR.plain rfl rfl rfl rfl fun A' R' w' ho hd => by have a0 : R' 148 = .int .i64 y23 := hd 0 _ _ _ rfl rfl rfl rfl rfl; exact of_sub a0 rfl e166) <|
                      OblsR.cons (OblR.plain rfl rfl rfl rfl fun A' R' w' ho hd => by have a0 : R' 147 = h164 := hd 0 _ _ _ rfl rfl rfl rfl rfl; have a1 : R' 149 = .int .i64 (y23 - (2 : Int)) := hd 1 _ _ _ rfl rfl rfl rfl rfl; exact of_indexAddr_tr ((((tr_root (hO.own 0 _ rfl).2).elem e163 rfl)).pin ((hO.own 0 _ rfl).2.2 _ (.head _)) rfl) a0 a1 Try.underlying24 Try.sizeOf3 e167 rfl) <|
                      OblsR.cons (OblR.plain rfl rfl rfl rfl fun A' R' w' ho hd => by have a0 : R' 150 = (vptr h164 ((y23 - (2 : Int)).toNat * 1)) := hd 0 _ _ _ rfl rfl rfl rfl rfl; exact OpF.int (of_load_tr ((((((tr_root (ho.rdo 0 _ rfl rfl).2).elem e163 rfl)).pin ((ho.rdo 0 _ rfl rfl).2.2 _ (.head _)) rfl).elem e167 rfl)) a0 Try.isAgg3 Try.sizeOf3)) <|
                      OblsR.cons (OblR.plain rfl rfl rfl rfl fun A' R' w' ho hd => by have a0 : R' 151 = .int .i64 (gtD (gtD (y24.set y8.toNat ((gtD y24 y8).set y23.toNat (min (min ((gtD (gtD y24 (y8 - (1 : Int))) y23) + (1 : Int)) ((gtD (gtD y24 y8) (y23 - (1 : Int))) + (1 : Int))) ((gtD (gtD y24 (y8 - (1 : Int))) (y23 - (1 : Int))) + (1 : Int))))) (y8 - (2 : Int))) (y23 - (2 : Int))) := hd 0 _ _ _ rfl rfl rfl rfl rfl; exact of_add a0 rfl e168) <|
                      OblsR.cons (OblR.plain rfl rfl rfl rfl fun A' R' w' ho hd => by have a0 : R' 142 = .int .i64 (gtD (gtD (y24.set y8.toNat ((gtD y24 y8).set y23.toNat (min (min ((gtD (gtD y24 (y8 - (1 : Int))) y23) + (1 : Int)) ((gtD (gtD y24 y8) (y23 - (1 : Int))) + (1 : Int))) ((gtD (gtD y24 (y8 - (1 : Int))) (y23 - (1 : Int))) + (1 : Int))))) y8) y23) := hd 0 _ _ _ rfl rfl rfl rfl rfl; have a1 : R' 152 = .int .i64 ((gtD (gtD (y24.set y8.toNat ((gtD y24 y8).set y23.toNat (min (min ((gtD (gtD y24 (y8 - (1 : Int))) y23) + (1 : Int)) ((gtD (gtD y24 y8) (y23 - (1 : Int))) + (1 : Int))) ((gtD (gtD y24 (y8 - (1 : Int))) (y23 - (1 : Int))) + (1 : Int))))) (y8 - (2 : Int))) (y23 - (2 : Int))) + (1 : Int)) := hd 1 _ _ _ rfl rfl rfl rfl rfl; exact of_min2 a0 a1) <|
                      OblsR.cons (OblR.plain rfl rfl rfl rfl fun A' R' w' ho hd => by have a0 : R' 134 = h156 := hd 0 _ _ _ rfl rfl rfl rfl rfl; have a1 : R' 135 = .int .i64 y23 := hd 1 _ _ _ rfl rfl rfl rfl rfl; exact of_indexAddr_tr ((((tr_root (hO.own 0 _ rfl).2).elem e155 rfl)).pin ((hO.own 0 _ rfl).2.2 _ (.tail _ (.tail _ (.head _)))) rfl) a0 a1 Try.underlying24 Try.sizeOf3 e169 rfl) <|
                      OblsR.cons (OblR.tookS 0 _ _ rfl rfl rfl rfl rfl fun A' R' w' ho hd u S hok hown hav hin hop hds => by have a0 : R' 154 = (vptr h156 (y23.toNat * 1)) := hd 0 _ _ _ rfl rfl rfl rfl rfl; have a1 : R' 153 = .int .i64 (min (gtD (gtD (y24.set y8.toNat ((gtD y24 y8).set y23.toNat (min (min ((gtD (gtD y24 (y8 - (1 : Int))) y23) + (1 : Int)) ((gtD (gtD y24 y8) (y23 - (1 : Int))) + (1 : Int))) ((gtD (gtD y24 (y8 - (1 : Int))) (y23 - (1 : Int))) + (1 : Int))))) y8) y23) ((gtD (gtD (y24.set y8.toNat ((gtD y24 y8).set y23.toNat (min (min ((gtD (gtD y24 (y8 - (1 : Int))) y23) + (1 : Int)) ((gtD (gtD y24 y8) (y23 - (1 : Int))) + (1 : Int))) ((gtD (gtD y24 (y8 - (1 : Int))) (y23 - (1 : Int))) + (1 : Int))))) (y8 - (2 : Int))) (y23 - (2 : Int))) + (1 : Int))) := hd 1 _ _ _ rfl rfl rfl rfl rfl; have e0 := (hin _ rfl).1; rw [e0] at hown ⊢; exact took_hstore (((((tr_root hown.2).elem e155 rfl)).pin (hown.2.2 _ (.tail _ (.tail _ (.head _)))) rfl).elem e169 rfl) (rep_int.eq a1) a0 hav hown.1 Try.sizeOf3 (fun _ _ _ h => h)) <|
                      OblsR.nil
                  intro done ρ σ A R w hdn hI
                  replace h0 : R 0 = v0 := (hI.reg rfl).trans h0
                  replace h1 : R 1 = v1 := (hI.reg rfl).trans h1
                  replace h2 : R 2 = .bool p2 := (hI.reg rfl).trans h2
                  replace h7 : R 7 = u3 := (hI.reg rfl).trans h7
                  replace h8 : R 8 = .int .i64 y8 := (hI.reg rfl).trans h8
                  replace h16 : R 16 = .int .i64 ((List.replicate ((p0.length : Int) + (1 : Int)).toNat ([] : List Int)).length : Int) := (hI.reg rfl).trans h16
                  replace h17 : R 17 = .int .i64 y8 := (hI.reg rfl).trans h17
                  replace h31 : R 31 = .int .i64 ((gtD (y9.set y8.toNat (List.replicate ((p1.length : Int) + (1 : Int)).toNat (0 : Int))) y8).length : Int) := (hI.reg rfl).trans h31
                  replace h32 : R 32 = .int .i64 y23 := (hI.reg rfl).trans h32
                  have z170 := hI.inivR 0 rfl
                  have z171 := (hI.opnR hdn 25 24 rfl rfl rfl rfl rfl).trans z170
                  obtain ⟨S172, eS_u3⟩ : ∃ S, σ 25 = S := ⟨_, rfl⟩
                  replace f_v0 := f_v0.stp hI.stp
                  replace f_v1 := f_v1.stp hI.stp
                  replace hAA := hI.low' hAA hA0 (hO.ge (⟨fun _ h => h, trivial⟩))
                  replace hF : Fr w0 w := hF.tr hI.ch (hO.ge (⟨fun _ h => h, trivial⟩))
                  replace hO : IniOK [⟨u3, S172, trR (geB w0.heap.size) (oSl 24 (oSl 3 (oRd (eInt .i64)))) ((y24.set y8.toNat ((gtD y24 y8).set y23.toNat (min (min ((gtD (gtD y24 (y8 - (1 : Int))) y23) + (1 : Int)) ((gtD (gtD y24 y8) (y23 - (1 : Int))) + (1 : Int))) ((gtD (gtD y24 (y8 - (1 : Int))) (y23 - (1 : Int))) + (1 : Int))))).set y8.toNat ((gtD (y24.set y8.toNat ((gtD y24 y8).set y23.toNat (min (min ((gtD (gtD y24 (y8 - (1 : Int))) y23) + (1 : Int)) ((gtD (gtD y24 y8) (y23 - (1 : Int))) + (1 : Int))) ((gtD (gtD y24 (y8 - (1 : Int))) (y23 - (1 : Int))) + (1 : Int))))) y8).set y23.toNat (min (gtD (gtD (y24.set y8.toNat ((gtD y24 y8).set y23.toNat (min (min ((gtD (gtD y24 (y8 - (1 : Int))) y23) + (1 : Int)) ((gtD (gtD y24 y8) (y23 - (1 : Int))) + (1 : Int))) ((gtD (gtD y24 (y8 - (1 : Int))) (y23 - (1 : Int))) + (1 : Int))))) y8) y23) ((gtD (gtD (y24.set y8.toNat ((gtD y24 y8).set y23.toNat (min (min ((gtD (gtD y24 (y8 - (1 : Int))) y23) + (1 : Int)) ((gtD (gtD y24 y8) (y23 - (1 : Int))) + (1 : Int))) ((gtD (gtD y24 (y8 - (1 : Int))) (y23 - (1 : Int))) + (1 : Int))))) (y8 - (2 : Int))) (y23 - (2 : Int))) + (1 : Int))))) []⟩] A w := hI.left hdn [(25, ⟨u3, S172, trR (geB w0.heap.size) (oSl 24 (oSl 3 (oRd (eInt .i64)))) ((y24.set y8.toNat ((gtD y24 y8).set y23.toNat (min (min ((gtD (gtD y24 (y8 - (1 : Int))) y23) + (1 : Int)) ((gtD (gtD y24 y8) (y23 - (1 : Int))) + (1 : Int))) ((gtD (gtD y24 (y8 - (1 : Int))) (y23 - (1 : Int))) + (1 : Int))))).set y8.toNat ((gtD (y24.set y8.toNat ((gtD y24 y8).set y23.toNat (min (min ((gtD (gtD y24 (y8 - (1 : Int))) y23) + (1 : Int)) ((gtD (gtD y24 y8) (y23 - (1 : Int))) + (1 : Int))) ((gtD (gtD y24 (y8 - (1 : Int))) (y23 - (1 : Int))) + (1 : Int))))) y8).set y23.toNat (min (gtD (gtD (y24.set y8.toNat ((gtD y24 y8).set y23.toNat (min (min ((gtD (gtD y24 (y8 - (1 : Int))) y23) + (1 : Int)) ((gtD (gtD y24 y8) (y23 - (1 : Int))) + (1 : Int))) ((gtD (gtD y24 (y8 - (1 : Int))) (y23 - (1 : Int))) + (1 : Int))))) y8) y23) ((gtD (gtD (y24.set y8.toNat ((gtD y24 y8).set y23.toNat (min (min ((gtD (gtD y24 (y8 - (1 : Int))) y23) + (1 : Int)) ((gtD (gtD y24 y8) (y23 - (1 : Int))) + (1 : Int))) ((gtD (gtD y24 (y8 - (1 : Int))) (y23 - (1 : Int))) + (1 : Int))))) (y8 - (2 : Int))) (y23 - (2 : Int))) + (1 : Int))))) []⟩)] ⟨rfl, rfl, z171, eS_u3, rfl, trivial⟩
                  replace hA := hI.avok
                  clear hI
                  obtain ⟨e173, hr⟩ := ck_some hr
                  refine HT.text (l := ⟨_, true, .raw (.int .i64 (y23 + (1 : Int)))⟩ :: ⟨_, true, .raw (.int .i64 (y23 + (1 : Int)))⟩ :: []) (tl := []) (by kernel_rfl) (by kernel_rfl) (by kernel_rfl) ?_ ?_
                  · exact
                      Obls.cons (Obl.plain rfl rfl fun R' w' hw hs hd => by have a0 : R' 32 = .int .i64 y23 := (hs 32 rfl).trans h32; exact of_add a0 rfl e173) <|
                      Obls.cons (Obl.plain rfl rfl fun R' w' hw hs hd => by have a0 : R' 155 = .int .i64 (y23 + (1 : Int)) := hd 0 _ _ _ rfl rfl rfl rfl rfl; exact of_move a0) <|
                      Obls.nil
                  intro R w hw hs hF'
                  replace h0 : R 0 = v0 := (hs 0 rfl).trans h0
                  replace h1 : R 1 = v1 := (hs 1 rfl).trans h1
                  replace h2 : R 2 = .bool p2 := (hs 2 rfl).trans h2
                  replace h7 : R 7 = u3 := (hs 7 rfl).trans h7
                  replace h8 : R 8 = .int .i64 y8 := (hs 8 rfl).trans h8
                  replace h16 : R 16 = .int .i64 ((List.replicate ((p0.length : Int) + (1 : Int)).toNat ([] : List Int)).length : Int) := (hs 16 rfl).trans h16
                  replace h17 : R 17 = .int .i64 y8 := (hs 17 rfl).trans h17
                  replace h31 : R 31 = .int .i64 ((gtD (y9.set y8.toNat (List.replicate ((p1.length : Int) + (1 : Int)).toNat (0 : Int))) y8).length : Int) := (hs 31 rfl).trans h31
                  have h32 : R 32 = .int .i64 (y23 + (1 : Int)) := hF' 1 _ _ rfl rfl rfl
                  replace f_v0 := f_v0.fr hw
                  replace f_v1 := f_v1.fr hw
                  replace hO := hO.fr hw
                  replace hA := hA.fr hw.size
                  replace hF := hF.trans hw
                  clear hs hF' hw
                  refine seqR_nil ?_
                  exact Exists.intro k (And.intro (Nat.lt_succ_self k) ⟨_, _, _, S172, hr, hA, hF, hAA, hO, h0, h1, h2, h7, h8, h16, h17, h31, h32, f_v0, f_v1⟩)
                · have hr := cnd_f c154 hr
                  refine HT.skip ?_
                  obtain ⟨e174, hr⟩ := ck_some hr
                  refine HT.text (l := ⟨_, true, .raw (.int .i64 (y23 + (1 : Int)))⟩ :: ⟨_, true, .raw (.int .i64 (y23 + (1 : Int)))⟩ :: []) (tl := []) (by kernel_rfl) (by kernel_rfl) (by kernel_rfl) ?_ ?_
                  · exact
                      Obls.cons (Obl.plain rfl rfl fun R' w' hw hs hd => by have a0 : R' 32 = .int .i64 y23 := (hs 32 rfl).trans h32; exact of_add a0 rfl e174) <|
                      Obls.cons (Obl.plain rfl rfl fun R' w' hw hs hd => by have a0 : R' 155 = .int .i64 (y23 + (1 : Int)) := hd 0 _ _ _ rfl rfl rfl rfl rfl; exact of_move a0) <|
                      Obls.nil
                  intro R w hw hs hF'
                  replace h0 : R 0 = v0 := (hs 0 rfl).trans h0
                  replace h1 : R 1 = v1 := (hs 1 rfl).trans h1
                  replace h2 : R 2 = .bool p2 := (hs 2 rfl).trans h2
                  replace h7 : R 7 = u3 := (hs 7 rfl).trans h7
                  replace h8 : R 8 = .int .i64 y8 := (hs 8 rfl).trans h8
                  replace h16 : R 16 = .int .i64 ((List.replicate ((p0.length : Int) + (1 : Int)).toNat ([] : List Int)).length : Int) := (hs 16 rfl).trans h16
                  replace h17 : R 17 = .int .i64 y8 := (hs 17 rfl).trans h17
                  replace h31 : R 31 = .int .i64 ((gtD (y9.set y8.toNat (List.replicate ((p1.length : Int) + (1 : Int)).toNat (0 : Int))) y8).length : Int) := (hs 31 rfl).trans h31
                  have h32 : R 32 = .int .i64 (y23 + (1 : Int)) := hF' 1 _ _ rfl rfl rfl
                  replace f_v0 := f_v0.fr hw
                  replace f_v1 := f_v1.fr hw
                  replace hO := hO.fr hw
                  replace hA := hA.fr hw.size
                  replace hF := hF.trans hw
                  clear hs hF' hw
                  refine seqR_nil ?_
                  exact Exists.intro k (And.intro (Nat.lt_succ_self k) ⟨_, _, _, S137, hr, hA, hF, hAA, hO, h0, h1, h2, h7, h8, h16, h17, h31, h32, f_v0, f_v1⟩)
        · have hr := cnd_f c25 hr
          refine HT.exit ?_
          obtain rfl := Option.some.inj hr
          exact Exists.intro _ ⟨_, Sl_u3, rfl, hA, hF, hAA, hO, h0, h1, h2, h7, h16, h17, f_v0, f_v1⟩
      rintro R w ⟨A, s22, So_u3, es, hA, hF, hAA, hO, h0, h1, h2, h7, h16, h17, f_v0, f_v1⟩
      obtain rfl := es.symm
      obtain ⟨e175, hr⟩ := ck_some hr
      refine HT.text (l := ⟨_, true, .raw (.int .i64 (y8 + (1 : Int)))⟩ :: ⟨_, true, .raw (.int .i64 (y8 + (1 : Int)))⟩ :: []) (tl := []) (by kernel_rfl) (by kernel_rfl) (by kernel_rfl) ?_ ?_
      · exact
          Obls.cons (Obl.plain rfl rfl fun R' w' hw hs hd => by have a0 : R' 17 = .int .i64 y8 := (hs 17 rfl).trans h17; exact of_add a0 rfl e175) <|
          Obls.cons (Obl.plain rfl rfl fun R' w' hw hs hd => by have a0 : R' 156 = .int .i64 (y8 + (1 : Int)) := hd 0 _ _ _ rfl rfl rfl rfl rfl; exact of_move a0) <|
          Obls.nil
      intro R w hw hs hF'
      replace h0 : R 0 = v0 := (hs 0 rfl).trans h0
      replace h1 : R 1 = v1 := (hs 1 rfl).trans h1
      replace h2 : R 2 = .bool p2 := (hs 2 rfl).trans h2
      replace h7 : R 7 = u3 := (hs 7 rfl).trans h7
      replace h16 : R 16 = .int .i64 ((List.replicate ((p0.length : Int) + (1 : Int)).toNat ([] : List Int)).length : Int) := (hs 16 rfl).trans h16
      have h17 : R 17 = .int .i64 (y8 + (1 : Int)) := hF' 1 _ _ rfl rfl rfl
      replace f_v0 := f_v0.fr hw
      replace f_v1 := f_v1.fr hw
      replace hO := hO.fr hw
      replace hA := hA.fr hw.size
      replace hF := hF.trans hw
      clear hs hF' hw
      refine seqR_nil ?_
      exact Exists.intro k (And.intro (Nat.lt_succ_self k) ⟨_, _, _, So_u3, hr, hA, hF, hAA, hO, h0, h1, h2, h7, h16, h17, f_v0, f_v1⟩)
    · have hr := cnd_f c10 hr
      refine HT.exit ?_
      obtain rfl := Option.some.inj hr
      exact Exists.intro _ ⟨_, Sl_u3, rfl, hA, hF, hAA, hO, h7⟩
  rintro R w ⟨A, s7, So_u3, es, hA, hF, hAA, hO, h7⟩
  obtain rfl := es.symm
  refine HT.seq ?_
  refine HT.textR [⟨u3, So_u3, trR (geB w0.heap.size) (oSl 24 (oSl 3 (oRd (eInt .i64)))) s7 []⟩] (⟨_, true, [], none, true, fun A => .raw u3⟩ :: ⟨_, true, [], none, true, fun A => .raw u3⟩ :: []) (by kernel_rfl) (by kernel_rfl) (Wf.mk' (by kernel_rfl) (UAll.cons ust_raw (UAll.cons ust_raw (UAll.nil))) (by kernel_rfl) (by kernel_rfl)) hO hA ?_ ?_
  · exact
      OblsR.cons (OblR.plain rfl rfl rfl rfl fun A' R' w' ho hd => by have a0 : R' 7 = u3 := (ho.old 7 rfl).trans h7; exact of_move a0) <|
      OblsR.cons (OblR.plain rfl rfl rfl rfl fun A' R' w' ho hd => by have a0 : R' 157 = u3 := hd 0 _ _ _ rfl rfl rfl rfl rfl; exact of_assign a0) <|
      OblsR.nil
  intro done ρ σ A R w hdn hI
  have z176 := hI.inivR 0 rfl
  have eS_u3 := hI.inisR 0 rfl
  have h6 : R 6 = u3 := hI.fact hdn (i := 1) rfl rfl rfl
  replace hAA := hI.low' hAA hA0 (hO.ge (⟨fun _ h => h, trivial⟩))
  replace hF : Fr w0 w := hF.tr hI.ch (hO.ge (⟨fun _ h => h, trivial⟩))
  replace hO : IniOK [⟨u3, So_u3, trR (geB w0.heap.size) (oSl 24 (oSl 3 (oRd (eInt .i64)))) s7 []⟩] A w := hI.left hdn [(0, ⟨u3, So_u3, trR (geB w0.heap.size) (oSl 24 (oSl 3 (oRd (eInt .i64)))) s7 []⟩)] ⟨rfl, rfl, z176, eS_u3, rfl, trivial⟩
  replace hA := hI.avok
  clear hI
  refine HT.ret ?_
  obtain rfl := Option.some.inj hr
  exact ⟨.inr rfl, [R 6], ⟨rfl, trivial⟩, tree_post rfl (hO.own 0 _ rfl) (hO.ok 0 _ rfl).2 hAA hF h6 trivial⟩
theorem M_impl_distances_okR {fu : Nat} {A0 : Av} {p0 : List UInt8} {p1 : List UInt8} {p2 : Bool} {r : List (List Int)} (hr : M_impl_distances fu p0 p1 p2 = some r) {w : World} {v0 : Value} {v1 : Value} {v2 : Value} (hA : AvOK A0 w) (h0 : Rep eStr A0 w v0 p0) (h1 : Rep eStr A0 w v1 p1) (h2 : v2 = .bool p2) :
    Calls Try.prog 161 #[v0, v1, v2] w fun e w' => ∃ v, e = .returned v ∧ (Rep (eSl (eSl (eInt .i64))) A0 w' v r ∧ Fr w w') := by
  refine Calls.mono (M_impl_distances_ok hr hA h0 h1 h2) ?_
  rintro e w' ⟨v, he, h⟩
  exact ⟨v, he, madeS_rep h hA⟩
def M_impl_distance (fu : Nat) (p0 : List UInt8) (p1 : List UInt8) (p2 : Bool) : Option Int :=
  bd ((decide ((40 : Int) < (p0.length : Int))) || (decide ((40 : Int) < (p1.length : Int)))) fun x1 =>
  bif x1 then (
    some (-1 : Int)
  ) else (
    cl true (M_impl_distances fu p0 p1 p2) fun x4 =>
    ck (inR (p0.length : Int) x4.length) <|
    ck (inR (p1.length : Int) (gtD x4 (p0.length : Int)).length) <|
    some (gtD (gtD x4 (p0.length : Int)) (p1.length : Int))
  )
set_option maxRecDepth 100000 in
set_option maxHeartbeats 4000000 in
theorem M_impl_distance_ok {fu : Nat} {A : Av} {p0 : List UInt8} {p1 : List UInt8} {p2 : Bool} {r : Int} (hr : M_impl_distance fu p0 p1 p2 = some r) {w : World} {v0 : Value} {v1 : Value} {v2 : Value} (hA : AvOK A w) (h0 : Rep eStr A w v0 p0) (h1 : Rep eStr A w v1 p1) (h2 : v2 = .bool p2) :
    Calls Try.prog 131 #[v0, v1, v2] w fun e w' => ∃ v, e = .returned v ∧ (v = .int .i64 r ∧ Fr w w') := by
  unfold M_impl_distance at hr
  obtain ⟨w0, hw0⟩ : ∃ w0, w0 = w := ⟨_, rfl⟩
  have hF : Fr w0 w := hw0 ▸ Fr.refl _
  rw [show Fr w = Fr w0 from hw0 ▸ rfl]
  clear hw0
  refine calls_of_HT2 [.tmp 6] Try.func131 Try.ntmps131 (by decide) rfl rfl (Nat.le_of_ble_eq_true rfl) ?_
  intro R hR
  have f_v0 := h0
  replace h0 : R 0 = v0 := hR 0 _ rfl
  have f_v1 := h1
  replace h1 : R 1 = v1 := hR 1 _ rfl
  replace h2 : R 2 = .bool p2 := (hR 2 _ rfl).trans h2
  clear hR
  refine HT.seq ?_
  refine HT.text (l := ⟨_, true, .raw (.int .i64 (0 : Int))⟩ :: []) (tl := []) (by kernel_rfl) (by kernel_rfl) (by kernel_rfl) ?_ ?_
  · exact
      Obls.cons (Obl.plain rfl rfl fun R' w' hw hs hd => by exact of_assign rfl) <|
      Obls.nil
  intro R w hw hs hF'
  replace h0 : R 0 = v0 := (hs 0 rfl).trans h0
  replace h1 : R 1 = v1 := (hs 1 rfl).trans h1
  replace h2 : R 2 = .bool p2 := (hs 2 rfl).trans h2
  replace f_v0 := f_v0.fr hw
  replace f_v1 := f_v1.fr hw
  replace hA := hA.fr hw.size
  replace hF := hF.trans hw
  clear hs hF' hw
  refine seqR_nil ?_
  refine HT.seq ?_
  refine HT.seq ?_
  obtain ⟨x1, q2, hr⟩ := bd_some hr
  refine HT.text (l := ⟨_, true, .raw v0⟩ :: ⟨_, true, .raw (.int .i64 (p0.length : Int))⟩ :: ⟨_, true, .raw (.bool (decide ((40 : Int) < (p0.length : Int))))⟩ :: ⟨_, true, .raw (.bool (decide ((40 : Int) < (p0.length : Int))))⟩ :: ⟨_, (true && ((decide ((40 : Int) < (p0.length : Int))) == false)), .raw v1⟩ :: ⟨_, (true && ((decide ((40 : Int) < (p0.length : Int))) == false)), .raw (.int .i64 (p1.length : Int))⟩ :: ⟨_, (true && ((decide ((40 : Int) < (p0.length : Int))) == false)), .raw (.bool (decide ((40 : Int) < (p1.length : Int))))⟩ :: ⟨_, true, .raw (.bool x1)⟩ :: []) (tl := []) (by kernel_rfl) (by kernel_rfl) (by kernel_rfl) ?_ ?_
  · exact
      Obls.cons (Obl.plain rfl rfl fun R' w' hw hs hd => by have a0 : R' 0 = v0 := (hs 0 rfl).trans h0; exact of_move a0) <|
      Obls.cons (Obl.plain rfl rfl fun R' w' hw hs hd => by have a0 : R' 7 = v0 := hd 0 _ _ _ rfl rfl rfl rfl rfl; have ra0 := (f_v0.fr hw).eq a0; exact of_len_str ra0 Try.underlying9) <|
      Obls.cons (Obl.plain rfl rfl fun R' w' hw hs hd => by have a0 : R' 8 = .int .i64 (p0.length : Int) := hd 0 _ _ _ rfl rfl rfl rfl rfl; exact of_gtr a0 rfl) <|
      Obls.cons (Obl.plain rfl rfl fun R' w' hw hs hd => by have a0 : R' 9 = .bool (decide ((40 : Int) < (p0.length : Int))) := hd 0 _ _ _ rfl rfl rfl rfl rfl; exact of_move a0) <|
      Obls.cons (Obl.grd 3 false _ _ _ rfl rfl rfl rfl rfl (by kernel_rfl) fun hg R' w' hw hs hd => by have a0 : R' 1 = v1 := (hs 1 rfl).trans h1; exact of_move a0) <|
      Obls.cons (Obl.grd 3 false _ _ _ rfl rfl rfl rfl rfl (by kernel_rfl) fun hg R' w' hw hs hd => by have a0 : R' 11 = v1 := hd 0 _ _ _ rfl rfl rfl rfl hg; have ra0 := (f_v1.fr hw).eq a0; exact of_len_str ra0 Try.underlying9) <|
      Obls.cons (Obl.grd 3 false _ _ _ rfl rfl rfl rfl rfl (by kernel_rfl) fun hg R' w' hw hs hd => by have a0 : R' 12 = .int .i64 (p1.length : Int) := hd 0 _ _ _ rfl rfl rfl rfl hg; exact of_gtr a0 rfl) <|
      Obls.cons (Obl.plain rfl rfl fun R' w' hw hs hd => by have a0 : R' 10 = .bool (decide ((40 : Int) < (p0.length : Int))) := hd 0 _ _ _ rfl rfl rfl rfl rfl; exact of_pick (decide ((40 : Int) < (p0.length : Int))) a0 (fun hc => by show _ = Value.bool x1; rw [q2, hc]; exact rfl) (fun hc => by have a2 : R' 13 = .bool (decide ((40 : Int) < (p1.length : Int))) := hd 1 _ _ _ rfl rfl rfl rfl (g_and rfl (beq_of hc)); show _ = Value.bool x1; rw [q2, hc]; exact a2)) <|
      Obls.nil
  intro R w hw hs hF'
  replace h0 : R 0 = v0 := (hs 0 rfl).trans h0
  replace h1 : R 1 = v1 := (hs 1 rfl).trans h1
  replace h2 : R 2 = .bool p2 := (hs 2 rfl).trans h2
  have h14 : R 14 = .bool x1 := hF' 7 _ _ rfl rfl rfl
  replace f_v0 := f_v0.fr hw
  replace f_v1 := f_v1.fr hw
  replace hA := hA.fr hw.size
  replace hF := hF.trans hw
  clear hs hF' hw
  refine seqR_nil ?_
  refine HT.cond x1 h14 (fun c3 => ?_) (fun c3 => ?_)
  · have hr := cnd_t c3 hr
    refine HT.seq ?_
    refine HT.text (l := ⟨_, true, .raw (.int .i64 (-1 : Int))⟩ :: []) (tl := []) (by kernel_rfl) (by kernel_rfl) (by kernel_rfl) ?_ ?_
    · exact
        Obls.cons (Obl.plain rfl rfl fun R' w' hw hs hd => by exact of_assign rfl) <|
        Obls.nil
    intro R w hw hs hF'
    have h6 : R 6 = .int .i64 (-1 : Int) := hF' 0 _ _ rfl rfl rfl
    replace hA := hA.fr hw.size
    replace hF := hF.trans hw
    clear hs hF' hw
    refine seqR_nil ?_
    refine HT.ret ?_
    obtain rfl := Option.some.inj hr
    exact ⟨.inr rfl, [R 6], ⟨rfl, trivial⟩, h6, hF⟩
  · have hr := cnd_f c3 hr
    refine HT.skip ?_
    refine HT.seq ?_
    obtain ⟨x4, q5, hr⟩ := cl_some hr
    obtain ⟨e6, hr⟩ := ck_some hr
    obtain ⟨e7, hr⟩ := ck_some hr
    refine HT.text (l := ⟨_, true, .raw v0⟩ :: ⟨_, true, .raw v1⟩ :: ⟨_, true, .raw (.bool p2)⟩ :: ⟨_, true, .rep (eSl (eSl (eInt .i64))) A x4⟩ :: ⟨_, true, .raw v0⟩ :: ⟨_, true, .raw (.int .i64 (p0.length : Int))⟩ :: ⟨_, true, .qtr (eSl (eInt .i64)) A (gtD x4 (p0.length : Int))⟩ :: ⟨_, true, .rep (eSl (eInt .i64)) A (gtD x4 (p0.length : Int))⟩ :: ⟨_, true, .raw v1⟩ :: ⟨_, true, .raw (.int .i64 (p1.length : Int))⟩ :: ⟨_, true, .qtr (eInt .i64) A (gtD (gtD x4 (p0.length : Int)) (p1.length : Int))⟩ :: ⟨_, true, .raw (.int .i64 (gtD (gtD x4 (p0.length : Int)) (p1.length : Int)))⟩ :: ⟨_, true, .raw (.int .i64 (gtD (gtD x4 (p0.length : Int)) (p1.length : Int)))⟩ :: []) (tl := []) (by kernel_rfl) (by kernel_rfl) (by kernel_rfl) ?_ ?_
    · exact
        Obls.cons (Obl.plain rfl rfl fun R' w' hw hs hd => by have a0 : R' 0 = v0 := (hs 0 rfl).trans h0; exact of_move a0) <|
        Obls.cons (Obl.plain rfl rfl fun R' w' hw hs hd => by have a0 : R' 1 = v1 := (hs 1 rfl).trans h1; exact of_move a0) <|
        Obls.cons (Obl.plain rfl rfl fun R' w' hw hs hd => by have a0 : R' 2 = .bool p2 := (hs 2 rfl).trans h2; exact of_move a0) <|
        Obls.cons (Obl.plain rfl rfl fun R' w' hw hs hd => by have a0 : R' 15 = v0 := hd 0 _ _ _ rfl rfl rfl rfl rfl; have ra0 := (f_v0.fr hw).eq a0; have a1 : R' 16 = v1 := hd 1 _ _ _ rfl rfl rfl rfl rfl; have ra1 := (f_v1.fr hw).eq a1; have a2 : R' 17 = .bool p2 := hd 2 _ _ _ rfl rfl rfl rfl rfl; exact of_call Try.call161 (M_impl_distances_okR (q5 rfl) (hA.fr hw.size) ra0 ra1 a2)) <|
        Obls.cons (Obl.plain rfl rfl fun R' w' hw hs hd => by have a0 : R' 0 = v0 := (hs 0 rfl).trans h0; exact of_move a0) <|
        Obls.cons (Obl.plain rfl rfl fun R' w' hw hs hd => by have a0 : R' 19 = v0 := hd 0 _ _ _ rfl rfl rfl rfl rfl; have ra0 := (f_v0.fr hw).eq a0; exact of_len_str ra0 Try.underlying9) <|
        Obls.cons (Obl.plain rfl rfl fun R' w' hw hs hd => by have a0 : Rep (eSl (eSl (eInt .i64))) A w' (R' 18) x4 := hd 0 _ _ _ rfl rfl rfl rfl rfl; have a1 : R' 20 = .int .i64 (p0.length : Int) := hd 1 _ _ _ rfl rfl rfl rfl rfl; exact of_indexAddr a0 a1 Try.underlying75 Try.sizeOf24 e6) <|
        Obls.cons (Obl.plain rfl rfl fun R' w' hw hs hd => by have a0 : QRep (eSl (eInt .i64)) A w' (R' 21) (gtD x4 (p0.length : Int)) := hd 0 _ _ _ rfl rfl rfl rfl rfl; exact (of_load a0.ptr Try.isAgg24 Try.sizeOf24)) <|
        Obls.cons (Obl.plain rfl rfl fun R' w' hw hs hd => by have a0 : R' 1 = v1 := (hs 1 rfl).trans h1; exact of_move a0) <|
        Obls.cons (Obl.plain rfl rfl fun R' w' hw hs hd => by have a0 : R' 23 = v1 := hd 0 _ _ _ rfl rfl rfl rfl rfl; have ra0 := (f_v1.fr hw).eq a0; exact of_len_str ra0 Try.underlying9) <|
        Obls.cons (Obl.plain rfl rfl fun R' w' hw hs hd => by have a0 : Rep (eSl (eInt .i64)) A w' (R' 22) (gtD x4 (p0.length : Int)) := hd 0 _ _ _ rfl rfl rfl rfl rfl; have a1 : R' 24 = .int .i64 (p1.length : Int) := hd 1 _ _ _ rfl rfl rfl rfl rfl; exact of_indexAddr a0 a1 Try.underlying24 Try.sizeOf3 e7) <|
        Obls.cons (Obl.plain rfl rfl fun R' w' hw hs hd => by have a0 : QRep (eInt .i64) A w' (R' 25) (gtD (gtD x4 (p0.length : Int)) (p1.length : Int)) := hd 0 _ _ _ rfl rfl rfl rfl rfl; exact OpF.int (of_load a0.ptr Try.isAgg3 Try.sizeOf3)) <|
        Obls.cons (Obl.plain rfl rfl fun R' w' hw hs hd => by have a0 : R' 26 = .int .i64 (gtD (gtD x4 (p0.length : Int)) (p1.length : Int)) := hd 0 _ _ _ rfl rfl rfl rfl rfl; exact of_assign a0) <|
        Obls.nil
    intro R w hw hs hF'
    have h6 : R 6 = .int .i64 (gtD (gtD x4 (p0.length : Int)) (p1.length : Int)) := hF' 12 _ _ rfl rfl rfl
    replace hA := hA.fr hw.size
    replace hF := hF.trans hw
    clear hs hF' hw
    refine seqR_nil ?_
    refine HT.ret ?_
    obtain rfl := Option.some.inj hr
    exact ⟨.inr rfl, [R 6], ⟨rfl, trivial⟩, h6, hF⟩
def M_impl_EditDistance (fu : Nat) (p0 : List UInt8) (p1 : List UInt8) : Option Int :=
  cl true (M_impl_distance fu p0 p1 false) fun x1 =>
  some x1
set_option maxRecDepth 100000 in
set_option maxHeartbeats 4000000 in
theorem M_impl_EditDistance_ok {fu : Nat} {A : Av} {p0 : List UInt8} {p1 : List UInt8} {r : Int} (hr : M_impl_EditDistance fu p0 p1 = some r) {w : World} {v0 : Value} {v1 : Value} (hA : AvOK A w) (h0 : Rep eStr A w v0 p0) (h1 : Rep eStr A w v1 p1) :
    Calls Try.prog 98 #[v0, v1] w fun e w' => ∃ v, e = .returned v ∧ (v = .int .i64 r ∧ Fr w w') := by
  unfold M_impl_EditDistance at hr
  obtain ⟨w0, hw0⟩ : ∃ w0, w0 = w := ⟨_, rfl⟩
  have hF : Fr w0 w := hw0 ▸ Fr.refl _
  rw [show Fr w = Fr w0 from hw0 ▸ rfl]
  clear hw0
  refine calls_of_HT2 [.tmp 4] Try.func98 Try.ntmps98 (by decide) rfl rfl (Nat.le_of_ble_eq_true rfl) ?_
  intro R hR
  have f_v0 := h0
  replace h0 : R 0 = v0 := hR 0 _ rfl
  have f_v1 := h1
  replace h1 : R 1 = v1 := hR 1 _ rfl
  clear hR
  refine HT.seq ?_
  refine HT.text (l := ⟨_, true, .raw (.int .i64 (0 : Int))⟩ :: []) (tl := []) (by kernel_rfl) (by kernel_rfl) (by kernel_rfl) ?_ ?_
  · exact
      Obls.cons (Obl.plain rfl rfl fun R' w' hw hs hd => by exact of_assign rfl) <|
      Obls.nil
  intro R w hw hs hF'
  replace h0 : R 0 = v0 := (hs 0 rfl).trans h0
  replace h1 : R 1 = v1 := (hs 1 rfl).trans h1
  replace f_v0 := f_v0.fr hw
  replace f_v1 := f_v1.fr hw
  replace hA := hA.fr hw.size
  replace hF := hF.trans hw
  clear hs hF' hw
  refine seqR_nil ?_
  refine HT.seq ?_
  obtain ⟨x1, q2, hr⟩ := cl_some hr
  refine HT.text (l := ⟨_, true, .raw v0⟩ :: ⟨_, true, .raw v1⟩ :: ⟨_, true, .raw (.int .i64 x1)⟩ :: ⟨_, true, .raw (.int .i64 x1)⟩ :: []) (tl := []) (by kernel_rfl) (by kernel_rfl) (by kernel_rfl) ?_ ?_
  · exact
      Obls.cons (Obl.plain rfl rfl fun R' w' hw hs hd => by have a0 : R' 0 = v0 := (hs 0 rfl).trans h0; exact of_move a0) <|
      Obls.cons (Obl.plain rfl rfl fun R' w' hw hs hd => by have a0 : R' 1 = v1 := (hs 1 rfl).trans h1; exact of_move a0) <|
      Obls.cons (Obl.plain rfl rfl fun R' w' hw hs hd => by have a0 : R' 5 = v0 := hd 0 _ _ _ rfl rfl rfl rfl rfl; have ra0 := (f_v0.fr hw).eq a0; have a1 : R' 6 = v1 := hd 1 _ _ _ rfl rfl rfl rfl rfl; have ra1 := (f_v1.fr hw).eq a1; exact of_call Try.call131 (M_impl_distance_ok (q2 rfl) (hA.fr hw.size) ra0 ra1 rfl)) <|
      Obls.cons (Obl.plain rfl rfl fun R' w' hw hs hd => by have a0 : R' 7 = .int .i64 x1 := hd 0 _ _ _ rfl rfl rfl rfl rfl; exact of_assign a0) <|
      Obls.nil
  intro R w hw hs hF'
  have h4 : R 4 = .int .i64 x1 := hF' 3 _ _ rfl rfl rfl
  replace hA := hA.fr hw.size
  replace hF := hF.trans hw
  clear hs hF' hw
  refine seqR_nil ?_
  refine HT.ret ?_
  obtain rfl := Option.some.inj hr
  exact ⟨.inr rfl, [R 4], ⟨rfl, trivial⟩, h4, hF⟩
def M_impl_EditWithin (fu : Nat) (p0 : List UInt8) (p1 : List UInt8) (p2 : Int) : Option Int :=
  cl true (M_impl_EditDistance fu p0 p1) fun x1 =>
  bif (decide (x1 ≤ p2)) then (
    some x1
  ) else (
    some (-1 : Int)
  )
set_option maxRecDepth 100000 in
set_option maxHeartbeats 4000000 in
theorem M_impl_EditWithin_ok {fu : Nat} {A : Av} {p0 : List UInt8} {p1 : List UInt8} {p2 : Int} {r : Int} (hr : M_impl_EditWithin fu p0 p1 p2 = some r) {w : World} {v0 : Value} {v1 : Value} {v2 : Value} (hA : AvOK A w) (h0 : Rep eStr A w v0 p0) (h1 : Rep eStr A w v1 p1) (h2 : v2 = .int .i64 p2) :
    Calls Try.prog 53 #[v0, v1, v2] w fun e w' => ∃ v, e = .returned v ∧ (v = .int .i64 r ∧ Fr w w') := by
  unfold M_impl_EditWithin at hr
  obtain ⟨w0, hw0⟩ : ∃ w0, w0 = w := ⟨_, rfl⟩
  have hF : Fr w0 w := hw0 ▸ Fr.refl _
  rw [show Fr w = Fr w0 from hw0 ▸ rfl]
  clear hw0
  refine calls_of_HT2 [.tmp 6] Try.func53 Try.ntmps53 (by decide) rfl rfl (Nat.le_of_ble_eq_true rfl) ?_
  intro R hR
  have f_v0 := h0
  replace h0 : R 0 = v0 := hR 0 _ rfl
  have f_v1 := h1
  replace h1 : R 1 = v1 := hR 1 _ rfl
  replace h2 : R 2 = .int .i64 p2 := (hR 2 _ rfl).trans h2
  clear hR
  refine HT.seq ?_
  refine HT.text (l := ⟨_, true, .raw (.int .i64 (0 : Int))⟩ :: []) (tl := []) (by kernel_rfl) (by kernel_rfl) (by kernel_rfl) ?_ ?_
  · exact
      Obls.cons (Obl.plain rfl rfl fun R' w' hw hs hd => by exact of_assign rfl) <|
      Obls.nil
  intro R w hw hs hF'
  replace h0 : R 0 = v0 := (hs 0 rfl).trans h0
  replace h1 : R 1 = v1 := (hs 1 rfl).trans h1
  replace h2 : R 2 = .int .i64 p2 := (hs 2 rfl).trans h2
  replace f_v0 := f_v0.fr hw
  replace f_v1 := f_v1.fr hw
  replace hA := hA.fr hw.size
  replace hF := hF.trans hw
  clear hs hF' hw
  refine seqR_nil ?_
  refine HT.seq ?_
  refine HT.seq ?_
  obtain ⟨x1, q2, hr⟩ := cl_some hr
  refine HT.text (l := ⟨_, true, .raw v0⟩ :: ⟨_, true, .raw v1⟩ :: ⟨_, true, .raw (.int .i64 x1)⟩ :: ⟨_, true, .raw (.int .i64 x1)⟩ :: []) (tl := []) (by kernel_rfl) (by kernel_rfl) (by kernel_rfl) ?_ ?_
  · exact
      Obls.cons (Obl.plain rfl rfl fun R' w' hw hs hd => by have a0 : R' 0 = v0 := (hs 0 rfl).trans h0; exact of_move a0) <|
      Obls.cons (Obl.plain rfl rfl fun R' w' hw hs hd => by have a0 : R' 1 = v1 := (hs 1 rfl).trans h1; exact of_move a0) <|
      Obls.cons (Obl.plain rfl rfl fun R' w' hw hs hd => by have a0 : R' 8 = v0 := hd 0 _ _ _ rfl rfl rfl rfl rfl; have ra0 := (f_v0.fr hw).eq a0; have a1 : R' 9 = v1 := hd 1 _ _ _ rfl rfl rfl rfl rfl; have ra1 := (f_v1.fr hw).eq a1; exact of_call Try.call98 (M_impl_EditDistance_ok (q2 rfl) (hA.fr hw.size) ra0 ra1)) <|
      Obls.cons (Obl.plain rfl rfl fun R' w' hw hs hd => by have a0 : R' 10 = .int .i64 x1 := hd 0 _ _ _ rfl rfl rfl rfl rfl; exact of_assign a0) <|
      Obls.nil
  intro R w hw hs hF'
  replace h2 : R 2 = .int .i64 p2 := (hs 2 rfl).trans h2
  have h7 : R 7 = .int .i64 x1 := hF' 3 _ _ rfl rfl rfl
  replace hA := hA.fr hw.size
  replace hF := hF.trans hw
  clear hs hF' hw
  refine seqR_nil ?_
  refine HT.seq ?_
  refine HT.text (l := ⟨_, true, .raw (.int .i64 x1)⟩ :: ⟨_, true, .raw (.int .i64 p2)⟩ :: ⟨_, true, .raw (.bool (decide (x1 ≤ p2)))⟩ :: []) (tl := []) (by kernel_rfl) (by kernel_rfl) (by kernel_rfl) ?_ ?_
  · exact
      Obls.cons (Obl.plain rfl rfl fun R' w' hw hs hd => by have a0 : R' 7 = .int .i64 x1 := (hs 7 rfl).trans h7; exact of_move a0) <|
      Obls.cons (Obl.plain rfl rfl fun R' w' hw hs hd => by have a0 : R' 2 = .int .i64 p2 := (hs 2 rfl).trans h2; exact of_move a0) <|
      Obls.cons (Obl.plain rfl rfl fun R' w' hw hs hd => by have a0 : R' 11 = .int .i64 x1 := hd 0 _ _ _ rfl rfl rfl rfl rfl; have a1 : R' 12 = .int .i64 p2 := hd 1 _ _ _ rfl rfl rfl rfl rfl; exact of_leq a0 a1) <|
      Obls.nil
  intro R w hw hs hF'
  replace h7 : R 7 = .int .i64 x1 := (hs 7 rfl).trans h7
  have h13 : R 13 = .bool (decide (x1 ≤ p2)) := hF' 2 _ _ rfl rfl rfl
  replace hA := hA.fr hw.size
  replace hF := hF.trans hw
  clear hs hF' hw
  refine seqR_nil ?_
  refine HT.cond (decide (x1 ≤ p2)) h13 (fun c3 => ?_) (fun c3 => ?_)
  · have hr := cnd_t c3 hr
    refine HT.seq ?_
    refine HT.text (l := ⟨_, true, .raw (.int .i64 x1)⟩ :: ⟨_, true, .raw (.int .i64 x1)⟩ :: []) (tl := []) (by kernel_rfl) (by kernel_rfl) (by kernel_rfl) ?_ ?_
    · exact
        Obls.cons (Obl.plain rfl rfl fun R' w' hw hs hd => by have a0 : R' 7 = .int .i64 x1 := (hs 7 rfl).trans h7; exact of_move a0) <|
        Obls.cons (Obl.plain rfl rfl fun R' w' hw hs hd => by have a0 : R' 14 = .int .i64 x1 := hd 0 _ _ _ rfl rfl rfl rfl rfl; exact of_assign a0) <|
        Obls.nil
    intro R w hw hs hF'
    have h6 : R 6 = .int .i64 x1 := hF' 1 _ _ rfl rfl rfl
    replace hA := hA.fr hw.size
    replace hF := hF.trans hw
    clear hs hF' hw
    refine seqR_nil ?_
    refine HT.ret ?_
    obtain rfl := Option.some.inj hr
    exact ⟨.inr rfl, [R 6], ⟨rfl, trivial⟩, h6, hF⟩
  · have hr := cnd_f c3 hr
    refine HT.skip ?_
    refine HT.seq ?_
    refine HT.text (l := ⟨_, true, .raw (.int .i64 (-1 : Int))⟩ :: []) (tl := []) (by kernel_rfl) (by kernel_rfl) (by kernel_rfl) ?_ ?_
    · exact
        Obls.cons (Obl.plain rfl rfl fun R' w' hw hs hd => by exact of_assign rfl) <|
        Obls.nil
    intro R w hw hs hF'
    have h6 : R 6 = .int .i64 (-1 : Int) := hF' 0 _ _ rfl rfl rfl
    replace hA := hA.fr hw.size
    replace hF := hF.trans hw
    clear hs hF' hw
    refine seqR_nil ?_
    refine HT.ret ?_
    obtain rfl := Option.some.inj hr
    exact ⟨.inr rfl, [R 6], ⟨rfl, trivial⟩, h6, hF⟩
end Go.Proofs.Ytofiipblinonoaa
