/- Contracts: RulesHold (both). -/
import Derived.Test.YtjfhlhhobpdneaaFr
namespace Go.Proofs.Ytjfhlhhobpdneaa
open Go.RowKit

def rhB (ls : List (List TeD)) (zs : List Int) : Bool := decide (0 ≤ frV ls zs)
theorem sRulesHold_any (A A' : Option Addr) (n n' c c' : Nat) (ls : List (List TeD)) (zs : List Int) (w : World) (hr : Rls w w.heap.size A n ls) (hr' : Rd w w.heap.size 1 A' n' (ci zs)) (hn : n ≤ 1048576) (hs : ∀ l ∈ ls, l.length ≤ 1048576) (hn' : n' ≤ 1048576) :
    Calls Try.prog 43 #[.agg #[.slice A n c], .slice A' n' c'] w fun e w' => e = .returned (.bool (rhB ls zs)) ∧ Below w.heap.size w w' := by
  have hb0 : Below w.heap.size w (w.alloc (.cells #[.slice A n c] 62)) := (Below.refl _ _).alloc (Nat.le_refl _) _
  have HB0 := Lib.hid hb0
  have HV := Lib.hid (sFirstRule_any A A' n n' c c' ls zs _ ((hr.below hb0).more hb0.size) ((hr'.below hb0).more hb0.size) hn hs hn')
  have HV2 := Lib.hid (sFirstRule_any A A' n n' c c' ls zs w hr hr' hn hs hn')
  have HZ := Lib.hid (show rhB ls zs = decide (0 ≤ frV ls zs) from rfl)
  clear hr hr' hb0 hs
  generalize frV ls zs = v at HV HV2 HZ
  go_enter Try.func43, Try.ntmps43
  go_wp2_with fail
  first
    | (refine HV.out.mono ?_
       rintro e w1 ⟨rfl, hb1⟩
       go_wp2_with fail
       go_ret
       exact ⟨ret_bool HZ.out.symm, HB0.out.trans (hb1.mono HB0.out.size)⟩)
    | (refine HV2.out.mono ?_
       rintro e w1 ⟨rfl, hb1⟩
       go_wp2_with fail
       go_ret
       exact ⟨ret_bool HZ.out.symm, hb1⟩)
theorem RulesHold_any (A A' : Option Addr) (n n' c c' : Nat) (ls : List (List TeD)) (zs : List Int) (w : World) (hr : Rls w w.heap.size A n ls) (hr' : Rd w w.heap.size 1 A' n' (ci zs)) (hn : n ≤ 1048576) (hs : ∀ l ∈ ls, l.length ≤ 1048576) (hn' : n' ≤ 1048576) :
    Calls Try.prog 44 #[.agg #[.slice A n c], .slice A' n' c'] w fun e w' => e = .returned (.bool (rhB ls zs)) ∧ Below w.heap.size w w' := by
  have hb0 : Below w.heap.size w (w.alloc (.cells #[.slice A n c] 62)) := (Below.refl _ _).alloc (Nat.le_refl _) _
  have HB0 := Lib.hid hb0
  have HV := Lib.hid (FirstRule_any A A' n n' c c' ls zs _ ((hr.below hb0).more hb0.size) ((hr'.below hb0).more hb0.size) hn hs hn')
  have HV2 := Lib.hid (FirstRule_any A A' n n' c c' ls zs w hr hr' hn hs hn')
  have HZ := Lib.hid (show rhB ls zs = decide (0 ≤ frV ls zs) from rfl)
  clear hr hr' hb0 hs
  generalize frV ls zs = v at HV HV2 HZ
  go_enter Try.func44, Try.ntmps44
  go_wp2_with fail
  first
    | (refine HV.out.mono ?_
       rintro e w1 ⟨rfl, hb1⟩
       go_wp2_with fail
       go_ret
       exact ⟨ret_bool HZ.out.symm, HB0.out.trans (hb1.mono HB0.out.size)⟩)
    | (refine HV2.out.mono ?_
       rintro e w1 ⟨rfl, hb1⟩
       go_wp2_with fail
       go_ret
       exact ⟨ret_bool HZ.out.symm, hb1⟩)
end Go.Proofs.Ytjfhlhhobpdneaa
