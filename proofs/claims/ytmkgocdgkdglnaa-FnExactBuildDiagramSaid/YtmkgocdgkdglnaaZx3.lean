/- Own texts laid together. No statement of the seat is proved here. -/
import Derived.Test.YtmkgocdgkdglnaaZx2
namespace Go.Proofs.Ytmkgocdgkdglnaa
open Go.RowKit
set_option linter.unusedVariables false
def zCq (fu:Nat) (p0:List zA7) (p1:Int):Option Int:=
  ck (i64B (p1-(p0.length:Int))) <|
  bif (decide ((p1 - (p0.length : Int)) < (0 : Int))) then (
    some (-1:Int)
  ) else (
    some (p1-(p0.length:Int))
  )
set_option maxRecDepth 100000 in
set_option maxHeartbeats 4000000 in
theorem zFm {fu : Nat} {A : Av} {p0 : List zA7} {p1 : Int} {r : Int} (hr : zCq fu p0 p1 = some r) {w : World} {v0 : Value} {v1 : Value} (hA : AvOK A w) (h0 : Rep (eSl zA1) A w v0 p0) (h1 : v1 = .int .i64 p1) :
    Calls Try.prog 90 #[v0,v1] w fun e w'=>∃ v,e = .returned v∧(v = .int .i64 r∧Fr w w'):=by
  unfold zCq at hr
  obtain ⟨w0,hw0⟩:∃ w0,w0=w:=⟨_,rfl⟩
  have hF:Fr w0 w:=hw0 ▸ Fr.refl _
  rw [show Fr w=Fr w0 from hw0 ▸ rfl]
  clear hw0
  refine zAI [.tmp 4] Try.func90 Try.ntmps90 (by decide) rfl rfl (Nat.le_of_ble_eq_true rfl) ?_
  intro R hR
  have f_v0:=h0
  replace h0:R 0=v0:=hR 0 _ rfl
  replace h1:R 1 = .int .i64 p1:=(hR 1 _ rfl).trans h1
  clear hR
  refine HT.seq ?_
  refine HT.text (l:=⟨_,true,.raw (.int .i64 (0:Int))⟩::[]) (tl:=[]) (by kernel_rfl) (by kernel_rfl) (by kernel_rfl) ?_ ?_
  · exact
      Obls.cons (Obl.plain rfl rfl fun R' w' hw hs hd=>by exact zA6 rfl) <|
      Obls.nil
  intro R w hw hs hF'
  replace h0:R 0=v0:=(hs 0 rfl).trans h0
  replace h1:R 1 = .int .i64 p1:=(hs 1 rfl).trans h1
  replace f_v0:=f_v0.fr hw
  replace hA:=hA.fr hw.size
  replace hF:=hF.trans hw
  clear hs hF' hw
  refine zA4 ?_
  refine HT.seq ?_
  obtain ⟨e1,hr⟩:=zAF hr
  refine HT.text (l:=⟨_,true,.raw (.int .i64 p1)⟩::⟨_,true,.raw v0⟩::⟨_,true,.raw (.int .i64 (p0.length:Int))⟩::⟨_,true,.raw (.int .i64 (p1-(p0.length:Int)))⟩::⟨_,true,.raw (.int .i64 (p1-(p0.length:Int)))⟩::[]) (tl:=[]) (by kernel_rfl) (by kernel_rfl) (by kernel_rfl) ?_ ?_
  · exact
      Obls.cons (Obl.plain rfl rfl fun R' w' hw hs hd=>by have a0:R' 1 = .int .i64 p1:=(hs 1 rfl).trans h1;exact zA5 a0) <|
      Obls.cons (Obl.plain rfl rfl fun R' w' hw hs hd=>by have a0:R' 0=v0:=(hs 0 rfl).trans h0;exact zA5 a0) <|
      Obls.cons (Obl.plain rfl rfl fun R' w' hw hs hd=>by have a0:R' 6=v0:=hd 0 _ _ _ rfl rfl rfl rfl rfl;have ra0:=(f_v0.fr hw).eq a0;exact zAd (aT:=#[]) ra0 Try.underlying88) <|
      Obls.cons (Obl.plain rfl rfl fun R' w' hw hs hd=>by have a0:R' 5 = .int .i64 p1:=hd 0 _ _ _ rfl rfl rfl rfl rfl;have a1:R' 7 = .int .i64 (p0.length:Int):=hd 1 _ _ _ rfl rfl rfl rfl rfl;exact zGv a0 a1 e1) <|
      Obls.cons (Obl.plain rfl rfl fun R' w' hw hs hd=>by have a0:R' 8 = .int .i64 (p1-(p0.length:Int)):=hd 0 _ _ _ rfl rfl rfl rfl rfl;exact zA6 a0) <|
      Obls.nil
  intro R w hw hs hF'
  have h1:R 1 = .int .i64 (p1-(p0.length:Int)):=hF' 4 _ _ rfl rfl rfl
  replace hA:=hA.fr hw.size
  replace hF:=hF.trans hw
  clear hs hF' hw
  refine zA4 ?_
  refine HT.seq ?_
  refine HT.seq ?_
  refine HT.text (l:=⟨_,true,.raw (.int .i64 (p1-(p0.length:Int)))⟩::⟨_,true,.raw (.bool (decide ((p1-(p0.length:Int))<(0:Int))))⟩::[]) (tl:=[]) (by kernel_rfl) (by kernel_rfl) (by kernel_rfl) ?_ ?_
  · exact
      Obls.cons (Obl.plain rfl rfl fun R' w' hw hs hd=>by have a0:R' 1 = .int .i64 (p1-(p0.length:Int)):=(hs 1 rfl).trans h1;exact zA5 a0) <|
      Obls.cons (Obl.plain rfl rfl fun R' w' hw hs hd=>by have a0:R' 9 = .int .i64 (p1-(p0.length:Int)):=hd 0 _ _ _ rfl rfl rfl rfl rfl;exact zBI a0 rfl) <|
      Obls.nil
  intro R w hw hs hF'
  replace h1:R 1 = .int .i64 (p1-(p0.length:Int)):=(hs 1 rfl).trans h1
  have h10:R 10 = .bool (decide ((p1-(p0.length:Int))<(0:Int))):=hF' 1 _ _ rfl rfl rfl
  replace hA:=hA.fr hw.size
  replace hF:=hF.trans hw
  clear hs hF' hw
  refine zA4 ?_
  refine HT.cond (decide ((p1-(p0.length:Int))<(0:Int))) h10 (fun c2=>?_) (fun c2=>?_)
  · have hr := zAq c2 hr
    refine HT.seq ?_
    refine HT.text (l:=⟨_,true,.raw (.int .i64 (-1:Int))⟩::[]) (tl:=[]) (by kernel_rfl) (by kernel_rfl) (by kernel_rfl) ?_ ?_
    · exact
        Obls.cons (Obl.plain rfl rfl fun R' w' hw hs hd=>by exact zA6 rfl) <|
        Obls.nil
    intro R w hw hs hF'
    have h4:R 4 = .int .i64 (-1:Int):=hF' 0 _ _ rfl rfl rfl
    replace hA:=hA.fr hw.size
    replace hF:=hF.trans hw
    clear hs hF' hw
    refine zA4 ?_
    refine HT.ret ?_
    obtain rfl:=Option.some.inj hr
    exact ⟨.inr rfl,[R 4],⟨rfl,trivial⟩,h4,hF⟩
  · have hr := zAp c2 hr
    refine HT.skip ?_
    refine HT.seq ?_
    refine HT.text (l:=⟨_,true,.raw (.int .i64 (p1-(p0.length:Int)))⟩::⟨_,true,.raw (.int .i64 (p1-(p0.length:Int)))⟩::[]) (tl:=[]) (by kernel_rfl) (by kernel_rfl) (by kernel_rfl) ?_ ?_
    · exact
        Obls.cons (Obl.plain rfl rfl fun R' w' hw hs hd=>by have a0:R' 1 = .int .i64 (p1-(p0.length:Int)):=(hs 1 rfl).trans h1;exact zA5 a0) <|
        Obls.cons (Obl.plain rfl rfl fun R' w' hw hs hd=>by have a0:R' 11 = .int .i64 (p1-(p0.length:Int)):=hd 0 _ _ _ rfl rfl rfl rfl rfl;exact zA6 a0) <|
        Obls.nil
    intro R w hw hs hF'
    have h4:R 4 = .int .i64 (p1-(p0.length:Int)):=hF' 1 _ _ rfl rfl rfl
    replace hA:=hA.fr hw.size
    replace hF:=hF.trans hw
    clear hs hF' hw
    refine zA4 ?_
    refine HT.ret ?_
    obtain rfl:=Option.some.inj hr
    exact ⟨.inr rfl,[R 4],⟨rfl,trivial⟩,h4,hF⟩
def zDD (fu:Nat) (p0:zBg) (p1:Int):Option Int:=
  cl true (zCq fu p0 p1) fun x2=>
  bif (decide (x2 < (0 : Int))) then (
    some (-1:Int)
  ) else (
    some x2
  )
set_option maxRecDepth 100000 in
set_option maxHeartbeats 4000000 in
theorem zG8 {fu : Nat} {A0 : Av} {p0 : zBg} {p1 : Int} {r : Int} (hr : zDD fu p0 p1 = some r) {w : World} {v0 : Value} {v1 : Value} (hA : AvOK A0 w) (h0 : Rep zAW A0 w v0 p0) (h1 : v1 = .int .i64 p1) :
    Calls Try.prog 58 #[v0,v1] w fun e w'=>∃ v,e = .returned v∧(v = .int .i64 r∧Fr w w'):=by
  unfold zDD at hr
  obtain ⟨w0,hw0⟩:∃ w0,w0=w:=⟨_,rfl⟩
  have hF:Fr w0 w:=hw0 ▸ Fr.refl _
  have hA0:∀ b o,A0 b o→b<w0.heap.size:=fun b o h=>hw0 ▸ hA b o h
  have hA00:AvOK A0 w0:=hA0
  rw [show Fr w=Fr w0 from hw0 ▸ rfl]
  clear hw0
  obtain ⟨A,hAe⟩:∃ A,A=A0:=⟨_,rfl⟩
  have hAA:∀ b o,A0 b o→A b o:=fun b o h=>hAe ▸ h
  replace hA:AvOK A w:=hAe ▸ hA
  have hO:IniOK [] A w:=IniOK.nil
  refine zAI [.tmp 4] Try.func58 Try.ntmps58 (by decide) rfl rfl (Nat.le_of_ble_eq_true rfl) ?_
  intro R hR
  have f_v0:Rep zAW A w v0 p0:=hAe ▸ h0
  replace h0:R 0=v0:=hR 0 _ rfl
  replace h1:R 1 = .int .i64 p1:=(hR 1 _ rfl).trans h1
  clear hR hAe
  refine HT.seq ?_
  refine HT.textR [] (⟨_,true,[],some (.box w0.heap.size 90 zAW p0),true,fun A=>.any⟩::⟨_,true,[],none,true,fun A=>.raw (.int .i64 (0:Int))⟩::[]) (by kernel_rfl) (by kernel_rfl) (Wf.mk' (by kernel_rfl) (UAll.cons zAG (UAll.cons zAA (UAll.nil))) (by kernel_rfl) (by kernel_rfl)) hO hA ?_ ?_
  · exact
      zA9.cons (OblR.made _ rfl rfl rfl rfl fun A' R' w' ho hd=>by have a0:R' 0=v0:=(ho.old 0 rfl).trans h0;have ra0:=(f_v0.stp ho.stp).eq a0;exact zB9 ra0 (Nat.le_trans hF.size ho.ch.size)) <|
      zA9.cons (OblR.plain rfl rfl rfl rfl fun A' R' w' ho hd=>by exact zA6 rfl) <|
      zA9.nil
  intro done ρ σ A R w hdn hI
  replace h1:R 1 = .int .i64 p1:=(hI.reg rfl).trans h1
  obtain ⟨b2_0,e_b2_0⟩:=hI.boxv hdn 0 rfl rfl
  have h2:R 2=(.pointer (some ⟨b2_0,0,none⟩)):=(hI.opvR hdn 0 0 rfl rfl rfl rfl rfl).symm.trans e_b2_0
  replace hAA:=hI.low' hAA hA0 (hO.ge (trivial))
  replace hF:Fr w0 w:=hF.tr hI.ch (hO.ge (trivial))
  replace hO:IniOK [ob (.pointer (some ⟨b2_0,0,none⟩)) (.box w0.heap.size 90 zAW p0)] A w:=hI.left hdn [(0,ob (.pointer (some ⟨b2_0,0,none⟩)) (.box w0.heap.size 90 zAW p0))] ⟨rfl,rfl,e_b2_0,rfl,rfl,trivial⟩
  replace hA:=hI.avok
  clear hI
  refine HT.seq ?_
  obtain ⟨x2,q3,hr⟩:=zAK hr
  refine HT.text (l:=⟨_,true,.raw (.pointer (some ⟨b2_0,0,none⟩))⟩::⟨_,true,.rep (eSl zA1) A p0⟩::⟨_,true,.raw (.int .i64 p1)⟩::⟨_,true,.raw (.int .i64 x2)⟩::⟨_,true,.raw (.int .i64 x2)⟩::[]) (tl:=[]) (by kernel_rfl) (by kernel_rfl) (by kernel_rfl) ?_ ?_
  · exact
      Obls.cons (Obl.plain rfl rfl fun R' w' hw hs hd=>by have a0:R' 2=(.pointer (some ⟨b2_0,0,none⟩)):=(hs 2 rfl).trans h2;exact zAB a0 zKC Try.sizeOf88 (by decide) rfl) <|
      Obls.cons (Obl.plain rfl rfl fun R' w' hw hs hd=>by have a0:R' 5=(.pointer (some ⟨b2_0,0,none⟩)):=hd 0 _ _ _ rfl rfl rfl rfl rfl;exact (zAD ((hO.fr hw).ok 0 _ rfl).1 a0 zF7 rfl Try.isAgg88 Try.sizeOf88)) <|
      Obls.cons (Obl.plain rfl rfl fun R' w' hw hs hd=>by have a0:R' 1 = .int .i64 p1:=(hs 1 rfl).trans h1;exact zA5 a0) <|
      Obls.cons (Obl.plain rfl rfl fun R' w' hw hs hd=>by have a0:Rep (eSl zA1) A w' (R' 6) p0:=hd 0 _ _ _ rfl rfl rfl rfl rfl;have a1:R' 7 = .int .i64 p1:=hd 1 _ _ _ rfl rfl rfl rfl rfl;exact zAl Try.call90 (zFm (q3 rfl) (hA.fr hw.size) a0 a1)) <|
      Obls.cons (Obl.plain rfl rfl fun R' w' hw hs hd=>by have a0:R' 8 = .int .i64 x2:=hd 0 _ _ _ rfl rfl rfl rfl rfl;exact zA6 a0) <|
      Obls.nil
  intro R w hw hs hF'
  have h1:R 1 = .int .i64 x2:=hF' 4 _ _ rfl rfl rfl
  replace hO:=hO.fr hw
  replace hO:IniOK [] A w:=hO.sub [] trivial
  replace hA:=hA.fr hw.size
  replace hF:=hF.trans hw
  clear hs hF' hw
  refine zA4 ?_
  refine HT.seq ?_
  refine HT.seq ?_
  refine HT.text (l:=⟨_,true,.raw (.int .i64 x2)⟩::⟨_,true,.raw (.bool (decide (x2<(0:Int))))⟩::[]) (tl:=[]) (by kernel_rfl) (by kernel_rfl) (by kernel_rfl) ?_ ?_
  · exact
      Obls.cons (Obl.plain rfl rfl fun R' w' hw hs hd=>by have a0:R' 1 = .int .i64 x2:=(hs 1 rfl).trans h1;exact zA5 a0) <|
      Obls.cons (Obl.plain rfl rfl fun R' w' hw hs hd=>by have a0:R' 9 = .int .i64 x2:=hd 0 _ _ _ rfl rfl rfl rfl rfl;exact zBI a0 rfl) <|
      Obls.nil
  intro R w hw hs hF'
  replace h1:R 1 = .int .i64 x2:=(hs 1 rfl).trans h1
  have h10:R 10 = .bool (decide (x2<(0:Int))):=hF' 1 _ _ rfl rfl rfl
  replace hO:=hO.fr hw
  replace hA:=hA.fr hw.size
  replace hF:=hF.trans hw
  clear hs hF' hw
  refine zA4 ?_
  refine HT.cond (decide (x2<(0:Int))) h10 (fun c4=>?_) (fun c4=>?_)
  · have hr := zAq c4 hr
    refine HT.seq ?_
    refine HT.text (l:=⟨_,true,.raw (.int .i64 (-1:Int))⟩::[]) (tl:=[]) (by kernel_rfl) (by kernel_rfl) (by kernel_rfl) ?_ ?_
    · exact
        Obls.cons (Obl.plain rfl rfl fun R' w' hw hs hd=>by exact zA6 rfl) <|
        Obls.nil
    intro R w hw hs hF'
    have h4:R 4 = .int .i64 (-1:Int):=hF' 0 _ _ rfl rfl rfl
    replace hO:=hO.fr hw
    replace hA:=hA.fr hw.size
    replace hF:=hF.trans hw
    clear hs hF' hw
    refine zA4 ?_
    refine HT.ret ?_
    obtain rfl:=Option.some.inj hr
    exact ⟨.inr rfl,[R 4],⟨rfl,trivial⟩,h4,hF⟩
  · have hr := zAp c4 hr
    refine HT.skip ?_
    refine HT.seq ?_
    refine HT.text (l:=⟨_,true,.raw (.int .i64 x2)⟩::⟨_,true,.raw (.int .i64 x2)⟩::[]) (tl:=[]) (by kernel_rfl) (by kernel_rfl) (by kernel_rfl) ?_ ?_
    · exact
        Obls.cons (Obl.plain rfl rfl fun R' w' hw hs hd=>by have a0:R' 1 = .int .i64 x2:=(hs 1 rfl).trans h1;exact zA5 a0) <|
        Obls.cons (Obl.plain rfl rfl fun R' w' hw hs hd=>by have a0:R' 11 = .int .i64 x2:=hd 0 _ _ _ rfl rfl rfl rfl rfl;exact zA6 a0) <|
        Obls.nil
    intro R w hw hs hF'
    have h4:R 4 = .int .i64 x2:=hF' 1 _ _ rfl rfl rfl
    replace hO:=hO.fr hw
    replace hA:=hA.fr hw.size
    replace hF:=hF.trans hw
    clear hs hF' hw
    refine zA4 ?_
    refine HT.ret ?_
    obtain rfl:=Option.some.inj hr
    exact ⟨.inr rfl,[R 4],⟨rfl,trivial⟩,h4,hF⟩
def zBh (fu : Nat) (p0 : List zBg) : Nat → Int → Int → Option (Ex Int Int)
  | 0,_,_=>none
  | k+1,y6,y7=>
    bif (decide (y7 < (p0.length : Int))) then (
      ck (inR y7 p0.length) <|
      cl true (zDD fu (gtD p0 y7) y6) fun x10=>
      bif (decide (x10 < (0 : Int))) then (
        some (Ex.ret (-1:Int))
      ) else (
        ck (i64B (y7+(1:Int))) <|
        zBh fu p0 k x10 (y7+(1:Int))
      )
    ) else (
      some (Ex.go y6)
    )
def zCw (fu:Nat) (p0:List zBg) (p1:Int):Option Int:=
  ck (i64B (p1-(p0.length:Int))) <|
  bif (decide ((p1 - (p0.length : Int)) < (0 : Int))) then (
    some (-1:Int)
  ) else (
    cl true (zBh fu p0 fu (p1-(p0.length:Int)) (0:Int)) fun rl3=>
    exM rl3 (fun r=>some r) fun s5=>
    some s5
  )
set_option maxRecDepth 100000 in
set_option maxHeartbeats 4000000 in
theorem zFr {fu : Nat} {A : Av} {p0 : List zBg} {p1 : Int} {r : Int} (hr : zCw fu p0 p1 = some r) {w : World} {v0 : Value} {v1 : Value} (hA : AvOK A w) (h0 : Rep (eSl zAW) A w v0 p0) (h1 : v1 = .int .i64 p1) :
    Calls Try.prog 32 #[v0,v1] w fun e w'=>∃ v,e = .returned v∧(v = .int .i64 r∧Fr w w'):=by
  unfold zCw at hr
  obtain ⟨w0,hw0⟩:∃ w0,w0=w:=⟨_,rfl⟩
  have hF:Fr w0 w:=hw0 ▸ Fr.refl _
  rw [show Fr w=Fr w0 from hw0 ▸ rfl]
  clear hw0
  refine zAI [.tmp 4] Try.func32 Try.ntmps32 (by decide) rfl rfl (Nat.le_of_ble_eq_true rfl) ?_
  intro R hR
  have f_v0:=h0
  replace h0:R 0=v0:=hR 0 _ rfl
  replace h1:R 1 = .int .i64 p1:=(hR 1 _ rfl).trans h1
  clear hR
  refine HT.seq ?_
  refine HT.text (l:=⟨_,true,.raw (.int .i64 (0:Int))⟩::[]) (tl:=[]) (by kernel_rfl) (by kernel_rfl) (by kernel_rfl) ?_ ?_
  · exact
      Obls.cons (Obl.plain rfl rfl fun R' w' hw hs hd=>by exact zA6 rfl) <|
      Obls.nil
  intro R w hw hs hF'
  replace h0:R 0=v0:=(hs 0 rfl).trans h0
  replace h1:R 1 = .int .i64 p1:=(hs 1 rfl).trans h1
  replace f_v0:=f_v0.fr hw
  replace hA:=hA.fr hw.size
  replace hF:=hF.trans hw
  clear hs hF' hw
  refine zA4 ?_
  refine HT.seq ?_
  obtain ⟨e1,hr⟩:=zAF hr
  refine HT.text (l:=⟨_,true,.raw (.int .i64 p1)⟩::⟨_,true,.raw v0⟩::⟨_,true,.raw (.int .i64 (p0.length:Int))⟩::⟨_,true,.raw (.int .i64 (p1-(p0.length:Int)))⟩::⟨_,true,.raw (.int .i64 (p1-(p0.length:Int)))⟩::[]) (tl:=[]) (by kernel_rfl) (by kernel_rfl) (by kernel_rfl) ?_ ?_
  · exact
      Obls.cons (Obl.plain rfl rfl fun R' w' hw hs hd=>by have a0:R' 1 = .int .i64 p1:=(hs 1 rfl).trans h1;exact zA5 a0) <|
      Obls.cons (Obl.plain rfl rfl fun R' w' hw hs hd=>by have a0:R' 0=v0:=(hs 0 rfl).trans h0;exact zA5 a0) <|
      Obls.cons (Obl.plain rfl rfl fun R' w' hw hs hd=>by have a0:R' 7=v0:=hd 0 _ _ _ rfl rfl rfl rfl rfl;have ra0:=(f_v0.fr hw).eq a0;exact zAd (aT:=#[]) ra0 Try.underlying22) <|
      Obls.cons (Obl.plain rfl rfl fun R' w' hw hs hd=>by have a0:R' 6 = .int .i64 p1:=hd 0 _ _ _ rfl rfl rfl rfl rfl;have a1:R' 8 = .int .i64 (p0.length:Int):=hd 1 _ _ _ rfl rfl rfl rfl rfl;exact zGv a0 a1 e1) <|
      Obls.cons (Obl.plain rfl rfl fun R' w' hw hs hd=>by have a0:R' 9 = .int .i64 (p1-(p0.length:Int)):=hd 0 _ _ _ rfl rfl rfl rfl rfl;exact zA6 a0) <|
      Obls.nil
  intro R w hw hs hF'
  replace h0:R 0=v0:=(hs 0 rfl).trans h0
  have h1:R 1 = .int .i64 (p1-(p0.length:Int)):=hF' 4 _ _ rfl rfl rfl
  replace f_v0:=f_v0.fr hw
  replace hA:=hA.fr hw.size
  replace hF:=hF.trans hw
  clear hs hF' hw
  refine zA4 ?_
  refine HT.seq ?_
  refine HT.seq ?_
  refine HT.text (l:=⟨_,true,.raw (.int .i64 (p1-(p0.length:Int)))⟩::⟨_,true,.raw (.bool (decide ((p1-(p0.length:Int))<(0:Int))))⟩::[]) (tl:=[]) (by kernel_rfl) (by kernel_rfl) (by kernel_rfl) ?_ ?_
  · exact
      Obls.cons (Obl.plain rfl rfl fun R' w' hw hs hd=>by have a0:R' 1 = .int .i64 (p1-(p0.length:Int)):=(hs 1 rfl).trans h1;exact zA5 a0) <|
      Obls.cons (Obl.plain rfl rfl fun R' w' hw hs hd=>by have a0:R' 10 = .int .i64 (p1-(p0.length:Int)):=hd 0 _ _ _ rfl rfl rfl rfl rfl;exact zBI a0 rfl) <|
      Obls.nil
  intro R w hw hs hF'
  replace h0:R 0=v0:=(hs 0 rfl).trans h0
  replace h1:R 1 = .int .i64 (p1-(p0.length:Int)):=(hs 1 rfl).trans h1
  have h11:R 11 = .bool (decide ((p1-(p0.length:Int))<(0:Int))):=hF' 1 _ _ rfl rfl rfl
  replace f_v0:=f_v0.fr hw
  replace hA:=hA.fr hw.size
  replace hF:=hF.trans hw
  clear hs hF' hw
  refine zA4 ?_
  refine HT.cond (decide ((p1-(p0.length:Int))<(0:Int))) h11 (fun c2=>?_) (fun c2=>?_)
  · have hr := zAq c2 hr
    refine HT.seq ?_
    refine HT.text (l:=⟨_,true,.raw (.int .i64 (-1:Int))⟩::[]) (tl:=[]) (by kernel_rfl) (by kernel_rfl) (by kernel_rfl) ?_ ?_
    · exact
        Obls.cons (Obl.plain rfl rfl fun R' w' hw hs hd=>by exact zA6 rfl) <|
        Obls.nil
    intro R w hw hs hF'
    have h4:R 4 = .int .i64 (-1:Int):=hF' 0 _ _ rfl rfl rfl
    replace hA:=hA.fr hw.size
    replace hF:=hF.trans hw
    clear hs hF' hw
    refine zA4 ?_
    refine HT.ret ?_
    obtain rfl:=Option.some.inj hr
    exact ⟨.inr rfl,[R 4],⟨rfl,trivial⟩,h4,hF⟩
  · have hr := zAp c2 hr
    refine HT.skip ?_
    refine HT.seq ?_
    refine HT.seq ?_
    refine HT.text (l:=⟨_,true,.raw (.int .i64 (0:Int))⟩::[]) (tl:=[]) (by kernel_rfl) (by kernel_rfl) (by kernel_rfl) ?_ ?_
    · exact
        Obls.cons (Obl.plain rfl rfl fun R' w' hw hs hd=>by exact zA6 rfl) <|
        Obls.nil
    intro R w hw hs hF'
    replace h0:R 0=v0:=(hs 0 rfl).trans h0
    replace h1:R 1 = .int .i64 (p1-(p0.length:Int)):=(hs 1 rfl).trans h1
    have h5:R 5 = .int .i64 (0:Int):=hF' 0 _ _ rfl rfl rfl
    replace f_v0:=f_v0.fr hw
    replace hA:=hA.fr hw.size
    replace hF:=hF.trans hw
    clear hs hF' hw
    refine zA4 ?_
    obtain ⟨rl3,q4,hr⟩:=zAK hr
    replace q4:=q4 rfl
    refine HT.cut0 (fun R w=>∃ (s5:Int),rl3=Ex.go s5∧AvOK A w∧Fr w0 w∧R 1 = .int .i64 s5) ?_ ?_
    · refine HT.block ?_
      refine HT.loop (fun k R w=>∃ (y6:Int) (y7:Int),zBh fu p0 k y6 y7=some rl3∧AvOK A w∧Fr w0 w∧R 0=v0∧R 1 = .int .i64 y6∧R 5 = .int .i64 y7∧Rep (eSl zAW) A w v0 p0) fu ⟨_,_,q4,hA,hF,h0,h1,h5,f_v0⟩ ?_
      have hr0:=hr;clear hr q4
      rintro k R w ⟨y6,y7,hr,hA,hF,h0,h1,h5,f_v0⟩
      rcases k with _ | k
      · cases (show none=some _ from hr)
      rw [zBh] at hr
      refine HT.seq ?_
      refine HT.seq ?_
      refine HT.text (l:=⟨_,true,.raw (.int .i64 y7)⟩::⟨_,true,.raw v0⟩::⟨_,true,.raw (.int .i64 (p0.length:Int))⟩::⟨_,true,.raw (.bool (decide (y7<(p0.length:Int))))⟩::[]) (tl:=[]) (by kernel_rfl) (by kernel_rfl) (by kernel_rfl) ?_ ?_
      · exact
          Obls.cons (Obl.plain rfl rfl fun R' w' hw hs hd=>by have a0:R' 5 = .int .i64 y7:=(hs 5 rfl).trans h5;exact zA5 a0) <|
          Obls.cons (Obl.plain rfl rfl fun R' w' hw hs hd=>by have a0:R' 0=v0:=(hs 0 rfl).trans h0;exact zA5 a0) <|
          Obls.cons (Obl.plain rfl rfl fun R' w' hw hs hd=>by have a0:R' 13=v0:=hd 0 _ _ _ rfl rfl rfl rfl rfl;have ra0:=(f_v0.fr hw).eq a0;exact zAd (aT:=#[]) ra0 Try.underlying22) <|
          Obls.cons (Obl.plain rfl rfl fun R' w' hw hs hd=>by have a0:R' 12 = .int .i64 y7:=hd 0 _ _ _ rfl rfl rfl rfl rfl;have a1:R' 14 = .int .i64 (p0.length:Int):=hd 1 _ _ _ rfl rfl rfl rfl rfl;exact zBI a0 a1) <|
          Obls.nil
      intro R w hw hs hF'
      replace h0:R 0=v0:=(hs 0 rfl).trans h0
      replace h1:R 1 = .int .i64 y6:=(hs 1 rfl).trans h1
      replace h5:R 5 = .int .i64 y7:=(hs 5 rfl).trans h5
      have h15:R 15 = .bool (decide (y7<(p0.length:Int))):=hF' 3 _ _ rfl rfl rfl
      replace f_v0:=f_v0.fr hw
      replace hA:=hA.fr hw.size
      replace hF:=hF.trans hw
      clear hs hF' hw
      refine zA4 ?_
      refine HT.cond (decide (y7<(p0.length:Int))) h15 (fun c8=>?_) (fun c8=>?_)
      · have hr := zAq c8 hr
        refine HT.skip ?_
        refine HT.seq ?_
        refine HT.block ?_
        refine HT.seq ?_
        obtain ⟨e9,hr⟩:=zAF hr
        obtain ⟨x10,q11,hr⟩:=zAK hr
        refine HT.text (l:=⟨_,true,.raw v0⟩::⟨_,true,.raw (.int .i64 y7)⟩::⟨_,true,.qtr zAW A (gtD p0 y7)⟩::⟨_,true,.rep zAW A (gtD p0 y7)⟩::⟨_,true,.raw (.int .i64 y6)⟩::⟨_,true,.raw (.int .i64 x10)⟩::⟨_,true,.raw (.int .i64 x10)⟩::[]) (tl:=[]) (by kernel_rfl) (by kernel_rfl) (by kernel_rfl) ?_ ?_
        · exact
            Obls.cons (Obl.plain rfl rfl fun R' w' hw hs hd=>by have a0:R' 0=v0:=(hs 0 rfl).trans h0;exact zA5 a0) <|
            Obls.cons (Obl.plain rfl rfl fun R' w' hw hs hd=>by have a0:R' 5 = .int .i64 y7:=(hs 5 rfl).trans h5;exact zA5 a0) <|
            Obls.cons (Obl.plain rfl rfl fun R' w' hw hs hd=>by have a0:R' 18=v0:=hd 0 _ _ _ rfl rfl rfl rfl rfl;have a1:R' 19 = .int .i64 y7:=hd 1 _ _ _ rfl rfl rfl rfl rfl;have ra0:=(f_v0.fr hw).eq a0;exact zAN ra0 a1 Try.underlying22 Try.sizeOf90 e9) <|
            Obls.cons (Obl.plain rfl rfl fun R' w' hw hs hd=>by have a0:QRep zAW A w' (R' 20) (gtD p0 y7):=hd 0 _ _ _ rfl rfl rfl rfl rfl;exact (zAv a0.ptr Try.isAgg90 Try.sizeOf90)) <|
            Obls.cons (Obl.plain rfl rfl fun R' w' hw hs hd=>by have a0:R' 1 = .int .i64 y6:=(hs 1 rfl).trans h1;exact zA5 a0) <|
            Obls.cons (Obl.plain rfl rfl fun R' w' hw hs hd=>by have a0:Rep zAW A w' (R' 21) (gtD p0 y7):=hd 0 _ _ _ rfl rfl rfl rfl rfl;have a1:R' 22 = .int .i64 y6:=hd 1 _ _ _ rfl rfl rfl rfl rfl;exact zAl Try.call58 (zG8 (q11 rfl) (hA.fr hw.size) a0 a1)) <|
            Obls.cons (Obl.plain rfl rfl fun R' w' hw hs hd=>by have a0:R' 23 = .int .i64 x10:=hd 0 _ _ _ rfl rfl rfl rfl rfl;exact zA6 a0) <|
            Obls.nil
        intro R w hw hs hF'
        replace h0:R 0=v0:=(hs 0 rfl).trans h0
        replace h5:R 5 = .int .i64 y7:=(hs 5 rfl).trans h5
        have h1:R 1 = .int .i64 x10:=hF' 6 _ _ rfl rfl rfl
        replace f_v0:=f_v0.fr hw
        replace hA:=hA.fr hw.size
        replace hF:=hF.trans hw
        clear hs hF' hw
        refine zA4 ?_
        refine HT.seq ?_
        refine HT.text (l:=⟨_,true,.raw (.int .i64 x10)⟩::⟨_,true,.raw (.bool (decide (x10<(0:Int))))⟩::[]) (tl:=[]) (by kernel_rfl) (by kernel_rfl) (by kernel_rfl) ?_ ?_
        · exact
            Obls.cons (Obl.plain rfl rfl fun R' w' hw hs hd=>by have a0:R' 1 = .int .i64 x10:=(hs 1 rfl).trans h1;exact zA5 a0) <|
            Obls.cons (Obl.plain rfl rfl fun R' w' hw hs hd=>by have a0:R' 24 = .int .i64 x10:=hd 0 _ _ _ rfl rfl rfl rfl rfl;exact zBI a0 rfl) <|
            Obls.nil
        intro R w hw hs hF'
        replace h0:R 0=v0:=(hs 0 rfl).trans h0
        replace h1:R 1 = .int .i64 x10:=(hs 1 rfl).trans h1
        replace h5:R 5 = .int .i64 y7:=(hs 5 rfl).trans h5
        have h25:R 25 = .bool (decide (x10<(0:Int))):=hF' 1 _ _ rfl rfl rfl
        replace f_v0:=f_v0.fr hw
        replace hA:=hA.fr hw.size
        replace hF:=hF.trans hw
        clear hs hF' hw
        refine zA4 ?_
        refine HT.cond (decide (x10<(0:Int))) h25 (fun c12=>?_) (fun c12=>?_)
        · have hr := zAq c12 hr
          refine HT.seq ?_
          refine HT.text (l:=⟨_,true,.raw (.int .i64 (-1:Int))⟩::[]) (tl:=[]) (by kernel_rfl) (by kernel_rfl) (by kernel_rfl) ?_ ?_
          · exact
              Obls.cons (Obl.plain rfl rfl fun R' w' hw hs hd=>by exact zA6 rfl) <|
              Obls.nil
          intro R w hw hs hF'
          have h4:R 4 = .int .i64 (-1:Int):=hF' 0 _ _ rfl rfl rfl
          replace hA:=hA.fr hw.size
          replace hF:=hF.trans hw
          clear hs hF' hw
          refine zA4 ?_
          refine HT.ret ?_
          obtain rfl:=Option.some.inj hr
          have hr:=hr0
          replace hr:some _=some _:=hr
          obtain rfl:=Option.some.inj hr
          exact ⟨.inr rfl,[R 4],⟨rfl,trivial⟩,h4,hF⟩
        · have hr := zAp c12 hr
          refine HT.skip ?_
          obtain ⟨e13,hr⟩:=zAF hr
          refine HT.text (l:=⟨_,true,.raw (.int .i64 y7)⟩::⟨_,true,.raw (.int .i64 (y7+(1:Int)))⟩::⟨_,true,.raw (.int .i64 (y7+(1:Int)))⟩::[]) (tl:=[]) (by kernel_rfl) (by kernel_rfl) (by kernel_rfl) ?_ ?_
          · exact
              Obls.cons (Obl.plain rfl rfl fun R' w' hw hs hd=>by have a0:R' 5 = .int .i64 y7:=(hs 5 rfl).trans h5;exact zA5 a0) <|
              Obls.cons (Obl.plain rfl rfl fun R' w' hw hs hd=>by have a0:R' 16 = .int .i64 y7:=hd 0 _ _ _ rfl rfl rfl rfl rfl;exact zB8 a0 rfl e13) <|
              Obls.cons (Obl.plain rfl rfl fun R' w' hw hs hd=>by have a0:R' 17 = .int .i64 (y7+(1:Int)):=hd 0 _ _ _ rfl rfl rfl rfl rfl;exact zA6 a0) <|
              Obls.nil
          intro R w hw hs hF'
          replace h0:R 0=v0:=(hs 0 rfl).trans h0
          replace h1:R 1 = .int .i64 x10:=(hs 1 rfl).trans h1
          have h5:R 5 = .int .i64 (y7+(1:Int)):=hF' 2 _ _ rfl rfl rfl
          replace f_v0:=f_v0.fr hw
          replace hA:=hA.fr hw.size
          replace hF:=hF.trans hw
          clear hs hF' hw
          refine zA4 ?_
          exact Exists.intro k (And.intro (Nat.lt_succ_self k) ⟨_,_,hr,hA,hF,h0,h1,h5,f_v0⟩)
      · have hr := zAp c8 hr
        refine HT.exit ?_
        obtain rfl:=Option.some.inj hr
        exact Exists.intro _ ⟨rfl,hA,hF,h1⟩
    rintro R w ⟨s5,rfl,hA,hF,h1⟩
    have hr:=zDj hr
    refine HT.seq ?_
    refine HT.text (l:=⟨_,true,.raw (.int .i64 s5)⟩::⟨_,true,.raw (.int .i64 s5)⟩::[]) (tl:=[]) (by kernel_rfl) (by kernel_rfl) (by kernel_rfl) ?_ ?_
    · exact
        Obls.cons (Obl.plain rfl rfl fun R' w' hw hs hd=>by have a0:R' 1 = .int .i64 s5:=(hs 1 rfl).trans h1;exact zA5 a0) <|
        Obls.cons (Obl.plain rfl rfl fun R' w' hw hs hd=>by have a0:R' 26 = .int .i64 s5:=hd 0 _ _ _ rfl rfl rfl rfl rfl;exact zA6 a0) <|
        Obls.nil
    intro R w hw hs hF'
    have h4:R 4 = .int .i64 s5:=hF' 1 _ _ rfl rfl rfl
    replace hA:=hA.fr hw.size
    replace hF:=hF.trans hw
    clear hs hF' hw
    refine zA4 ?_
    refine HT.ret ?_
    obtain rfl:=Option.some.inj hr
    exact ⟨.inr rfl,[R 4],⟨rfl,trivial⟩,h4,hF⟩
def zCN (fu:Nat) (p0:zBo) (p1:Int):Option Int:=
  cl true (zCw fu p0 p1) fun x2=>
  bif (decide (x2 < (0 : Int))) then (
    some (-1:Int)
  ) else (
    some x2
  )
set_option maxRecDepth 100000 in
set_option maxHeartbeats 4000000 in
theorem zFE {fu : Nat} {A0 : Av} {p0 : zBo} {p1 : Int} {r : Int} (hr : zCN fu p0 p1 = some r) {w : World} {v0 : Value} {v1 : Value} (hA : AvOK A0 w) (h0 : Rep zAE A0 w v0 p0) (h1 : v1 = .int .i64 p1) :
    Calls Try.prog 7 #[v0,v1] w fun e w'=>∃ v,e = .returned v∧(v = .int .i64 r∧Fr w w'):=by
  unfold zCN at hr
  obtain ⟨w0,hw0⟩:∃ w0,w0=w:=⟨_,rfl⟩
  have hF:Fr w0 w:=hw0 ▸ Fr.refl _
  have hA0:∀ b o,A0 b o→b<w0.heap.size:=fun b o h=>hw0 ▸ hA b o h
  have hA00:AvOK A0 w0:=hA0
  rw [show Fr w=Fr w0 from hw0 ▸ rfl]
  clear hw0
  obtain ⟨A,hAe⟩:∃ A,A=A0:=⟨_,rfl⟩
  have hAA:∀ b o,A0 b o→A b o:=fun b o h=>hAe ▸ h
  replace hA:AvOK A w:=hAe ▸ hA
  have hO:IniOK [] A w:=IniOK.nil
  refine zAI [.tmp 4] Try.func7 Try.ntmps7 (by decide) rfl rfl (Nat.le_of_ble_eq_true rfl) ?_
  intro R hR
  have f_v0:Rep zAE A w v0 p0:=hAe ▸ h0
  replace h0:R 0=v0:=hR 0 _ rfl
  replace h1:R 1 = .int .i64 p1:=(hR 1 _ rfl).trans h1
  clear hR hAe
  refine HT.seq ?_
  refine HT.textR [] (⟨_,true,[],some (.box w0.heap.size 24 zAE p0),true,fun A=>.any⟩::⟨_,true,[],none,true,fun A=>.raw (.int .i64 (0:Int))⟩::[]) (by kernel_rfl) (by kernel_rfl) (Wf.mk' (by kernel_rfl) (UAll.cons zAG (UAll.cons zAA (UAll.nil))) (by kernel_rfl) (by kernel_rfl)) hO hA ?_ ?_
  · exact
      zA9.cons (OblR.made _ rfl rfl rfl rfl fun A' R' w' ho hd=>by have a0:R' 0=v0:=(ho.old 0 rfl).trans h0;have ra0:=(f_v0.stp ho.stp).eq a0;exact zB9 ra0 (Nat.le_trans hF.size ho.ch.size)) <|
      zA9.cons (OblR.plain rfl rfl rfl rfl fun A' R' w' ho hd=>by exact zA6 rfl) <|
      zA9.nil
  intro done ρ σ A R w hdn hI
  replace h1:R 1 = .int .i64 p1:=(hI.reg rfl).trans h1
  obtain ⟨b2_0,e_b2_0⟩:=hI.boxv hdn 0 rfl rfl
  have h2:R 2=(.pointer (some ⟨b2_0,0,none⟩)):=(hI.opvR hdn 0 0 rfl rfl rfl rfl rfl).symm.trans e_b2_0
  replace hAA:=hI.low' hAA hA0 (hO.ge (trivial))
  replace hF:Fr w0 w:=hF.tr hI.ch (hO.ge (trivial))
  replace hO:IniOK [ob (.pointer (some ⟨b2_0,0,none⟩)) (.box w0.heap.size 24 zAE p0)] A w:=hI.left hdn [(0,ob (.pointer (some ⟨b2_0,0,none⟩)) (.box w0.heap.size 24 zAE p0))] ⟨rfl,rfl,e_b2_0,rfl,rfl,trivial⟩
  replace hA:=hI.avok
  clear hI
  refine HT.seq ?_
  obtain ⟨x2,q3,hr⟩:=zAK hr
  refine HT.text (l:=⟨_,true,.raw (.pointer (some ⟨b2_0,0,none⟩))⟩::⟨_,true,.rep (eSl zAW) A p0⟩::⟨_,true,.raw (.int .i64 p1)⟩::⟨_,true,.raw (.int .i64 x2)⟩::⟨_,true,.raw (.int .i64 x2)⟩::[]) (tl:=[]) (by kernel_rfl) (by kernel_rfl) (by kernel_rfl) ?_ ?_
  · exact
      Obls.cons (Obl.plain rfl rfl fun R' w' hw hs hd=>by have a0:R' 2=(.pointer (some ⟨b2_0,0,none⟩)):=(hs 2 rfl).trans h2;exact zAB a0 zJX Try.sizeOf22 (by decide) rfl) <|
      Obls.cons (Obl.plain rfl rfl fun R' w' hw hs hd=>by have a0:R' 5=(.pointer (some ⟨b2_0,0,none⟩)):=hd 0 _ _ _ rfl rfl rfl rfl rfl;exact (zAD ((hO.fr hw).ok 0 _ rfl).1 a0 zEG rfl Try.isAgg22 Try.sizeOf22)) <|
      Obls.cons (Obl.plain rfl rfl fun R' w' hw hs hd=>by have a0:R' 1 = .int .i64 p1:=(hs 1 rfl).trans h1;exact zA5 a0) <|
      Obls.cons (Obl.plain rfl rfl fun R' w' hw hs hd=>by have a0:Rep (eSl zAW) A w' (R' 6) p0:=hd 0 _ _ _ rfl rfl rfl rfl rfl;have a1:R' 7 = .int .i64 p1:=hd 1 _ _ _ rfl rfl rfl rfl rfl;exact zAl Try.call32 (zFr (q3 rfl) (hA.fr hw.size) a0 a1)) <|
      Obls.cons (Obl.plain rfl rfl fun R' w' hw hs hd=>by have a0:R' 8 = .int .i64 x2:=hd 0 _ _ _ rfl rfl rfl rfl rfl;exact zA6 a0) <|
      Obls.nil
  intro R w hw hs hF'
  have h1:R 1 = .int .i64 x2:=hF' 4 _ _ rfl rfl rfl
  replace hO:=hO.fr hw
  replace hO:IniOK [] A w:=hO.sub [] trivial
  replace hA:=hA.fr hw.size
  replace hF:=hF.trans hw
  clear hs hF' hw
  refine zA4 ?_
  refine HT.seq ?_
  refine HT.seq ?_
  refine HT.text (l:=⟨_,true,.raw (.int .i64 x2)⟩::⟨_,true,.raw (.bool (decide (x2<(0:Int))))⟩::[]) (tl:=[]) (by kernel_rfl) (by kernel_rfl) (by kernel_rfl) ?_ ?_
  · exact
      Obls.cons (Obl.plain rfl rfl fun R' w' hw hs hd=>by have a0:R' 1 = .int .i64 x2:=(hs 1 rfl).trans h1;exact zA5 a0) <|
      Obls.cons (Obl.plain rfl rfl fun R' w' hw hs hd=>by have a0:R' 9 = .int .i64 x2:=hd 0 _ _ _ rfl rfl rfl rfl rfl;exact zBI a0 rfl) <|
      Obls.nil
  intro R w hw hs hF'
  replace h1:R 1 = .int .i64 x2:=(hs 1 rfl).trans h1
  have h10:R 10 = .bool (decide (x2<(0:Int))):=hF' 1 _ _ rfl rfl rfl
  replace hO:=hO.fr hw
  replace hA:=hA.fr hw.size
  replace hF:=hF.trans hw
  clear hs hF' hw
  refine zA4 ?_
  refine HT.cond (decide (x2<(0:Int))) h10 (fun c4=>?_) (fun c4=>?_)
  · have hr := zAq c4 hr
    refine HT.seq ?_
    refine HT.text (l:=⟨_,true,.raw (.int .i64 (-1:Int))⟩::[]) (tl:=[]) (by kernel_rfl) (by kernel_rfl) (by kernel_rfl) ?_ ?_
    · exact
        Obls.cons (Obl.plain rfl rfl fun R' w' hw hs hd=>by exact zA6 rfl) <|
        Obls.nil
    intro R w hw hs hF'
    have h4:R 4 = .int .i64 (-1:Int):=hF' 0 _ _ rfl rfl rfl
    replace hO:=hO.fr hw
    replace hA:=hA.fr hw.size
    replace hF:=hF.trans hw
    clear hs hF' hw
    refine zA4 ?_
    refine HT.ret ?_
    obtain rfl:=Option.some.inj hr
    exact ⟨.inr rfl,[R 4],⟨rfl,trivial⟩,h4,hF⟩
  · have hr := zAp c4 hr
    refine HT.skip ?_
    refine HT.seq ?_
    refine HT.text (l:=⟨_,true,.raw (.int .i64 x2)⟩::⟨_,true,.raw (.int .i64 x2)⟩::[]) (tl:=[]) (by kernel_rfl) (by kernel_rfl) (by kernel_rfl) ?_ ?_
    · exact
        Obls.cons (Obl.plain rfl rfl fun R' w' hw hs hd=>by have a0:R' 1 = .int .i64 x2:=(hs 1 rfl).trans h1;exact zA5 a0) <|
        Obls.cons (Obl.plain rfl rfl fun R' w' hw hs hd=>by have a0:R' 11 = .int .i64 x2:=hd 0 _ _ _ rfl rfl rfl rfl rfl;exact zA6 a0) <|
        Obls.nil
    intro R w hw hs hF'
    have h4:R 4 = .int .i64 x2:=hF' 1 _ _ rfl rfl rfl
    replace hO:=hO.fr hw
    replace hA:=hA.fr hw.size
    replace hF:=hF.trans hw
    clear hs hF' hw
    refine zA4 ?_
    refine HT.ret ?_
    obtain rfl:=Option.some.inj hr
    exact ⟨.inr rfl,[R 4],⟨rfl,trivial⟩,h4,hF⟩
def zDA (fu:Nat) (p0:zA7):Option zA7:=
  some (p0.1,p0.2.1,p0.2.2)
set_option maxRecDepth 100000 in
set_option maxHeartbeats 4000000 in
theorem zG9 {fu : Nat} {A0 : Av} {p0 : zA7} {r : zA7} (hr : zDA fu p0 = some r) {w : World} {v0 : Value} (hA : AvOK A0 w) (h0 : Rep zA1 A0 w v0 p0) :
    Calls Try.prog 107 #[v0] w fun e w'=>∃ v,e = .returned v∧(Rep zA1 A0 w' v r∧Fr w w'):=by
  unfold zDA at hr
  obtain ⟨w0,hw0⟩:∃ w0,w0=w:=⟨_,rfl⟩
  have hF:Fr w0 w:=hw0 ▸ Fr.refl _
  have hA0:∀ b o,A0 b o→b<w0.heap.size:=fun b o h=>hw0 ▸ hA b o h
  have hA00:AvOK A0 w0:=hA0
  rw [show Fr w=Fr w0 from hw0 ▸ rfl]
  clear hw0
  obtain ⟨A,hAe⟩:∃ A,A=A0:=⟨_,rfl⟩
  have hAA:∀ b o,A0 b o→A b o:=fun b o h=>hAe ▸ h
  replace hA:AvOK A w:=hAe ▸ hA
  have hO:IniOK [] A w:=IniOK.nil
  refine zAI [.cell 2 82] Try.func107 Try.ntmps107 (by decide) rfl rfl (Nat.le_of_ble_eq_true rfl) ?_
  intro R hR
  have f_v0:Rep zA1 A w v0 p0:=hAe ▸ h0
  replace h0:R 0=v0:=hR 0 _ rfl
  clear hR hAe
  refine HT.seq ?_
  refine HT.textR [] (⟨_,true,[],some (.box w0.heap.size 130 zA1 p0),true,fun A=>.any⟩::⟨_,true,[],some (.box w0.heap.size 82 zA1 ((0:Int),((0:Int),false))),true,fun A=>.any⟩::[]) (by kernel_rfl) (by kernel_rfl) (Wf.mk' (by kernel_rfl) (UAll.cons zAG (UAll.cons zAG (UAll.nil))) (by kernel_rfl) (by kernel_rfl)) hO hA ?_ ?_
  · exact
      zA9.cons (OblR.made _ rfl rfl rfl rfl fun A' R' w' ho hd=>by have a0:R' 0=v0:=(ho.old 0 rfl).trans h0;have ra0:=(f_v0.stp ho.stp).eq a0;exact zB9 ra0 (Nat.le_trans hF.size ho.ch.size)) <|
      zA9.cons (OblR.made _ rfl rfl rfl rfl fun A' R' w' ho hd=>by exact zC5 Try.zeroValue82 (fun A w=>zBr zAe (zBr zAe zCr)) (Nat.le_trans hF.size ho.ch.size)) <|
      zA9.nil
  intro done ρ σ A R w hdn hI
  obtain ⟨b1_0,e_b1_0⟩:=hI.boxv hdn 0 rfl rfl
  have h1:R 1=(.pointer (some ⟨b1_0,0,none⟩)):=(hI.opvR hdn 0 0 rfl rfl rfl rfl rfl).symm.trans e_b1_0
  obtain ⟨b2_1,e_b2_1⟩:=hI.boxv hdn 1 rfl rfl
  have h2:R 2=(.pointer (some ⟨b2_1,0,none⟩)):=(hI.opvR hdn 1 1 rfl rfl rfl rfl rfl).symm.trans e_b2_1
  replace hAA:=hI.low' hAA hA0 (hO.ge (trivial))
  replace hF:Fr w0 w:=hF.tr hI.ch (hO.ge (trivial))
  replace hO:IniOK [ob (.pointer (some ⟨b1_0,0,none⟩)) (.box w0.heap.size 130 zA1 p0),ob (.pointer (some ⟨b2_1,0,none⟩)) (.box w0.heap.size 82 zA1 ((0:Int),((0:Int),false)))] A w:=hI.left hdn [(0,ob (.pointer (some ⟨b1_0,0,none⟩)) (.box w0.heap.size 130 zA1 p0)),(1,ob (.pointer (some ⟨b2_1,0,none⟩)) (.box w0.heap.size 82 zA1 ((0:Int),((0:Int),false))))] ⟨rfl,rfl,e_b1_0,rfl,rfl,⟨rfl,rfl,e_b2_1,rfl,rfl,trivial⟩⟩
  replace hA:=hI.avok
  clear hI
  refine HT.seq ?_
  refine HT.textR [ob (.pointer (some ⟨b1_0,0,none⟩)) (.box w0.heap.size 130 zA1 p0),ob (.pointer (some ⟨b2_1,0,none⟩)) (.box w0.heap.size 82 zA1 ((0:Int),((0:Int),false)))] (⟨_,true,[],some (.box w0.heap.size 82 zA1 ((0:Int),((0:Int),false))),true,fun A=>.any⟩::[]) (by kernel_rfl) (by kernel_rfl) (Wf.mk' (by kernel_rfl) (UAll.cons zAG (UAll.nil)) (by kernel_rfl) (by kernel_rfl)) hO hA ?_ ?_
  · exact
      zA9.cons (OblR.made _ rfl rfl rfl rfl fun A' R' w' ho hd=>by exact zC5 Try.zeroValue82 (fun A w=>zBr zAe (zBr zAe zCr)) (Nat.le_trans hF.size ho.ch.size)) <|
      zA9.nil
  intro done ρ σ A R w hdn hI
  replace h1:R 1=(.pointer (some ⟨b1_0,0,none⟩)):=(hI.reg rfl).trans h1
  replace h2:R 2=(.pointer (some ⟨b2_1,0,none⟩)):=(hI.reg rfl).trans h2
  have z3:=hI.inivR 0 rfl
  have z4:=hI.inivR 1 rfl
  obtain ⟨b3_4,e_b3_4⟩:=hI.boxv hdn 2 rfl rfl
  have h3:R 3=(.pointer (some ⟨b3_4,0,none⟩)):=(hI.opvR hdn 2 0 rfl rfl rfl rfl rfl).symm.trans e_b3_4
  replace hAA:=hI.low' hAA hA0 (hO.ge (⟨rfl,⟨rfl,trivial⟩⟩))
  replace hF:Fr w0 w:=hF.tr hI.ch (hO.ge (⟨rfl,⟨rfl,trivial⟩⟩))
  replace hO:IniOK [ob (.pointer (some ⟨b1_0,0,none⟩)) (.box w0.heap.size 130 zA1 p0),ob (.pointer (some ⟨b2_1,0,none⟩)) (.box w0.heap.size 82 zA1 ((0:Int),((0:Int),false))),ob (.pointer (some ⟨b3_4,0,none⟩)) (.box w0.heap.size 82 zA1 ((0:Int),((0:Int),false)))] A w:=hI.left hdn [(0,ob (.pointer (some ⟨b1_0,0,none⟩)) (.box w0.heap.size 130 zA1 p0)),(1,ob (.pointer (some ⟨b2_1,0,none⟩)) (.box w0.heap.size 82 zA1 ((0:Int),((0:Int),false)))),(2,ob (.pointer (some ⟨b3_4,0,none⟩)) (.box w0.heap.size 82 zA1 ((0:Int),((0:Int),false))))] ⟨rfl,rfl,z3,rfl,rfl,⟨rfl,rfl,z4,rfl,rfl,⟨rfl,rfl,e_b3_4,rfl,rfl,trivial⟩⟩⟩
  replace hA:=hI.avok
  clear hI
  refine HT.seq ?_
  refine HT.textR [ob (.pointer (some ⟨b1_0,0,none⟩)) (.box w0.heap.size 130 zA1 p0),ob (.pointer (some ⟨b2_1,0,none⟩)) (.box w0.heap.size 82 zA1 ((0:Int),((0:Int),false))),ob (.pointer (some ⟨b3_4,0,none⟩)) (.box w0.heap.size 82 zA1 ((0:Int),((0:Int),false)))] (⟨_,true,[],none,true,fun A=>.raw (.pointer (some ⟨b1_0,0,none⟩))⟩::⟨_,true,[],none,true,fun A=>.raw (.int .i64 p0.1)⟩::⟨_,true,[],none,true,fun A=>.raw (.pointer (some ⟨b3_4,0,none⟩))⟩::⟨_,true,[2],some (.box w0.heap.size 82 zA1 (p0.1,(0:Int),false)),false,fun A=>.any⟩::[]) (by kernel_rfl) (by kernel_rfl) (Wf.mk' (by kernel_rfl) (UAll.cons zAA (UAll.cons zAA (UAll.cons zAA (UAll.cons zAG (UAll.nil))))) (by kernel_rfl) (by kernel_rfl)) hO hA ?_ ?_
  · exact
      zA9.cons (OblR.plain rfl rfl rfl rfl fun A' R' w' ho hd=>by have a0:R' 1=(.pointer (some ⟨b1_0,0,none⟩)):=(ho.old 1 rfl).trans h1;exact zAB a0 zKn Try.sizeOf3 (by decide) rfl) <|
      zA9.cons (OblR.plain rfl rfl rfl rfl fun A' R' w' ho hd=>by have a0:R' 4=(.pointer (some ⟨b1_0,0,none⟩)):=hd 0 _ _ _ rfl rfl rfl rfl rfl;exact OpF.int (zAD (ho.rd 0 _ rfl rfl) a0 zAz rfl Try.isAgg3 Try.sizeOf3)) <|
      zA9.cons (OblR.plain rfl rfl rfl rfl fun A' R' w' ho hd=>by have a0:R' 3=(.pointer (some ⟨b3_4,0,none⟩)):=(ho.old 3 rfl).trans h3;exact zAB a0 zCS Try.sizeOf3 (by decide) rfl) <|
      zA9.cons (OblR.took 2 _ _ rfl rfl rfl rfl rfl fun A' R' w' ho hd u hok hav hin hop hds=>by have a0:R' 6=(.pointer (some ⟨b3_4,0,none⟩)):=hd 0 _ _ _ rfl rfl rfl rfl rfl;have a1:R' 5 = .int .i64 p0.1:=hd 1 _ _ _ rfl rfl rfl rfl rfl;exact zBY (zDU.eq a1) a0 (hin _ rfl) hok hav zFB Try.sizeOf3 rfl) <|
      zA9.nil
  intro done ρ σ A R w hdn hI
  replace h1:R 1=(.pointer (some ⟨b1_0,0,none⟩)):=(hI.reg rfl).trans h1
  replace h2:R 2=(.pointer (some ⟨b2_1,0,none⟩)):=(hI.reg rfl).trans h2
  replace h3:R 3=(.pointer (some ⟨b3_4,0,none⟩)):=(hI.reg rfl).trans h3
  have z6:=hI.inivR 0 rfl
  have z7:=hI.inivR 1 rfl
  have z8:=hI.inivR 2 rfl
  have z9:=(hI.opnR hdn 6 3 rfl rfl rfl rfl rfl).trans z8
  replace hAA:=hI.low' hAA hA0 (hO.ge (⟨rfl,⟨rfl,⟨rfl,trivial⟩⟩⟩))
  replace hF:Fr w0 w:=hF.tr hI.ch (hO.ge (⟨rfl,⟨rfl,⟨rfl,trivial⟩⟩⟩))
  replace hO:IniOK [ob (.pointer (some ⟨b1_0,0,none⟩)) (.box w0.heap.size 130 zA1 p0),ob (.pointer (some ⟨b2_1,0,none⟩)) (.box w0.heap.size 82 zA1 ((0:Int),((0:Int),false))),ob (.pointer (some ⟨b3_4,0,none⟩)) (.box w0.heap.size 82 zA1 (p0.1,(0:Int),false))] A w:=hI.left hdn [(0,ob (.pointer (some ⟨b1_0,0,none⟩)) (.box w0.heap.size 130 zA1 p0)),(1,ob (.pointer (some ⟨b2_1,0,none⟩)) (.box w0.heap.size 82 zA1 ((0:Int),((0:Int),false)))),(6,ob (.pointer (some ⟨b3_4,0,none⟩)) (.box w0.heap.size 82 zA1 (p0.1,(0:Int),false)))] ⟨rfl,rfl,z6,rfl,rfl,⟨rfl,rfl,z7,rfl,rfl,⟨rfl,rfl,z9,rfl,rfl,trivial⟩⟩⟩
  replace hA:=hI.avok
  clear hI
  refine HT.seq ?_
  refine HT.textR [ob (.pointer (some ⟨b1_0,0,none⟩)) (.box w0.heap.size 130 zA1 p0),ob (.pointer (some ⟨b2_1,0,none⟩)) (.box w0.heap.size 82 zA1 ((0:Int),((0:Int),false))),ob (.pointer (some ⟨b3_4,0,none⟩)) (.box w0.heap.size 82 zA1 (p0.1,(0:Int),false))] (⟨_,true,[],none,true,fun A=>.raw (.pointer (some ⟨b1_0,1,none⟩))⟩::⟨_,true,[],none,true,fun A=>.raw (.int .i64 p0.2.1)⟩::⟨_,true,[],none,true,fun A=>.raw (.pointer (some ⟨b3_4,1,none⟩))⟩::⟨_,true,[2],some (.box w0.heap.size 82 zA1 (p0.1,p0.2.1,false)),false,fun A=>.any⟩::[]) (by kernel_rfl) (by kernel_rfl) (Wf.mk' (by kernel_rfl) (UAll.cons zAA (UAll.cons zAA (UAll.cons zAA (UAll.cons zAG (UAll.nil))))) (by kernel_rfl) (by kernel_rfl)) hO hA ?_ ?_
  · exact
      zA9.cons (OblR.plain rfl rfl rfl rfl fun A' R' w' ho hd=>by have a0:R' 1=(.pointer (some ⟨b1_0,0,none⟩)):=(ho.old 1 rfl).trans h1;exact zAB a0 zKU Try.sizeOf3 (by decide) rfl) <|
      zA9.cons (OblR.plain rfl rfl rfl rfl fun A' R' w' ho hd=>by have a0:R' 7=(.pointer (some ⟨b1_0,1,none⟩)):=hd 0 _ _ _ rfl rfl rfl rfl rfl;exact OpF.int (zAD (ho.rd 0 _ rfl rfl) a0 zBH rfl Try.isAgg3 Try.sizeOf3)) <|
      zA9.cons (OblR.plain rfl rfl rfl rfl fun A' R' w' ho hd=>by have a0:R' 3=(.pointer (some ⟨b3_4,0,none⟩)):=(ho.old 3 rfl).trans h3;exact zAB a0 zDX Try.sizeOf3 (by decide) rfl) <|
      zA9.cons (OblR.took 2 _ _ rfl rfl rfl rfl rfl fun A' R' w' ho hd u hok hav hin hop hds=>by have a0:R' 9=(.pointer (some ⟨b3_4,1,none⟩)):=hd 0 _ _ _ rfl rfl rfl rfl rfl;have a1:R' 8 = .int .i64 p0.2.1:=hd 1 _ _ _ rfl rfl rfl rfl rfl;exact zBY (zDU.eq a1) a0 (hin _ rfl) hok hav zF8 Try.sizeOf3 rfl) <|
      zA9.nil
  intro done ρ σ A R w hdn hI
  replace h1:R 1=(.pointer (some ⟨b1_0,0,none⟩)):=(hI.reg rfl).trans h1
  replace h2:R 2=(.pointer (some ⟨b2_1,0,none⟩)):=(hI.reg rfl).trans h2
  replace h3:R 3=(.pointer (some ⟨b3_4,0,none⟩)):=(hI.reg rfl).trans h3
  have z10:=hI.inivR 0 rfl
  have z11:=hI.inivR 1 rfl
  have z12:=hI.inivR 2 rfl
  have z13:=(hI.opnR hdn 6 3 rfl rfl rfl rfl rfl).trans z12
  replace hAA:=hI.low' hAA hA0 (hO.ge (⟨rfl,⟨rfl,⟨rfl,trivial⟩⟩⟩))
  replace hF:Fr w0 w:=hF.tr hI.ch (hO.ge (⟨rfl,⟨rfl,⟨rfl,trivial⟩⟩⟩))
  replace hO:IniOK [ob (.pointer (some ⟨b1_0,0,none⟩)) (.box w0.heap.size 130 zA1 p0),ob (.pointer (some ⟨b2_1,0,none⟩)) (.box w0.heap.size 82 zA1 ((0:Int),((0:Int),false))),ob (.pointer (some ⟨b3_4,0,none⟩)) (.box w0.heap.size 82 zA1 (p0.1,p0.2.1,false))] A w:=hI.left hdn [(0,ob (.pointer (some ⟨b1_0,0,none⟩)) (.box w0.heap.size 130 zA1 p0)),(1,ob (.pointer (some ⟨b2_1,0,none⟩)) (.box w0.heap.size 82 zA1 ((0:Int),((0:Int),false)))),(6,ob (.pointer (some ⟨b3_4,0,none⟩)) (.box w0.heap.size 82 zA1 (p0.1,p0.2.1,false)))] ⟨rfl,rfl,z10,rfl,rfl,⟨rfl,rfl,z11,rfl,rfl,⟨rfl,rfl,z13,rfl,rfl,trivial⟩⟩⟩
  replace hA:=hI.avok
  clear hI
  refine HT.seq ?_
  refine HT.textR [ob (.pointer (some ⟨b1_0,0,none⟩)) (.box w0.heap.size 130 zA1 p0),ob (.pointer (some ⟨b2_1,0,none⟩)) (.box w0.heap.size 82 zA1 ((0:Int),((0:Int),false))),ob (.pointer (some ⟨b3_4,0,none⟩)) (.box w0.heap.size 82 zA1 (p0.1,p0.2.1,false))] (⟨_,true,[],none,true,fun A=>.raw (.pointer (some ⟨b1_0,2,none⟩))⟩::⟨_,true,[],none,true,fun A=>.raw (.bool p0.2.2)⟩::⟨_,true,[],none,true,fun A=>.raw (.pointer (some ⟨b3_4,2,none⟩))⟩::⟨_,true,[2],some (.box w0.heap.size 82 zA1 (p0.1,p0.2.1,p0.2.2)),false,fun A=>.any⟩::[]) (by kernel_rfl) (by kernel_rfl) (Wf.mk' (by kernel_rfl) (UAll.cons zAA (UAll.cons zAA (UAll.cons zAA (UAll.cons zAG (UAll.nil))))) (by kernel_rfl) (by kernel_rfl)) hO hA ?_ ?_
  · exact
      zA9.cons (OblR.plain rfl rfl rfl rfl fun A' R' w' ho hd=>by have a0:R' 1=(.pointer (some ⟨b1_0,0,none⟩)):=(ho.old 1 rfl).trans h1;exact zAB a0 zKZ Try.sizeOf4 (by decide) rfl) <|
      zA9.cons (OblR.plain rfl rfl rfl rfl fun A' R' w' ho hd=>by have a0:R' 10=(.pointer (some ⟨b1_0,2,none⟩)):=hd 0 _ _ _ rfl rfl rfl rfl rfl;exact OpF.bool (zAD (ho.rd 0 _ rfl rfl) a0 zCv rfl Try.isAgg4 Try.sizeOf4)) <|
      zA9.cons (OblR.plain rfl rfl rfl rfl fun A' R' w' ho hd=>by have a0:R' 3=(.pointer (some ⟨b3_4,0,none⟩)):=(ho.old 3 rfl).trans h3;exact zAB a0 zEb Try.sizeOf4 (by decide) rfl) <|
      zA9.cons (OblR.took 2 _ _ rfl rfl rfl rfl rfl fun A' R' w' ho hd u hok hav hin hop hds=>by have a0:R' 12=(.pointer (some ⟨b3_4,2,none⟩)):=hd 0 _ _ _ rfl rfl rfl rfl rfl;have a1:R' 11 = .bool p0.2.2:=hd 1 _ _ _ rfl rfl rfl rfl rfl;exact zBY (zF0.eq a1) a0 (hin _ rfl) hok hav zDY Try.sizeOf4 rfl) <|
      zA9.nil
  intro done ρ σ A R w hdn hI
  replace h2:R 2=(.pointer (some ⟨b2_1,0,none⟩)):=(hI.reg rfl).trans h2
  replace h3:R 3=(.pointer (some ⟨b3_4,0,none⟩)):=(hI.reg rfl).trans h3
  have z14:=hI.inivR 0 rfl
  have z15:=hI.inivR 1 rfl
  have z16:=hI.inivR 2 rfl
  have z17:=(hI.opnR hdn 6 3 rfl rfl rfl rfl rfl).trans z16
  replace hAA:=hI.low' hAA hA0 (hO.ge (⟨rfl,⟨rfl,⟨rfl,trivial⟩⟩⟩))
  replace hF:Fr w0 w:=hF.tr hI.ch (hO.ge (⟨rfl,⟨rfl,⟨rfl,trivial⟩⟩⟩))
  replace hO:IniOK [ob (.pointer (some ⟨b2_1,0,none⟩)) (.box w0.heap.size 82 zA1 ((0:Int),((0:Int),false))),ob (.pointer (some ⟨b3_4,0,none⟩)) (.box w0.heap.size 82 zA1 (p0.1,p0.2.1,p0.2.2))] A w:=hI.left hdn [(1,ob (.pointer (some ⟨b2_1,0,none⟩)) (.box w0.heap.size 82 zA1 ((0:Int),((0:Int),false)))),(6,ob (.pointer (some ⟨b3_4,0,none⟩)) (.box w0.heap.size 82 zA1 (p0.1,p0.2.1,p0.2.2)))] ⟨rfl,rfl,z15,rfl,rfl,⟨rfl,rfl,z17,rfl,rfl,trivial⟩⟩
  replace hA:=hI.avok
  clear hI
  refine HT.seq ?_
  refine HT.textR [ob (.pointer (some ⟨b2_1,0,none⟩)) (.box w0.heap.size 82 zA1 ((0:Int),((0:Int),false))),ob (.pointer (some ⟨b3_4,0,none⟩)) (.box w0.heap.size 82 zA1 (p0.1,p0.2.1,p0.2.2))] (⟨_,true,[],none,true,fun A=>.rep zA1 A (p0.1,p0.2.1,p0.2.2)⟩::⟨_,true,[0],some (.box w0.heap.size 82 zA1 (p0.1,p0.2.1,p0.2.2)),false,fun A=>.any⟩::[]) (by kernel_rfl) (by kernel_rfl) (Wf.mk' (by kernel_rfl) (UAll.cons zAn (UAll.cons zAG (UAll.nil))) (by kernel_rfl) (by kernel_rfl)) hO hA ?_ ?_
  · exact
      zA9.cons (OblR.plain rfl rfl rfl rfl fun A' R' w' ho hd=>by have a0:R' 3=(.pointer (some ⟨b3_4,0,none⟩)):=(ho.old 3 rfl).trans h3;exact (zAD (ho.rd 1 _ rfl rfl) a0 (Fld.id _) rfl Try.isAgg82 Try.sizeOf82)) <|
      zA9.cons (OblR.took 0 _ _ rfl rfl rfl rfl rfl fun A' R' w' ho hd u hok hav hin hop hds=>by have a0:R' 2=(.pointer (some ⟨b2_1,0,none⟩)):=(ho.old 2 rfl).trans h2;have a1:Rep zA1 A' w' (R' 13) (p0.1,p0.2.1,p0.2.2):=hd 0 _ _ _ rfl rfl rfl rfl rfl;exact zBY a1 a0 (hin _ rfl) hok hav (FldS.id _) Try.sizeOf82 rfl) <|
      zA9.nil
  intro done ρ σ A R w hdn hI
  replace h2:R 2=(.pointer (some ⟨b2_1,0,none⟩)):=(hI.reg rfl).trans h2
  have z18:=hI.inivR 0 rfl
  have z19:=(hI.opnR hdn 3 1 rfl rfl rfl rfl rfl).trans z18
  have z20:=hI.inivR 1 rfl
  replace hAA:=hI.low' hAA hA0 (hO.ge (⟨rfl,⟨rfl,trivial⟩⟩))
  replace hF:Fr w0 w:=hF.tr hI.ch (hO.ge (⟨rfl,⟨rfl,trivial⟩⟩))
  replace hO:IniOK [ob (.pointer (some ⟨b2_1,0,none⟩)) (.box w0.heap.size 82 zA1 (p0.1,p0.2.1,p0.2.2))] A w:=hI.left hdn [(3,ob (.pointer (some ⟨b2_1,0,none⟩)) (.box w0.heap.size 82 zA1 (p0.1,p0.2.1,p0.2.2)))] ⟨rfl,rfl,z19,rfl,rfl,trivial⟩
  replace hA:=hI.avok
  clear hI
  refine HT.ret ?_
  obtain rfl:=Option.some.inj hr
  obtain ⟨v_2,e_2,p_2⟩:=zHP (hO.ok 0 _ rfl).1 h2 Try.isAgg82 Try.sizeOf82 hAA
  exact ⟨.inr rfl,[v_2],⟨e_2,trivial⟩,p_2,hF⟩
def zBk (fu : Nat) (p0 : List zA7) : Nat → Int → (List zA7) → Option (List zA7)
  | 0,_,_=>none
  | k+1,y6,y7=>
    bif (decide (y6 < (p0.length : Int))) then (
      ck (inR y6 p0.length) <|
      cl true (zDA fu (gtD p0 y6)) fun x10=>
      ck (inR y6 y7.length) <|
      ck (i64B (y6+(1:Int))) <|
      zBk fu p0 k (y6+(1:Int)) (y7.set y6.toNat x10)
    ) else (
      some y7
    )
def zCp (fu:Nat) (p0:List zA7):Option (List zA7):=
  ck (mkOK (p0.length:Int)) <|
  cl true (zBk fu p0 fu (0:Int) (List.replicate (p0.length:Int).toNat ((0:Int),((0:Int),false)))) fun s5=>
  some s5
set_option maxRecDepth 100000 in
set_option maxHeartbeats 4000000 in
theorem zFt {fu : Nat} {A0 : Av} {p0 : List zA7} {r : List zA7} (hr : zCp fu p0 = some r) {w : World} {v0 : Value} (hA : AvOK A0 w) (h0 : Rep (eSl zA1) A0 w v0 p0) :
    Calls Try.prog 91 #[v0] w fun e w'=>∃ v,e = .returned v∧((Res.vec w.heap.size 82 zA1 r).ok (addA A0 v) v w'∧Fr w w'):=by
  unfold zCp at hr
  obtain ⟨w0,hw0⟩:∃ w0,w0=w:=⟨_,rfl⟩
  have hF:Fr w0 w:=hw0 ▸ Fr.refl _
  have hA0:∀ b o,A0 b o→b<w0.heap.size:=fun b o h=>hw0 ▸ hA b o h
  have hA00:AvOK A0 w0:=hA0
  rw [show w.heap.size=w0.heap.size from hw0 ▸ rfl]
  rw [show Fr w=Fr w0 from hw0 ▸ rfl]
  clear hw0
  obtain ⟨A,hAe⟩:∃ A,A=A0:=⟨_,rfl⟩
  have hAA:∀ b o,A0 b o→A b o:=fun b o h=>hAe ▸ h
  replace hA:AvOK A w:=hAe ▸ hA
  have hO:IniOK [] A w:=IniOK.nil
  refine zAI [.tmp 2] Try.func91 Try.ntmps91 (by decide) rfl rfl (Nat.le_of_ble_eq_true rfl) ?_
  intro R hR
  have f_v0:Rep (eSl zA1) A w v0 p0:=hAe ▸ h0
  replace h0:R 0=v0:=hR 0 _ rfl
  clear hR hAe
  refine HT.seq ?_
  refine HT.text (l:=⟨_,true,.any⟩::[]) (tl:=[]) (by kernel_rfl) (by kernel_rfl) (by kernel_rfl) ?_ ?_
  · exact
      Obls.cons (Obl.plain rfl rfl fun R' w' hw hs hd=>by exact zA6 trivial) <|
      Obls.nil
  intro R w hw hs hF'
  replace h0:R 0=v0:=(hs 0 rfl).trans h0
  replace f_v0:=f_v0.fr hw
  replace hO:=hO.fr hw
  replace hA:=hA.fr hw.size
  replace hF:=hF.trans hw
  clear hs hF' hw
  refine zA4 ?_
  refine HT.seq ?_
  obtain ⟨e1,hr⟩:=zAF hr
  refine HT.textR [] (⟨_,true,[],none,true,fun A=>.raw v0⟩::⟨_,true,[],none,true,fun A=>.raw (.int .i64 (p0.length:Int))⟩::⟨_,true,[],some (.vec w0.heap.size 82 zA1 (List.replicate (p0.length:Int).toNat ((0:Int),((0:Int),false)))),true,fun A=>.any⟩::⟨_,true,[2],some (.vec w0.heap.size 82 zA1 (List.replicate (p0.length:Int).toNat ((0:Int),((0:Int),false)))),true,fun A=>.any⟩::[]) (by kernel_rfl) (by kernel_rfl) (Wf.mk' (by kernel_rfl) (UAll.cons zAA (UAll.cons zAA (UAll.cons zAG (UAll.cons zAG (UAll.nil))))) (by kernel_rfl) (by kernel_rfl)) hO hA ?_ ?_
  · exact
      zA9.cons (OblR.plain rfl rfl rfl rfl fun A' R' w' ho hd=>by have a0:R' 0=v0:=(ho.old 0 rfl).trans h0;exact zA5 a0) <|
      zA9.cons (OblR.plain rfl rfl rfl rfl fun A' R' w' ho hd=>by have a0:R' 5=v0:=hd 0 _ _ _ rfl rfl rfl rfl rfl;have ra0:=(f_v0.stp ho.stp).eq a0;exact zAd (aT:=#[]) ra0 Try.underlying88) <|
      zA9.cons (OblR.made _ rfl rfl rfl rfl fun A' R' w' ho hd=>by have a0:R' 6 = .int .i64 (p0.length:Int):=hd 0 _ _ _ rfl rfl rfl rfl rfl;have a1:R' 6 = .int .i64 (p0.length:Int):=hd 0 _ _ _ rfl rfl rfl rfl rfl;exact zIB a0 a1 e1 Try.underlying65 zLB Try.zeroValue82 (fun A w=>zBr zAe (zBr zAe zCr)) (Nat.le_trans hF.size ho.ch.size)) <|
      zA9.cons (OblR.took 2 _ _ rfl rfl rfl rfl rfl fun A' R' w' ho hd u hok hav hin hop hds=>by exact zCA (hop _ _ rfl rfl rfl rfl).symm hok hav) <|
      zA9.nil
  intro done ρ σ A R w hdn hI
  replace h0:R 0=v0:=(hI.reg rfl).trans h0
  obtain ⟨u2,e_u2⟩:∃ u,ρ 3=u:=⟨_,rfl⟩
  have h3:R 3=u2:=(hI.opvR hdn 3 3 rfl rfl rfl rfl rfl).symm.trans e_u2
  replace f_v0:=f_v0.stp hI.stp
  replace hAA:=hI.low' hAA hA0 (hO.ge (trivial))
  replace hF:Fr w0 w:=hF.tr hI.ch (hO.ge (trivial))
  replace hO:IniOK [ob u2 (.vec w0.heap.size 82 zA1 (List.replicate (p0.length:Int).toNat ((0:Int),((0:Int),false))))] A w:=hI.left hdn [(3,ob u2 (.vec w0.heap.size 82 zA1 (List.replicate (p0.length:Int).toNat ((0:Int),((0:Int),false)))))] ⟨rfl,rfl,e_u2,rfl,rfl,trivial⟩
  replace hA:=hI.avok
  clear hI
  refine HT.seq ?_
  refine HT.seq ?_
  refine HT.text (l:=⟨_,true,.raw (.int .i64 (0:Int))⟩::[]) (tl:=[]) (by kernel_rfl) (by kernel_rfl) (by kernel_rfl) ?_ ?_
  · exact
      Obls.cons (Obl.plain rfl rfl fun R' w' hw hs hd=>by exact zA6 rfl) <|
      Obls.nil
  intro R w hw hs hF'
  replace h0:R 0=v0:=(hs 0 rfl).trans h0
  replace h3:R 3=u2:=(hs 3 rfl).trans h3
  have h4:R 4 = .int .i64 (0:Int):=hF' 0 _ _ rfl rfl rfl
  replace f_v0:=f_v0.fr hw
  replace hO:=hO.fr hw
  replace hA:=hA.fr hw.size
  replace hF:=hF.trans hw
  clear hs hF' hw
  refine zA4 ?_
  obtain ⟨rl3,q4,hr⟩:=zAK hr
  replace q4:=q4 rfl
  refine HT.cut0 (fun R w=>∃ A:Av,∃ (s5:(List zA7)),rl3=s5∧AvOK A w∧Fr w0 w∧(∀ b o,A0 b o→A b o)∧IniOK [ob u2 (.vec w0.heap.size 82 zA1 s5)] A w∧R 3=u2) ?_ ?_
  · refine HT.block ?_
    refine HT.loop (fun k R w=>∃ A:Av,∃ (y6:Int) (y7:List zA7),zBk fu p0 k y6 y7=some rl3∧AvOK A w∧Fr w0 w∧(∀ b o,A0 b o→A b o)∧IniOK [ob u2 (.vec w0.heap.size 82 zA1 y7)] A w∧R 0=v0∧R 3=u2∧R 4 = .int .i64 y6∧Rep (eSl zA1) A w v0 p0) fu ⟨_,_,_,q4,hA,hF,hAA,hO,h0,h3,h4,f_v0⟩ ?_
    have hr0:=hr;clear hr q4
    rintro k R w ⟨A,y6,y7,hr,hA,hF,hAA,hO,h0,h3,h4,f_v0⟩
    rcases k with _ | k
    · cases (show none=some _ from hr)
    rw [zBk] at hr
    refine HT.seq ?_
    refine HT.seq ?_
    refine HT.text (l:=⟨_,true,.raw (.int .i64 y6)⟩::⟨_,true,.raw v0⟩::⟨_,true,.raw (.int .i64 (p0.length:Int))⟩::⟨_,true,.raw (.bool (decide (y6<(p0.length:Int))))⟩::[]) (tl:=[]) (by kernel_rfl) (by kernel_rfl) (by kernel_rfl) ?_ ?_
    · exact
        Obls.cons (Obl.plain rfl rfl fun R' w' hw hs hd=>by have a0:R' 4 = .int .i64 y6:=(hs 4 rfl).trans h4;exact zA5 a0) <|
        Obls.cons (Obl.plain rfl rfl fun R' w' hw hs hd=>by have a0:R' 0=v0:=(hs 0 rfl).trans h0;exact zA5 a0) <|
        Obls.cons (Obl.plain rfl rfl fun R' w' hw hs hd=>by have a0:R' 9=v0:=hd 0 _ _ _ rfl rfl rfl rfl rfl;have ra0:=(f_v0.fr hw).eq a0;exact zAd (aT:=#[]) ra0 Try.underlying88) <|
        Obls.cons (Obl.plain rfl rfl fun R' w' hw hs hd=>by have a0:R' 8 = .int .i64 y6:=hd 0 _ _ _ rfl rfl rfl rfl rfl;have a1:R' 10 = .int .i64 (p0.length:Int):=hd 1 _ _ _ rfl rfl rfl rfl rfl;exact zBI a0 a1) <|
        Obls.nil
    intro R w hw hs hF'
    replace h0:R 0=v0:=(hs 0 rfl).trans h0
    replace h3:R 3=u2:=(hs 3 rfl).trans h3
    replace h4:R 4 = .int .i64 y6:=(hs 4 rfl).trans h4
    have h11:R 11 = .bool (decide (y6<(p0.length:Int))):=hF' 3 _ _ rfl rfl rfl
    replace f_v0:=f_v0.fr hw
    replace hO:=hO.fr hw
    replace hA:=hA.fr hw.size
    replace hF:=hF.trans hw
    clear hs hF' hw
    refine zA4 ?_
    refine HT.cond (decide (y6<(p0.length:Int))) h11 (fun c8=>?_) (fun c8=>?_)
    · have hr := zAq c8 hr
      refine HT.skip ?_
      refine HT.seq ?_
      refine HT.block ?_
      obtain ⟨e9,hr⟩:=zAF hr
      obtain ⟨x10,q11,hr⟩:=zAK hr
      obtain ⟨e12,hr⟩:=zAF hr
      refine HT.textR [ob u2 (.vec w0.heap.size 82 zA1 y7)] (⟨_,true,[],none,true,fun A=>.raw u2⟩::⟨_,true,[],none,true,fun A=>.raw (.int .i64 y6)⟩::⟨_,true,[],none,true,fun A=>.raw v0⟩::⟨_,true,[],none,true,fun A=>.raw (.int .i64 y6)⟩::⟨_,true,[],none,true,fun A=>.qtr zA1 A (gtD p0 y6)⟩::⟨_,true,[],none,true,fun A=>.rep zA1 A (gtD p0 y6)⟩::⟨_,true,[],none,true,fun A=>.rep zA1 A x10⟩::⟨_,true,[],none,true,fun A=>.raw (vptr u2 (y6.toNat*3))⟩::⟨_,true,[0],some (.vec w0.heap.size 82 zA1 (y7.set y6.toNat x10)),false,fun A=>.any⟩::[]) (by kernel_rfl) (by kernel_rfl) (Wf.mk' (by kernel_rfl) (UAll.cons zAA (UAll.cons zAA (UAll.cons zAA (UAll.cons zAA (UAll.cons zCI (UAll.cons zAn (UAll.cons zAn (UAll.cons zAA (UAll.cons zAG (UAll.nil)))))))))) (by kernel_rfl) (by kernel_rfl)) hO hA ?_ ?_
      · exact
          zA9.cons (OblR.plain rfl rfl rfl rfl fun A' R' w' ho hd=>by have a0:R' 3=u2:=(ho.old 3 rfl).trans h3;exact zA5 a0) <|
          zA9.cons (OblR.plain rfl rfl rfl rfl fun A' R' w' ho hd=>by have a0:R' 4 = .int .i64 y6:=(ho.old 4 rfl).trans h4;exact zA5 a0) <|
          zA9.cons (OblR.plain rfl rfl rfl rfl fun A' R' w' ho hd=>by have a0:R' 0=v0:=(ho.old 0 rfl).trans h0;exact zA5 a0) <|
          zA9.cons (OblR.plain rfl rfl rfl rfl fun A' R' w' ho hd=>by have a0:R' 4 = .int .i64 y6:=(ho.old 4 rfl).trans h4;exact zA5 a0) <|
          zA9.cons (OblR.plain rfl rfl rfl rfl fun A' R' w' ho hd=>by have a0:R' 16=v0:=hd 0 _ _ _ rfl rfl rfl rfl rfl;have a1:R' 17 = .int .i64 y6:=hd 1 _ _ _ rfl rfl rfl rfl rfl;have ra0:=(f_v0.stp ho.stp).eq a0;exact zAN ra0 a1 Try.underlying88 Try.sizeOf130 e9) <|
          zA9.cons (OblR.plain rfl rfl rfl rfl fun A' R' w' ho hd=>by have a0:QRep zA1 A' w' (R' 18) (gtD p0 y6):=hd 0 _ _ _ rfl rfl rfl rfl rfl;exact (zAv a0.ptr Try.isAgg130 Try.sizeOf130)) <|
          zA9.cons (OblR.plain rfl rfl rfl rfl fun A' R' w' ho hd=>by have a0:Rep zA1 A' w' (R' 19) (gtD p0 y6):=hd 0 _ _ _ rfl rfl rfl rfl rfl;exact zAl Try.call107 (zG9 (q11 rfl) ho.av a0)) <|
          zA9.cons (OblR.plain rfl rfl rfl rfl fun A' R' w' ho hd=>by have a0:R' 14=u2:=hd 0 _ _ _ rfl rfl rfl rfl rfl;have a1:R' 15 = .int .i64 y6:=hd 1 _ _ _ rfl rfl rfl rfl rfl;exact zAr (hO.ok 0 _ rfl).1 a0 a1 Try.underlying65 Try.sizeOf82 e12 rfl) <|
          zA9.cons (OblR.took 0 _ _ rfl rfl rfl rfl rfl fun A' R' w' ho hd u hok hav hin hop hds=>by have a0:R' 21=(vptr u2 (y6.toNat*3)):=hd 0 _ _ _ rfl rfl rfl rfl rfl;have a1:Rep zA1 A' w' (R' 20) x10:=hd 1 _ _ _ rfl rfl rfl rfl rfl;obtain rfl:=hin _ rfl;exact zC8 a1 hok hav a0 e12 rfl (FldS.id _) Try.sizeOf82 rfl) <|
          zA9.nil
      intro done ρ σ A R w hdn hI
      replace h0:R 0=v0:=(hI.reg rfl).trans h0
      replace h3:R 3=u2:=(hI.reg rfl).trans h3
      replace h4:R 4 = .int .i64 y6:=(hI.reg rfl).trans h4
      have z13:=hI.inivR 0 rfl
      have z14:=(hI.opnR hdn 9 8 rfl rfl rfl rfl rfl).trans z13
      replace f_v0:=f_v0.stp hI.stp
      replace hAA:=hI.low' hAA hA0 (hO.ge (⟨rfl,trivial⟩))
      replace hF:Fr w0 w:=hF.tr hI.ch (hO.ge (⟨rfl,trivial⟩))
      replace hO:IniOK [ob u2 (.vec w0.heap.size 82 zA1 (y7.set y6.toNat x10))] A w:=hI.left hdn [(9,ob u2 (.vec w0.heap.size 82 zA1 (y7.set y6.toNat x10)))] ⟨rfl,rfl,z14,rfl,rfl,trivial⟩
      replace hA:=hI.avok
      clear hI
      obtain ⟨e15,hr⟩:=zAF hr
      refine HT.text (l:=⟨_,true,.raw (.int .i64 y6)⟩::⟨_,true,.raw (.int .i64 (y6+(1:Int)))⟩::⟨_,true,.raw (.int .i64 (y6+(1:Int)))⟩::[]) (tl:=[]) (by kernel_rfl) (by kernel_rfl) (by kernel_rfl) ?_ ?_
      · exact
          Obls.cons (Obl.plain rfl rfl fun R' w' hw hs hd=>by have a0:R' 4 = .int .i64 y6:=(hs 4 rfl).trans h4;exact zA5 a0) <|
          Obls.cons (Obl.plain rfl rfl fun R' w' hw hs hd=>by have a0:R' 12 = .int .i64 y6:=hd 0 _ _ _ rfl rfl rfl rfl rfl;exact zB8 a0 rfl e15) <|
          Obls.cons (Obl.plain rfl rfl fun R' w' hw hs hd=>by have a0:R' 13 = .int .i64 (y6+(1:Int)):=hd 0 _ _ _ rfl rfl rfl rfl rfl;exact zA6 a0) <|
          Obls.nil
      intro R w hw hs hF'
      replace h0:R 0=v0:=(hs 0 rfl).trans h0
      replace h3:R 3=u2:=(hs 3 rfl).trans h3
      have h4:R 4 = .int .i64 (y6+(1:Int)):=hF' 2 _ _ rfl rfl rfl
      replace f_v0:=f_v0.fr hw
      replace hO:=hO.fr hw
      replace hA:=hA.fr hw.size
      replace hF:=hF.trans hw
      clear hs hF' hw
      refine zA4 ?_
      exact Exists.intro k (And.intro (Nat.lt_succ_self k) ⟨_,_,_,hr,hA,hF,hAA,hO,h0,h3,h4,f_v0⟩)
    · have hr := zAp c8 hr
      refine HT.exit ?_
      obtain rfl:=Option.some.inj hr
      exact Exists.intro _ ⟨_,rfl,hA,hF,hAA,hO,h3⟩
  rintro R w ⟨A,s5,es,hA,hF,hAA,hO,h3⟩
  obtain rfl:=es.symm
  refine HT.seq ?_
  refine HT.text (l:=⟨_,true,.raw u2⟩::⟨_,true,.raw u2⟩::[]) (tl:=[]) (by kernel_rfl) (by kernel_rfl) (by kernel_rfl) ?_ ?_
  · exact
      Obls.cons (Obl.plain rfl rfl fun R' w' hw hs hd=>by have a0:R' 3=u2:=(hs 3 rfl).trans h3;exact zA5 a0) <|
      Obls.cons (Obl.plain rfl rfl fun R' w' hw hs hd=>by have a0:R' 22=u2:=hd 0 _ _ _ rfl rfl rfl rfl rfl;exact zA6 a0) <|
      Obls.nil
  intro R w hw hs hF'
  have h2:R 2=u2:=hF' 1 _ _ rfl rfl rfl
  replace hO:=hO.fr hw
  replace hA:=hA.fr hw.size
  replace hF:=hF.trans hw
  clear hs hF' hw
  refine zA4 ?_
  refine HT.ret ?_
  obtain rfl:=Option.some.inj hr
  exact ⟨.inr rfl,[R 2],⟨rfl,trivial⟩,(zF1 (hO.ok 0 _ rfl) hAA h2),hF⟩
def zD9 (fu:Nat) (p0:zBg):Option zAO:=
  cl true (zCp fu p0) fun x8=>
  some x8
set_option maxRecDepth 100000 in
set_option maxHeartbeats 4000000 in
theorem zGC {fu : Nat} {A0 : Av} {p0 : zBg} {r : zAO} (hr : zD9 fu p0 = some r) {w : World} {v0 : Value} (hA : AvOK A0 w) (h0 : Rep zAW A0 w v0 p0) :
    Calls Try.prog 59 #[v0] w fun e w'=>∃ v,e = .returned v∧(zDo A0 (trR (geB w.heap.size) (oBx (oSl 82 (oRd zA1))) r []) (fun _=>.any) w v w'):=by
  unfold zD9 at hr
  obtain ⟨w0,hw0⟩:∃ w0,w0=w:=⟨_,rfl⟩
  have hF:Fr w0 w:=hw0 ▸ Fr.refl _
  have hA0:∀ b o,A0 b o→b<w0.heap.size:=fun b o h=>hw0 ▸ hA b o h
  have hA00:AvOK A0 w0:=hA0
  rw [show zDo A0 (trR (geB w.heap.size) (oBx (oSl 82 (oRd zA1))) r []) (fun _=>.any) w=zDo A0 (trR (geB w0.heap.size) (oBx (oSl 82 (oRd zA1))) r []) (fun _=>.any) w0 from hw0 ▸ rfl]
  clear hw0
  obtain ⟨A,hAe⟩:∃ A,A=A0:=⟨_,rfl⟩
  have hAA:∀ b o,A0 b o→A b o:=fun b o h=>hAe ▸ h
  replace hA:AvOK A w:=hAe ▸ hA
  have hO:IniOK [] A w:=IniOK.nil
  refine zAI [.cell 2 79] Try.func59 Try.ntmps59 (by decide) rfl rfl (Nat.le_of_ble_eq_true rfl) ?_
  intro R hR
  have f_v0:Rep zAW A w v0 p0:=hAe ▸ h0
  replace h0:R 0=v0:=hR 0 _ rfl
  clear hR hAe
  refine HT.seq ?_
  refine HT.textR [] (⟨_,true,[],some (.box w0.heap.size 90 zAW p0),true,fun A=>.any⟩::⟨_,true,[],some (trR (geB w0.heap.size) (oPt 79 (oBx (oSl 82 (oRd zA1)))) ([]:List zA7) []),true,fun A=>.any⟩::[]) (by kernel_rfl) (by kernel_rfl) (Wf.mk' (by kernel_rfl) (UAll.cons zAG (UAll.cons zAG (UAll.nil))) (by kernel_rfl) (by kernel_rfl)) hO hA ?_ ?_
  · exact
      zA9.cons (OblR.made _ rfl rfl rfl rfl fun A' R' w' ho hd=>by have a0:R' 0=v0:=(ho.old 0 rfl).trans h0;have ra0:=(f_v0.stp ho.stp).eq a0;exact zB9 ra0 (Nat.le_trans hF.size ho.ch.size)) <|
      zA9.cons (OblR.madeS _ rfl rfl rfl rfl fun A' R' w' ho hd=>by exact zCU Try.zeroValue79 (fun A w=>zDg) (fun k hk=>Nat.le_trans (Nat.le_trans hF.size ho.ch.size) hk)) <|
      zA9.nil
  intro done ρ σ A R w hdn hI
  obtain ⟨b1_0,e_b1_0⟩:=hI.boxv hdn 0 rfl rfl
  have h1:R 1=(.pointer (some ⟨b1_0,0,none⟩)):=(hI.opvR hdn 0 0 rfl rfl rfl rfl rfl).symm.trans e_b1_0
  obtain ⟨u2,e_u2⟩:∃ u,ρ 1=u:=⟨_,rfl⟩
  have h2:R 2=u2:=(hI.opvR hdn 1 1 rfl rfl rfl rfl rfl).symm.trans e_u2
  obtain ⟨S3,eS_u2⟩:∃ S,σ 1=S:=⟨_,rfl⟩
  replace hAA:=hI.low' hAA hA0 (hO.ge (trivial))
  replace hF:Fr w0 w:=hF.tr hI.ch (hO.ge (trivial))
  replace hO:IniOK [ob (.pointer (some ⟨b1_0,0,none⟩)) (.box w0.heap.size 90 zAW p0),⟨u2,S3,trR (geB w0.heap.size) (oPt 79 (oBx (oSl 82 (oRd zA1)))) ([]:List zA7) []⟩] A w:=hI.left hdn [(0,ob (.pointer (some ⟨b1_0,0,none⟩)) (.box w0.heap.size 90 zAW p0)),(1,⟨u2,S3,trR (geB w0.heap.size) (oPt 79 (oBx (oSl 82 (oRd zA1)))) ([]:List zA7) []⟩)] ⟨rfl,rfl,e_b1_0,rfl,rfl,⟨rfl,rfl,e_u2,eS_u2,rfl,trivial⟩⟩
  replace hA:=hI.avok
  clear hI
  refine HT.seq ?_
  refine HT.textR [ob (.pointer (some ⟨b1_0,0,none⟩)) (.box w0.heap.size 90 zAW p0),⟨u2,S3,trR (geB w0.heap.size) (oPt 79 (oBx (oSl 82 (oRd zA1)))) ([]:List zA7) []⟩] (⟨_,true,[],some (trR (geB w0.heap.size) (oPt 79 (oBx (oSl 82 (oRd zA1)))) ([]:List zA7) []),true,fun A=>.any⟩::[]) (by kernel_rfl) (by kernel_rfl) (Wf.mk' (by kernel_rfl) (UAll.cons zAG (UAll.nil)) (by kernel_rfl) (by kernel_rfl)) hO hA ?_ ?_
  · exact
      zA9.cons (OblR.madeS _ rfl rfl rfl rfl fun A' R' w' ho hd=>by exact zCU Try.zeroValue79 (fun A w=>zDg) (fun k hk=>Nat.le_trans (Nat.le_trans hF.size ho.ch.size) hk)) <|
      zA9.nil
  intro done ρ σ A R w hdn hI
  replace h1:R 1=(.pointer (some ⟨b1_0,0,none⟩)):=(hI.reg rfl).trans h1
  replace h2:R 2=u2:=(hI.reg rfl).trans h2
  have z4:=hI.inivR 0 rfl
  have z5:=hI.inivR 1 rfl
  obtain ⟨u6,e_u6⟩:∃ u,ρ 2=u:=⟨_,rfl⟩
  have h3:R 3=u6:=(hI.opvR hdn 2 0 rfl rfl rfl rfl rfl).symm.trans e_u6
  have eS_u2:=hI.inisR 1 rfl
  obtain ⟨S7,eS_u6⟩:∃ S,σ 2=S:=⟨_,rfl⟩
  replace hAA:=hI.low' hAA hA0 (hO.ge (⟨rfl,⟨fun _ h=>h,trivial⟩⟩))
  replace hF:Fr w0 w:=hF.tr hI.ch (hO.ge (⟨rfl,⟨fun _ h=>h,trivial⟩⟩))
  replace hO:IniOK [ob (.pointer (some ⟨b1_0,0,none⟩)) (.box w0.heap.size 90 zAW p0),⟨u2,S3,trR (geB w0.heap.size) (oPt 79 (oBx (oSl 82 (oRd zA1)))) ([]:List zA7) []⟩,⟨u6,S7,trR (geB w0.heap.size) (oPt 79 (oBx (oSl 82 (oRd zA1)))) ([]:List zA7) []⟩] A w:=hI.left hdn [(0,ob (.pointer (some ⟨b1_0,0,none⟩)) (.box w0.heap.size 90 zAW p0)),(1,⟨u2,S3,trR (geB w0.heap.size) (oPt 79 (oBx (oSl 82 (oRd zA1)))) ([]:List zA7) []⟩),(2,⟨u6,S7,trR (geB w0.heap.size) (oPt 79 (oBx (oSl 82 (oRd zA1)))) ([]:List zA7) []⟩)] ⟨rfl,rfl,z4,rfl,rfl,⟨rfl,rfl,z5,eS_u2,rfl,⟨rfl,rfl,e_u6,eS_u6,rfl,trivial⟩⟩⟩
  replace hA:=hI.avok
  clear hI
  refine HT.seq ?_
  obtain ⟨x8,q9,hr⟩:=zAK hr
  refine HT.textR [ob (.pointer (some ⟨b1_0,0,none⟩)) (.box w0.heap.size 90 zAW p0),⟨u2,S3,trR (geB w0.heap.size) (oPt 79 (oBx (oSl 82 (oRd zA1)))) ([]:List zA7) []⟩,⟨u6,S7,trR (geB w0.heap.size) (oPt 79 (oBx (oSl 82 (oRd zA1)))) ([]:List zA7) []⟩] (⟨_,true,[],none,true,fun A=>.raw (.pointer (some ⟨b1_0,0,none⟩))⟩::⟨_,true,[],none,true,fun A=>.rep (eSl zA1) A p0⟩::⟨_,true,[],some (.vec w0.heap.size 82 zA1 x8),true,fun A=>.any⟩::⟨_,true,[],none,true,fun A=>.raw u6⟩::⟨_,true,[2,5],some (trR (geB w0.heap.size) (oPt 79 (oBx (oSl 82 (oRd zA1)))) x8 []),false,fun A=>.any⟩::[]) (by kernel_rfl) (by kernel_rfl) (Wf.mk' (by kernel_rfl) (UAll.cons zAA (UAll.cons zAn (UAll.cons zAG (UAll.cons zAA (UAll.cons zAG (UAll.nil)))))) (by kernel_rfl) (by kernel_rfl)) hO hA ?_ ?_
  · exact
      zA9.cons (OblR.plain rfl rfl rfl rfl fun A' R' w' ho hd=>by have a0:R' 1=(.pointer (some ⟨b1_0,0,none⟩)):=(ho.old 1 rfl).trans h1;exact zAB a0 zKC Try.sizeOf88 (by decide) rfl) <|
      zA9.cons (OblR.plain rfl rfl rfl rfl fun A' R' w' ho hd=>by have a0:R' 4=(.pointer (some ⟨b1_0,0,none⟩)):=hd 0 _ _ _ rfl rfl rfl rfl rfl;exact (zAD (ho.rd 0 _ rfl rfl) a0 zF7 rfl Try.isAgg88 Try.sizeOf88)) <|
      zA9.cons (OblR.made _ rfl rfl rfl rfl fun A' R' w' ho hd=>by have a0:Rep (eSl zA1) A' w' (R' 5) p0:=hd 0 _ _ _ rfl rfl rfl rfl rfl;exact zHw Try.call91 (zFt (q9 rfl) ho.av a0) (Nat.le_trans hF.size ho.ch.size)) <|
      zA9.cons (OblR.plain rfl rfl rfl rfl fun A' R' w' ho hd=>by have a0:R' 3=u6:=(ho.old 3 rfl).trans h3;exact zAb ((zAJ (hO.own 2 _ rfl).2).ptr).ad a0 zDV Try.sizeOf65 (by decide) (zEf ((zAJ (hO.own 2 _ rfl).2).ptr).ad)) <|
      zA9.cons (OblR.tookM 2 [5] _ rfl rfl rfl rfl fun A' R' w' ho hd ρ σ hok hav hin hop hds hdd=>by have a0:R' 7=u6:=hd 0 _ _ _ rfl rfl rfl rfl rfl;have k1:=hok 2 (.head _) _ rfl;have e0:=(hin 2 (.head _) _ rfl).1;rw [e0] at k1 ⊢;exact zCu rfl ((zAJ k1.2.2).ptr).bx (zGg (hok 5 (.tail _ (.head _)) _ rfl).1 (hok 5 (.tail _ (.head _)) _ rfl).2) (hop 5 (.tail _ (.head _)) _ _ rfl rfl rfl rfl).symm a0 hav hdd k1.2.1 (zL4 (hok 5 (.tail _ (.head _)) _ rfl).1 (hok 5 (.tail _ (.head _)) _ rfl).2) Try.sizeOf65 (fun _ _ _ h=>h)) <|
      zA9.nil
  intro done ρ σ A R w hdn hI
  replace h2:R 2=u2:=(hI.reg rfl).trans h2
  replace h3:R 3=u6:=(hI.reg rfl).trans h3
  have z10:=hI.inivR 0 rfl
  have z11:=hI.inivR 1 rfl
  have z12:=hI.inivR 2 rfl
  have z13:=(hI.opnR hdn 7 4 rfl rfl rfl rfl rfl).trans z12
  have eS_u2:=hI.inisR 1 rfl
  obtain ⟨S14,eS_u6⟩:∃ S,σ 7=S:=⟨_,rfl⟩
  replace hAA:=hI.low' hAA hA0 (hO.ge (⟨rfl,⟨fun _ h=>h,⟨fun _ h=>h,trivial⟩⟩⟩))
  replace hF:Fr w0 w:=hF.tr hI.ch (hO.ge (⟨rfl,⟨fun _ h=>h,⟨fun _ h=>h,trivial⟩⟩⟩))
  replace hO:IniOK [⟨u2,S3,trR (geB w0.heap.size) (oPt 79 (oBx (oSl 82 (oRd zA1)))) ([]:List zA7) []⟩,⟨u6,S14,trR (geB w0.heap.size) (oPt 79 (oBx (oSl 82 (oRd zA1)))) x8 []⟩] A w:=hI.left hdn [(1,⟨u2,S3,trR (geB w0.heap.size) (oPt 79 (oBx (oSl 82 (oRd zA1)))) ([]:List zA7) []⟩),(7,⟨u6,S14,trR (geB w0.heap.size) (oPt 79 (oBx (oSl 82 (oRd zA1)))) x8 []⟩)] ⟨rfl,rfl,z11,eS_u2,rfl,⟨rfl,rfl,z13,eS_u6,rfl,trivial⟩⟩
  replace hA:=hI.avok
  clear hI
  refine HT.seq ?_
  refine HT.textR [⟨u2,S3,trR (geB w0.heap.size) (oPt 79 (oBx (oSl 82 (oRd zA1)))) ([]:List zA7) []⟩,⟨u6,S14,trR (geB w0.heap.size) (oPt 79 (oBx (oSl 82 (oRd zA1)))) x8 []⟩] (⟨_,true,[1],some (trR (geB w0.heap.size) (oBx (oSl 82 (oRd zA1))) x8 []),true,fun A=>.any⟩::⟨_,true,[0,2],some (trR (geB w0.heap.size) (oPt 79 (oBx (oSl 82 (oRd zA1)))) x8 []),false,fun A=>.any⟩::[]) (by kernel_rfl) (by kernel_rfl) (Wf.mk' (by kernel_rfl) (UAll.cons zAG (UAll.cons zAG (UAll.nil))) (by kernel_rfl) (by kernel_rfl)) hO hA ?_ ?_
  · exact
      zA9.cons (OblR.tookS 1 _ _ rfl rfl rfl rfl rfl fun A' R' w' ho hd u S hok hown hav hin hop hds=>by have a0:R' 3=u6:=(ho.old 3 rfl).trans h3;exact zH1 hown.2 (a0.trans (hin _ rfl).1.symm) hav hown.1 Try.isAgg79 Try.sizeOf79) <|
      zA9.cons (OblR.tookM 0 [2] _ rfl rfl rfl rfl fun A' R' w' ho hd ρ σ hok hav hin hop hds hdd=>by have a0:R' 2=u2:=(ho.old 2 rfl).trans h2;have k1:=hok 0 (.head _) _ rfl;have e0:=(hin 0 (.head _) _ rfl).1;rw [e0] at k1 ⊢;exact zCu rfl (zAJ k1.2.2).ptr (hok 2 (.tail _ (.head _)) _ rfl).2.2.1 (hop 2 (.tail _ (.head _)) _ _ rfl rfl rfl rfl).symm a0 hav hdd k1.2.1 (hok 2 (.tail _ (.head _)) _ rfl).2.1 Try.sizeOf79 (fun _ _ _ h=>h)) <|
      zA9.nil
  intro done ρ σ A R w hdn hI
  replace h2:R 2=u2:=(hI.reg rfl).trans h2
  have z15:=hI.inivR 0 rfl
  have z16:=(hI.opnR hdn 3 1 rfl rfl rfl rfl rfl).trans z15
  obtain ⟨S17,eS_u2⟩:∃ S,σ 3=S:=⟨_,rfl⟩
  replace hAA:=hI.low' hAA hA0 (hO.ge (⟨fun _ h=>h,⟨fun _ h=>h,trivial⟩⟩))
  replace hF:Fr w0 w:=hF.tr hI.ch (hO.ge (⟨fun _ h=>h,⟨fun _ h=>h,trivial⟩⟩))
  replace hO:IniOK [⟨u2,S17,trR (geB w0.heap.size) (oPt 79 (oBx (oSl 82 (oRd zA1)))) x8 []⟩] A w:=hI.left hdn [(3,⟨u2,S17,trR (geB w0.heap.size) (oPt 79 (oBx (oSl 82 (oRd zA1)))) x8 []⟩)] ⟨rfl,rfl,z16,eS_u2,rfl,trivial⟩
  replace hA:=hI.avok
  clear hI
  refine HT.ret ?_
  obtain rfl:=Option.some.inj hr
  obtain ⟨v_,e_,p_⟩:=zF6 (T:=79) (f:=fun _=>.any) rfl (hO.own 0 _ rfl) (hO.ok 0 _ rfl).2 hAA hF h2 Try.isAgg79 Try.sizeOf79 (fun _ _=>trivial)
  exact ⟨.inr rfl,[v_],⟨e_,trivial⟩,p_⟩
def zBi (fu : Nat) (p0 : List zBg) : Nat → Int → (List zAO) → Option (List zAO)
  | 0,_,_=>none
  | k+1,y7,y8=>
    bif (decide (y7 < (p0.length : Int))) then (
      ck (inR y7 p0.length) <|
      cl true (zD9 fu (gtD p0 y7)) fun x11=>
      ck (inR y7 y8.length) <|
      ck (i64B (y7+(1:Int))) <|
      zBi fu p0 k (y7+(1:Int)) (y8.set y7.toNat x11)
    ) else (
      some y8
    )
def zCt (fu:Nat) (p0:List zBg):Option (List zAO):=
  ck (mkOK (p0.length:Int)) <|
  cl true (zBi fu p0 fu (0:Int) (List.replicate (p0.length:Int).toNat ([]:List zA7))) fun s6=>
  some s6
set_option maxRecDepth 100000 in
set_option maxHeartbeats 4000000 in
theorem zFh {fu : Nat} {A0 : Av} {p0 : List zBg} {r : List zAO} (hr : zCt fu p0 = some r) {w : World} {v0 : Value} (hA : AvOK A0 w) (h0 : Rep (eSl zAW) A0 w v0 p0) :
    Calls Try.prog 33 #[v0] w fun e w'=>∃ v,e = .returned v∧(zDo A0 (trR (geB w.heap.size) (oSl 79 (oBx (oSl 82 (oRd zA1)))) r []) (fun _=>.any) w v w'):=by
  unfold zCt at hr
  obtain ⟨w0,hw0⟩:∃ w0,w0=w:=⟨_,rfl⟩
  have hF:Fr w0 w:=hw0 ▸ Fr.refl _
  have hA0:∀ b o,A0 b o→b<w0.heap.size:=fun b o h=>hw0 ▸ hA b o h
  have hA00:AvOK A0 w0:=hA0
  rw [show zDo A0 (trR (geB w.heap.size) (oSl 79 (oBx (oSl 82 (oRd zA1)))) r []) (fun _=>.any) w=zDo A0 (trR (geB w0.heap.size) (oSl 79 (oBx (oSl 82 (oRd zA1)))) r []) (fun _=>.any) w0 from hw0 ▸ rfl]
  clear hw0
  obtain ⟨A,hAe⟩:∃ A,A=A0:=⟨_,rfl⟩
  have hAA:∀ b o,A0 b o→A b o:=fun b o h=>hAe ▸ h
  replace hA:AvOK A w:=hAe ▸ hA
  have hO:IniOK [] A w:=IniOK.nil
  refine zAI [.tmp 2] Try.func33 Try.ntmps33 (by decide) rfl rfl (Nat.le_of_ble_eq_true rfl) ?_
  intro R hR
  have f_v0:Rep (eSl zAW) A w v0 p0:=hAe ▸ h0
  replace h0:R 0=v0:=hR 0 _ rfl
  clear hR hAe
  refine HT.seq ?_
  refine HT.text (l:=⟨_,true,.any⟩::[]) (tl:=[]) (by kernel_rfl) (by kernel_rfl) (by kernel_rfl) ?_ ?_
  · exact
      Obls.cons (Obl.plain rfl rfl fun R' w' hw hs hd=>by exact zA6 trivial) <|
      Obls.nil
  intro R w hw hs hF'
  replace h0:R 0=v0:=(hs 0 rfl).trans h0
  replace f_v0:=f_v0.fr hw
  replace hO:=hO.fr hw
  replace hA:=hA.fr hw.size
  replace hF:=hF.trans hw
  clear hs hF' hw
  refine zA4 ?_
  refine HT.seq ?_
  obtain ⟨e1,hr⟩:=zAF hr
  refine HT.textR [] (⟨_,true,[],none,true,fun A=>.raw v0⟩::⟨_,true,[],none,true,fun A=>.raw (.int .i64 (p0.length:Int))⟩::⟨_,true,[],some (trR (geB w0.heap.size) (oSl 79 (oBx (oSl 82 (oRd zA1)))) (List.replicate (p0.length:Int).toNat ([]:List zA7)) []),true,fun A=>.any⟩::⟨_,true,[2],some (trR (geB w0.heap.size) (oSl 79 (oBx (oSl 82 (oRd zA1)))) (List.replicate (p0.length:Int).toNat ([]:List zA7)) []),true,fun A=>.any⟩::[]) (by kernel_rfl) (by kernel_rfl) (Wf.mk' (by kernel_rfl) (UAll.cons zAA (UAll.cons zAA (UAll.cons zAG (UAll.cons zAG (UAll.nil))))) (by kernel_rfl) (by kernel_rfl)) hO hA ?_ ?_
  · exact
      zA9.cons (OblR.plain rfl rfl rfl rfl fun A' R' w' ho hd=>by have a0:R' 0=v0:=(ho.old 0 rfl).trans h0;exact zA5 a0) <|
      zA9.cons (OblR.plain rfl rfl rfl rfl fun A' R' w' ho hd=>by have a0:R' 5=v0:=hd 0 _ _ _ rfl rfl rfl rfl rfl;have ra0:=(f_v0.stp ho.stp).eq a0;exact zAd (aT:=#[]) ra0 Try.underlying22) <|
      zA9.cons (OblR.madeS _ rfl rfl rfl rfl fun A' R' w' ho hd=>by have a0:R' 6 = .int .i64 (p0.length:Int):=hd 0 _ _ _ rfl rfl rfl rfl rfl;have a1:R' 6 = .int .i64 (p0.length:Int):=hd 0 _ _ _ rfl rfl rfl rfl rfl;exact zJJ a0 a1 e1 Try.underlying27 zMN Try.zeroValue79 (fun A w=>zDg) (fun k hk=>Nat.le_trans (Nat.le_trans hF.size ho.ch.size) hk)) <|
      zA9.cons (OblR.tookS 2 _ _ rfl rfl rfl rfl rfl fun A' R' w' ho hd u S hok hown hav hin hop hds=>by exact zG0 (hop _ _ rfl rfl rfl rfl).symm (trP.nopin hown.2) hav hown.1) <|
      zA9.nil
  intro done ρ σ A R w hdn hI
  replace h0:R 0=v0:=(hI.reg rfl).trans h0
  obtain ⟨u2,e_u2⟩:∃ u,ρ 3=u:=⟨_,rfl⟩
  have h3:R 3=u2:=(hI.opvR hdn 3 3 rfl rfl rfl rfl rfl).symm.trans e_u2
  obtain ⟨S3,eS_u2⟩:∃ S,σ 3=S:=⟨_,rfl⟩
  replace f_v0:=f_v0.stp hI.stp
  replace hAA:=hI.low' hAA hA0 (hO.ge (trivial))
  replace hF:Fr w0 w:=hF.tr hI.ch (hO.ge (trivial))
  replace hO:IniOK [⟨u2,S3,trR (geB w0.heap.size) (oSl 79 (oBx (oSl 82 (oRd zA1)))) (List.replicate (p0.length:Int).toNat ([]:List zA7)) []⟩] A w:=hI.left hdn [(3,⟨u2,S3,trR (geB w0.heap.size) (oSl 79 (oBx (oSl 82 (oRd zA1)))) (List.replicate (p0.length:Int).toNat ([]:List zA7)) []⟩)] ⟨rfl,rfl,e_u2,eS_u2,rfl,trivial⟩
  replace hA:=hI.avok
  clear hI
  refine HT.seq ?_
  refine HT.seq ?_
  refine HT.text (l:=⟨_,true,.raw (.int .i64 (0:Int))⟩::[]) (tl:=[]) (by kernel_rfl) (by kernel_rfl) (by kernel_rfl) ?_ ?_
  · exact
      Obls.cons (Obl.plain rfl rfl fun R' w' hw hs hd=>by exact zA6 rfl) <|
      Obls.nil
  intro R w hw hs hF'
  replace h0:R 0=v0:=(hs 0 rfl).trans h0
  replace h3:R 3=u2:=(hs 3 rfl).trans h3
  have h4:R 4 = .int .i64 (0:Int):=hF' 0 _ _ rfl rfl rfl
  replace f_v0:=f_v0.fr hw
  replace hO:=hO.fr hw
  replace hA:=hA.fr hw.size
  replace hF:=hF.trans hw
  clear hs hF' hw
  refine zA4 ?_
  obtain ⟨rl4,q5,hr⟩:=zAK hr
  replace q5:=q5 rfl
  refine HT.cut0 (fun R w=>∃ A:Av,∃ (s6:(List zAO)) (So_u2:Nat→Prop),rl4=s6∧AvOK A w∧Fr w0 w∧(∀ b o,A0 b o→A b o)∧IniOK [⟨u2,So_u2,trR (geB w0.heap.size) (oSl 79 (oBx (oSl 82 (oRd zA1)))) s6 []⟩] A w∧R 3=u2) ?_ ?_
  · refine HT.block ?_
    refine HT.loop (fun k R w=>∃ A:Av,∃ (y7:Int) (y8:List zAO) (Sl_u2:Nat→Prop),zBi fu p0 k y7 y8=some rl4∧AvOK A w∧Fr w0 w∧(∀ b o,A0 b o→A b o)∧IniOK [⟨u2,Sl_u2,trR (geB w0.heap.size) (oSl 79 (oBx (oSl 82 (oRd zA1)))) y8 []⟩] A w∧R 0=v0∧R 3=u2∧R 4 = .int .i64 y7∧Rep (eSl zAW) A w v0 p0) fu ⟨_,_,_,S3,q5,hA,hF,hAA,hO,h0,h3,h4,f_v0⟩ ?_
    have hr0:=hr;clear hr q5
    rintro k R w ⟨A,y7,y8,Sl_u2,hr,hA,hF,hAA,hO,h0,h3,h4,f_v0⟩
    rcases k with _ | k
    · cases (show none=some _ from hr)
    rw [zBi] at hr
    refine HT.seq ?_
    refine HT.seq ?_
    refine HT.text (l:=⟨_,true,.raw (.int .i64 y7)⟩::⟨_,true,.raw v0⟩::⟨_,true,.raw (.int .i64 (p0.length:Int))⟩::⟨_,true,.raw (.bool (decide (y7<(p0.length:Int))))⟩::[]) (tl:=[]) (by kernel_rfl) (by kernel_rfl) (by kernel_rfl) ?_ ?_
    · exact
        Obls.cons (Obl.plain rfl rfl fun R' w' hw hs hd=>by have a0:R' 4 = .int .i64 y7:=(hs 4 rfl).trans h4;exact zA5 a0) <|
        Obls.cons (Obl.plain rfl rfl fun R' w' hw hs hd=>by have a0:R' 0=v0:=(hs 0 rfl).trans h0;exact zA5 a0) <|
        Obls.cons (Obl.plain rfl rfl fun R' w' hw hs hd=>by have a0:R' 9=v0:=hd 0 _ _ _ rfl rfl rfl rfl rfl;have ra0:=(f_v0.fr hw).eq a0;exact zAd (aT:=#[]) ra0 Try.underlying22) <|
        Obls.cons (Obl.plain rfl rfl fun R' w' hw hs hd=>by have a0:R' 8 = .int .i64 y7:=hd 0 _ _ _ rfl rfl rfl rfl rfl;have a1:R' 10 = .int .i64 (p0.length:Int):=hd 1 _ _ _ rfl rfl rfl rfl rfl;exact zBI a0 a1) <|
        Obls.nil
    intro R w hw hs hF'
    replace h0:R 0=v0:=(hs 0 rfl).trans h0
    replace h3:R 3=u2:=(hs 3 rfl).trans h3
    replace h4:R 4 = .int .i64 y7:=(hs 4 rfl).trans h4
    have h11:R 11 = .bool (decide (y7<(p0.length:Int))):=hF' 3 _ _ rfl rfl rfl
    replace f_v0:=f_v0.fr hw
    replace hO:=hO.fr hw
    replace hA:=hA.fr hw.size
    replace hF:=hF.trans hw
    clear hs hF' hw
    refine zA4 ?_
    refine HT.cond (decide (y7<(p0.length:Int))) h11 (fun c9=>?_) (fun c9=>?_)
    · have hr := zAq c9 hr
      refine HT.skip ?_
      refine HT.seq ?_
      refine HT.block ?_
      obtain ⟨e10,hr⟩:=zAF hr
      obtain ⟨x11,q12,hr⟩:=zAK hr
      obtain ⟨e13,hr⟩:=zAF hr
      refine HT.textR [⟨u2,Sl_u2,trR (geB w0.heap.size) (oSl 79 (oBx (oSl 82 (oRd zA1)))) y8 []⟩] (⟨_,true,[],none,true,fun A=>.raw u2⟩::⟨_,true,[],none,true,fun A=>.raw (.int .i64 y7)⟩::⟨_,true,[],none,true,fun A=>.raw v0⟩::⟨_,true,[],none,true,fun A=>.raw (.int .i64 y7)⟩::⟨_,true,[],none,true,fun A=>.qtr zAW A (gtD p0 y7)⟩::⟨_,true,[],none,true,fun A=>.rep zAW A (gtD p0 y7)⟩::⟨_,true,[],some (trR (geB w0.heap.size) (oBx (oSl 82 (oRd zA1))) x11 []),true,fun A=>.any⟩::⟨_,true,[],none,true,fun A=>.raw (vptr u2 (y7.toNat*1))⟩::⟨_,true,[0,7],some (trR (geB w0.heap.size) (oSl 79 (oBx (oSl 82 (oRd zA1)))) (y8.set y7.toNat x11) []),false,fun A=>.any⟩::[]) (by kernel_rfl) (by kernel_rfl) (Wf.mk' (by kernel_rfl) (UAll.cons zAA (UAll.cons zAA (UAll.cons zAA (UAll.cons zAA (UAll.cons zCI (UAll.cons zAn (UAll.cons zAG (UAll.cons zAA (UAll.cons zAG (UAll.nil)))))))))) (by kernel_rfl) (by kernel_rfl)) hO hA ?_ ?_
      · exact
          zA9.cons (OblR.plain rfl rfl rfl rfl fun A' R' w' ho hd=>by have a0:R' 3=u2:=(ho.old 3 rfl).trans h3;exact zA5 a0) <|
          zA9.cons (OblR.plain rfl rfl rfl rfl fun A' R' w' ho hd=>by have a0:R' 4 = .int .i64 y7:=(ho.old 4 rfl).trans h4;exact zA5 a0) <|
          zA9.cons (OblR.plain rfl rfl rfl rfl fun A' R' w' ho hd=>by have a0:R' 0=v0:=(ho.old 0 rfl).trans h0;exact zA5 a0) <|
          zA9.cons (OblR.plain rfl rfl rfl rfl fun A' R' w' ho hd=>by have a0:R' 4 = .int .i64 y7:=(ho.old 4 rfl).trans h4;exact zA5 a0) <|
          zA9.cons (OblR.plain rfl rfl rfl rfl fun A' R' w' ho hd=>by have a0:R' 16=v0:=hd 0 _ _ _ rfl rfl rfl rfl rfl;have a1:R' 17 = .int .i64 y7:=hd 1 _ _ _ rfl rfl rfl rfl rfl;have ra0:=(f_v0.stp ho.stp).eq a0;exact zAN ra0 a1 Try.underlying22 Try.sizeOf90 e10) <|
          zA9.cons (OblR.plain rfl rfl rfl rfl fun A' R' w' ho hd=>by have a0:QRep zAW A' w' (R' 18) (gtD p0 y7):=hd 0 _ _ _ rfl rfl rfl rfl rfl;exact (zAv a0.ptr Try.isAgg90 Try.sizeOf90)) <|
          zA9.cons (OblR.madeS _ rfl rfl rfl rfl fun A' R' w' ho hd=>by have a0:Rep zAW A' w' (R' 19) (gtD p0 y7):=hd 0 _ _ _ rfl rfl rfl rfl rfl;exact zFs Try.call59 (zGC (q12 rfl) ho.av a0) (fun k hk=>Nat.le_trans (Nat.le_trans hF.size ho.ch.size) hk)) <|
          zA9.cons (OblR.plain rfl rfl rfl rfl fun A' R' w' ho hd=>by have a0:R' 14=u2:=hd 0 _ _ _ rfl rfl rfl rfl rfl;have a1:R' 15 = .int .i64 y7:=hd 1 _ _ _ rfl rfl rfl rfl rfl;exact zCT (zAJ (hO.own 0 _ rfl).2) a0 a1 Try.underlying27 Try.sizeOf79 e13 rfl) <|
          zA9.cons (OblR.tookM 0 [7] _ rfl rfl rfl rfl fun A' R' w' ho hd ρ σ hok hav hin hop hds hdd=>by have a0:R' 21=(vptr u2 (y7.toNat*1)):=hd 0 _ _ _ rfl rfl rfl rfl rfl;have k1:=hok 0 (.head _) _ rfl;have e0:=(hin 0 (.head _) _ rfl).1;rw [e0] at k1 ⊢;exact zCu rfl ((zAJ k1.2.2).elem e13 rfl) (hok 7 (.tail _ (.head _)) _ rfl).2.2.1 (hop 7 (.tail _ (.head _)) _ _ rfl rfl rfl rfl).symm a0 hav hdd k1.2.1 (hok 7 (.tail _ (.head _)) _ rfl).2.1 Try.sizeOf79 (fun _ _ _ h=>h)) <|
          zA9.nil
      intro done ρ σ A R w hdn hI
      replace h0:R 0=v0:=(hI.reg rfl).trans h0
      replace h3:R 3=u2:=(hI.reg rfl).trans h3
      replace h4:R 4 = .int .i64 y7:=(hI.reg rfl).trans h4
      have z14:=hI.inivR 0 rfl
      have z15:=(hI.opnR hdn 9 8 rfl rfl rfl rfl rfl).trans z14
      obtain ⟨S16,eS_u2⟩:∃ S,σ 9=S:=⟨_,rfl⟩
      replace f_v0:=f_v0.stp hI.stp
      replace hAA:=hI.low' hAA hA0 (hO.ge (⟨fun _ h=>h,trivial⟩))
      replace hF:Fr w0 w:=hF.tr hI.ch (hO.ge (⟨fun _ h=>h,trivial⟩))
      replace hO:IniOK [⟨u2,S16,trR (geB w0.heap.size) (oSl 79 (oBx (oSl 82 (oRd zA1)))) (y8.set y7.toNat x11) []⟩] A w:=hI.left hdn [(9,⟨u2,S16,trR (geB w0.heap.size) (oSl 79 (oBx (oSl 82 (oRd zA1)))) (y8.set y7.toNat x11) []⟩)] ⟨rfl,rfl,z15,eS_u2,rfl,trivial⟩
      replace hA:=hI.avok
      clear hI
      obtain ⟨e17,hr⟩:=zAF hr
      refine HT.text (l:=⟨_,true,.raw (.int .i64 y7)⟩::⟨_,true,.raw (.int .i64 (y7+(1:Int)))⟩::⟨_,true,.raw (.int .i64 (y7+(1:Int)))⟩::[]) (tl:=[]) (by kernel_rfl) (by kernel_rfl) (by kernel_rfl) ?_ ?_
      · exact
          Obls.cons (Obl.plain rfl rfl fun R' w' hw hs hd=>by have a0:R' 4 = .int .i64 y7:=(hs 4 rfl).trans h4;exact zA5 a0) <|
          Obls.cons (Obl.plain rfl rfl fun R' w' hw hs hd=>by have a0:R' 12 = .int .i64 y7:=hd 0 _ _ _ rfl rfl rfl rfl rfl;exact zB8 a0 rfl e17) <|
          Obls.cons (Obl.plain rfl rfl fun R' w' hw hs hd=>by have a0:R' 13 = .int .i64 (y7+(1:Int)):=hd 0 _ _ _ rfl rfl rfl rfl rfl;exact zA6 a0) <|
          Obls.nil
      intro R w hw hs hF'
      replace h0:R 0=v0:=(hs 0 rfl).trans h0
      replace h3:R 3=u2:=(hs 3 rfl).trans h3
      have h4:R 4 = .int .i64 (y7+(1:Int)):=hF' 2 _ _ rfl rfl rfl
      replace f_v0:=f_v0.fr hw
      replace hO:=hO.fr hw
      replace hA:=hA.fr hw.size
      replace hF:=hF.trans hw
      clear hs hF' hw
      refine zA4 ?_
      exact Exists.intro k (And.intro (Nat.lt_succ_self k) ⟨_,_,_,S16,hr,hA,hF,hAA,hO,h0,h3,h4,f_v0⟩)
    · have hr := zAp c9 hr
      refine HT.exit ?_
      obtain rfl:=Option.some.inj hr
      exact Exists.intro _ ⟨_,Sl_u2,rfl,hA,hF,hAA,hO,h3⟩
  rintro R w ⟨A,s6,So_u2,es,hA,hF,hAA,hO,h3⟩
  obtain rfl:=es.symm
  refine HT.seq ?_
  refine HT.textR [⟨u2,So_u2,trR (geB w0.heap.size) (oSl 79 (oBx (oSl 82 (oRd zA1)))) s6 []⟩] (⟨_,true,[],none,true,fun A=>.raw u2⟩::⟨_,true,[],none,true,fun A=>.raw u2⟩::[]) (by kernel_rfl) (by kernel_rfl) (Wf.mk' (by kernel_rfl) (UAll.cons zAA (UAll.cons zAA (UAll.nil))) (by kernel_rfl) (by kernel_rfl)) hO hA ?_ ?_
  · exact
      zA9.cons (OblR.plain rfl rfl rfl rfl fun A' R' w' ho hd=>by have a0:R' 3=u2:=(ho.old 3 rfl).trans h3;exact zA5 a0) <|
      zA9.cons (OblR.plain rfl rfl rfl rfl fun A' R' w' ho hd=>by have a0:R' 22=u2:=hd 0 _ _ _ rfl rfl rfl rfl rfl;exact zA6 a0) <|
      zA9.nil
  intro done ρ σ A R w hdn hI
  have z18:=hI.inivR 0 rfl
  have eS_u2:=hI.inisR 0 rfl
  have h2:R 2=u2:=hI.fact hdn (i:=1) rfl rfl rfl
  replace hAA:=hI.low' hAA hA0 (hO.ge (⟨fun _ h=>h,trivial⟩))
  replace hF:Fr w0 w:=hF.tr hI.ch (hO.ge (⟨fun _ h=>h,trivial⟩))
  replace hO:IniOK [⟨u2,So_u2,trR (geB w0.heap.size) (oSl 79 (oBx (oSl 82 (oRd zA1)))) s6 []⟩] A w:=hI.left hdn [(0,⟨u2,So_u2,trR (geB w0.heap.size) (oSl 79 (oBx (oSl 82 (oRd zA1)))) s6 []⟩)] ⟨rfl,rfl,z18,eS_u2,rfl,trivial⟩
  replace hA:=hI.avok
  clear hI
  refine HT.ret ?_
  obtain rfl:=Option.some.inj hr
  exact ⟨.inr rfl,[R 2],⟨rfl,trivial⟩,zJr rfl (hO.own 0 _ rfl) (hO.ok 0 _ rfl).2 hAA hF h2 trivial⟩
def zBG (fu:Nat) (p0:zBo):Option zAH:=
  cl true (zCt fu p0) fun x8=>
  some x8
set_option maxRecDepth 100000 in
set_option maxHeartbeats 4000000 in
theorem zDq {fu : Nat} {A0 : Av} {p0 : zBo} {r : zAH} (hr : zBG fu p0 = some r) {w : World} {v0 : Value} (hA : AvOK A0 w) (h0 : Rep zAE A0 w v0 p0) :
    Calls Try.prog 9 #[v0] w fun e w'=>∃ v,e = .returned v∧(zDo A0 (trR (geB w.heap.size) (oBx (oSl 79 (oBx (oSl 82 (oRd zA1))))) r []) (fun _=>.any) w v w'):=by
  unfold zBG at hr
  obtain ⟨w0,hw0⟩:∃ w0,w0=w:=⟨_,rfl⟩
  have hF:Fr w0 w:=hw0 ▸ Fr.refl _
  have hA0:∀ b o,A0 b o→b<w0.heap.size:=fun b o h=>hw0 ▸ hA b o h
  have hA00:AvOK A0 w0:=hA0
  rw [show zDo A0 (trR (geB w.heap.size) (oBx (oSl 79 (oBx (oSl 82 (oRd zA1))))) r []) (fun _=>.any) w=zDo A0 (trR (geB w0.heap.size) (oBx (oSl 79 (oBx (oSl 82 (oRd zA1))))) r []) (fun _=>.any) w0 from hw0 ▸ rfl]
  clear hw0
  obtain ⟨A,hAe⟩:∃ A,A=A0:=⟨_,rfl⟩
  have hAA:∀ b o,A0 b o→A b o:=fun b o h=>hAe ▸ h
  replace hA:AvOK A w:=hAe ▸ hA
  have hO:IniOK [] A w:=IniOK.nil
  refine zAI [.cell 2 29] Try.func9 Try.ntmps9 (by decide) rfl rfl (Nat.le_of_ble_eq_true rfl) ?_
  intro R hR
  have f_v0:Rep zAE A w v0 p0:=hAe ▸ h0
  replace h0:R 0=v0:=hR 0 _ rfl
  clear hR hAe
  refine HT.seq ?_
  refine HT.textR [] (⟨_,true,[],some (.box w0.heap.size 24 zAE p0),true,fun A=>.any⟩::⟨_,true,[],some (trR (geB w0.heap.size) (oPt 29 (oBx (oSl 79 (oBx (oSl 82 (oRd zA1)))))) ([]:List zAO) []),true,fun A=>.any⟩::[]) (by kernel_rfl) (by kernel_rfl) (Wf.mk' (by kernel_rfl) (UAll.cons zAG (UAll.cons zAG (UAll.nil))) (by kernel_rfl) (by kernel_rfl)) hO hA ?_ ?_
  · exact
      zA9.cons (OblR.made _ rfl rfl rfl rfl fun A' R' w' ho hd=>by have a0:R' 0=v0:=(ho.old 0 rfl).trans h0;have ra0:=(f_v0.stp ho.stp).eq a0;exact zB9 ra0 (Nat.le_trans hF.size ho.ch.size)) <|
      zA9.cons (OblR.madeS _ rfl rfl rfl rfl fun A' R' w' ho hd=>by exact zCU Try.zeroValue29 (fun A w=>zDg) (fun k hk=>Nat.le_trans (Nat.le_trans hF.size ho.ch.size) hk)) <|
      zA9.nil
  intro done ρ σ A R w hdn hI
  obtain ⟨b1_0,e_b1_0⟩:=hI.boxv hdn 0 rfl rfl
  have h1:R 1=(.pointer (some ⟨b1_0,0,none⟩)):=(hI.opvR hdn 0 0 rfl rfl rfl rfl rfl).symm.trans e_b1_0
  obtain ⟨u2,e_u2⟩:∃ u,ρ 1=u:=⟨_,rfl⟩
  have h2:R 2=u2:=(hI.opvR hdn 1 1 rfl rfl rfl rfl rfl).symm.trans e_u2
  obtain ⟨S3,eS_u2⟩:∃ S,σ 1=S:=⟨_,rfl⟩
  replace hAA:=hI.low' hAA hA0 (hO.ge (trivial))
  replace hF:Fr w0 w:=hF.tr hI.ch (hO.ge (trivial))
  replace hO:IniOK [ob (.pointer (some ⟨b1_0,0,none⟩)) (.box w0.heap.size 24 zAE p0),⟨u2,S3,trR (geB w0.heap.size) (oPt 29 (oBx (oSl 79 (oBx (oSl 82 (oRd zA1)))))) ([]:List zAO) []⟩] A w:=hI.left hdn [(0,ob (.pointer (some ⟨b1_0,0,none⟩)) (.box w0.heap.size 24 zAE p0)),(1,⟨u2,S3,trR (geB w0.heap.size) (oPt 29 (oBx (oSl 79 (oBx (oSl 82 (oRd zA1)))))) ([]:List zAO) []⟩)] ⟨rfl,rfl,e_b1_0,rfl,rfl,⟨rfl,rfl,e_u2,eS_u2,rfl,trivial⟩⟩
  replace hA:=hI.avok
  clear hI
  refine HT.seq ?_
  refine HT.textR [ob (.pointer (some ⟨b1_0,0,none⟩)) (.box w0.heap.size 24 zAE p0),⟨u2,S3,trR (geB w0.heap.size) (oPt 29 (oBx (oSl 79 (oBx (oSl 82 (oRd zA1)))))) ([]:List zAO) []⟩] (⟨_,true,[],some (trR (geB w0.heap.size) (oPt 29 (oBx (oSl 79 (oBx (oSl 82 (oRd zA1)))))) ([]:List zAO) []),true,fun A=>.any⟩::[]) (by kernel_rfl) (by kernel_rfl) (Wf.mk' (by kernel_rfl) (UAll.cons zAG (UAll.nil)) (by kernel_rfl) (by kernel_rfl)) hO hA ?_ ?_
  · exact
      zA9.cons (OblR.madeS _ rfl rfl rfl rfl fun A' R' w' ho hd=>by exact zCU Try.zeroValue29 (fun A w=>zDg) (fun k hk=>Nat.le_trans (Nat.le_trans hF.size ho.ch.size) hk)) <|
      zA9.nil
  intro done ρ σ A R w hdn hI
  replace h1:R 1=(.pointer (some ⟨b1_0,0,none⟩)):=(hI.reg rfl).trans h1
  replace h2:R 2=u2:=(hI.reg rfl).trans h2
  have z4:=hI.inivR 0 rfl
  have z5:=hI.inivR 1 rfl
  obtain ⟨u6,e_u6⟩:∃ u,ρ 2=u:=⟨_,rfl⟩
  have h3:R 3=u6:=(hI.opvR hdn 2 0 rfl rfl rfl rfl rfl).symm.trans e_u6
  have eS_u2:=hI.inisR 1 rfl
  obtain ⟨S7,eS_u6⟩:∃ S,σ 2=S:=⟨_,rfl⟩
  replace hAA:=hI.low' hAA hA0 (hO.ge (⟨rfl,⟨fun _ h=>h,trivial⟩⟩))
  replace hF:Fr w0 w:=hF.tr hI.ch (hO.ge (⟨rfl,⟨fun _ h=>h,trivial⟩⟩))
  replace hO:IniOK [ob (.pointer (some ⟨b1_0,0,none⟩)) (.box w0.heap.size 24 zAE p0),⟨u2,S3,trR (geB w0.heap.size) (oPt 29 (oBx (oSl 79 (oBx (oSl 82 (oRd zA1)))))) ([]:List zAO) []⟩,⟨u6,S7,trR (geB w0.heap.size) (oPt 29 (oBx (oSl 79 (oBx (oSl 82 (oRd zA1)))))) ([]:List zAO) []⟩] A w:=hI.left hdn [(0,ob (.pointer (some ⟨b1_0,0,none⟩)) (.box w0.heap.size 24 zAE p0)),(1,⟨u2,S3,trR (geB w0.heap.size) (oPt 29 (oBx (oSl 79 (oBx (oSl 82 (oRd zA1)))))) ([]:List zAO) []⟩),(2,⟨u6,S7,trR (geB w0.heap.size) (oPt 29 (oBx (oSl 79 (oBx (oSl 82 (oRd zA1)))))) ([]:List zAO) []⟩)] ⟨rfl,rfl,z4,rfl,rfl,⟨rfl,rfl,z5,eS_u2,rfl,⟨rfl,rfl,e_u6,eS_u6,rfl,trivial⟩⟩⟩
  replace hA:=hI.avok
  clear hI
  refine HT.seq ?_
  obtain ⟨x8,q9,hr⟩:=zAK hr
  refine HT.textR [ob (.pointer (some ⟨b1_0,0,none⟩)) (.box w0.heap.size 24 zAE p0),⟨u2,S3,trR (geB w0.heap.size) (oPt 29 (oBx (oSl 79 (oBx (oSl 82 (oRd zA1)))))) ([]:List zAO) []⟩,⟨u6,S7,trR (geB w0.heap.size) (oPt 29 (oBx (oSl 79 (oBx (oSl 82 (oRd zA1)))))) ([]:List zAO) []⟩] (⟨_,true,[],none,true,fun A=>.raw (.pointer (some ⟨b1_0,0,none⟩))⟩::⟨_,true,[],none,true,fun A=>.rep (eSl zAW) A p0⟩::⟨_,true,[],some (trR (geB w0.heap.size) (oSl 79 (oBx (oSl 82 (oRd zA1)))) x8 []),true,fun A=>.any⟩::⟨_,true,[],none,true,fun A=>.raw u6⟩::⟨_,true,[2,5],some (trR (geB w0.heap.size) (oPt 29 (oBx (oSl 79 (oBx (oSl 82 (oRd zA1)))))) x8 []),false,fun A=>.any⟩::[]) (by kernel_rfl) (by kernel_rfl) (Wf.mk' (by kernel_rfl) (UAll.cons zAA (UAll.cons zAn (UAll.cons zAG (UAll.cons zAA (UAll.cons zAG (UAll.nil)))))) (by kernel_rfl) (by kernel_rfl)) hO hA ?_ ?_
  · exact
      zA9.cons (OblR.plain rfl rfl rfl rfl fun A' R' w' ho hd=>by have a0:R' 1=(.pointer (some ⟨b1_0,0,none⟩)):=(ho.old 1 rfl).trans h1;exact zAB a0 zJX Try.sizeOf22 (by decide) rfl) <|
      zA9.cons (OblR.plain rfl rfl rfl rfl fun A' R' w' ho hd=>by have a0:R' 4=(.pointer (some ⟨b1_0,0,none⟩)):=hd 0 _ _ _ rfl rfl rfl rfl rfl;exact (zAD (ho.rd 0 _ rfl rfl) a0 zEG rfl Try.isAgg22 Try.sizeOf22)) <|
      zA9.cons (OblR.madeS _ rfl rfl rfl rfl fun A' R' w' ho hd=>by have a0:Rep (eSl zAW) A' w' (R' 5) p0:=hd 0 _ _ _ rfl rfl rfl rfl rfl;exact zFs Try.call33 (zFh (q9 rfl) ho.av a0) (fun k hk=>Nat.le_trans (Nat.le_trans hF.size ho.ch.size) hk)) <|
      zA9.cons (OblR.plain rfl rfl rfl rfl fun A' R' w' ho hd=>by have a0:R' 3=u6:=(ho.old 3 rfl).trans h3;exact zAb ((zAJ (hO.own 2 _ rfl).2).ptr).ad a0 zCl Try.sizeOf27 (by decide) (zEf ((zAJ (hO.own 2 _ rfl).2).ptr).ad)) <|
      zA9.cons (OblR.tookM 2 [5] _ rfl rfl rfl rfl fun A' R' w' ho hd ρ σ hok hav hin hop hds hdd=>by have a0:R' 7=u6:=hd 0 _ _ _ rfl rfl rfl rfl rfl;have k1:=hok 2 (.head _) _ rfl;have e0:=(hin 2 (.head _) _ rfl).1;rw [e0] at k1 ⊢;exact zCu rfl ((zAJ k1.2.2).ptr).bx (hok 5 (.tail _ (.head _)) _ rfl).2.2.1 (hop 5 (.tail _ (.head _)) _ _ rfl rfl rfl rfl).symm a0 hav hdd k1.2.1 (hok 5 (.tail _ (.head _)) _ rfl).2.1 Try.sizeOf27 (fun _ _ _ h=>h)) <|
      zA9.nil
  intro done ρ σ A R w hdn hI
  replace h2:R 2=u2:=(hI.reg rfl).trans h2
  replace h3:R 3=u6:=(hI.reg rfl).trans h3
  have z10:=hI.inivR 0 rfl
  have z11:=hI.inivR 1 rfl
  have z12:=hI.inivR 2 rfl
  have z13:=(hI.opnR hdn 7 4 rfl rfl rfl rfl rfl).trans z12
  have eS_u2:=hI.inisR 1 rfl
  obtain ⟨S14,eS_u6⟩:∃ S,σ 7=S:=⟨_,rfl⟩
  replace hAA:=hI.low' hAA hA0 (hO.ge (⟨rfl,⟨fun _ h=>h,⟨fun _ h=>h,trivial⟩⟩⟩))
  replace hF:Fr w0 w:=hF.tr hI.ch (hO.ge (⟨rfl,⟨fun _ h=>h,⟨fun _ h=>h,trivial⟩⟩⟩))
  replace hO:IniOK [⟨u2,S3,trR (geB w0.heap.size) (oPt 29 (oBx (oSl 79 (oBx (oSl 82 (oRd zA1)))))) ([]:List zAO) []⟩,⟨u6,S14,trR (geB w0.heap.size) (oPt 29 (oBx (oSl 79 (oBx (oSl 82 (oRd zA1)))))) x8 []⟩] A w:=hI.left hdn [(1,⟨u2,S3,trR (geB w0.heap.size) (oPt 29 (oBx (oSl 79 (oBx (oSl 82 (oRd zA1)))))) ([]:List zAO) []⟩),(7,⟨u6,S14,trR (geB w0.heap.size) (oPt 29 (oBx (oSl 79 (oBx (oSl 82 (oRd zA1)))))) x8 []⟩)] ⟨rfl,rfl,z11,eS_u2,rfl,⟨rfl,rfl,z13,eS_u6,rfl,trivial⟩⟩
  replace hA:=hI.avok
  clear hI
  refine HT.seq ?_
  refine HT.textR [⟨u2,S3,trR (geB w0.heap.size) (oPt 29 (oBx (oSl 79 (oBx (oSl 82 (oRd zA1)))))) ([]:List zAO) []⟩,⟨u6,S14,trR (geB w0.heap.size) (oPt 29 (oBx (oSl 79 (oBx (oSl 82 (oRd zA1)))))) x8 []⟩] (⟨_,true,[1],some (trR (geB w0.heap.size) (oBx (oSl 79 (oBx (oSl 82 (oRd zA1))))) x8 []),true,fun A=>.any⟩::⟨_,true,[0,2],some (trR (geB w0.heap.size) (oPt 29 (oBx (oSl 79 (oBx (oSl 82 (oRd zA1)))))) x8 []),false,fun A=>.any⟩::[]) (by kernel_rfl) (by kernel_rfl) (Wf.mk' (by kernel_rfl) (UAll.cons zAG (UAll.cons zAG (UAll.nil))) (by kernel_rfl) (by kernel_rfl)) hO hA ?_ ?_
  · exact
      zA9.cons (OblR.tookS 1 _ _ rfl rfl rfl rfl rfl fun A' R' w' ho hd u S hok hown hav hin hop hds=>by have a0:R' 3=u6:=(ho.old 3 rfl).trans h3;exact zH1 hown.2 (a0.trans (hin _ rfl).1.symm) hav hown.1 Try.isAgg29 Try.sizeOf29) <|
      zA9.cons (OblR.tookM 0 [2] _ rfl rfl rfl rfl fun A' R' w' ho hd ρ σ hok hav hin hop hds hdd=>by have a0:R' 2=u2:=(ho.old 2 rfl).trans h2;have k1:=hok 0 (.head _) _ rfl;have e0:=(hin 0 (.head _) _ rfl).1;rw [e0] at k1 ⊢;exact zCu rfl (zAJ k1.2.2).ptr (hok 2 (.tail _ (.head _)) _ rfl).2.2.1 (hop 2 (.tail _ (.head _)) _ _ rfl rfl rfl rfl).symm a0 hav hdd k1.2.1 (hok 2 (.tail _ (.head _)) _ rfl).2.1 Try.sizeOf29 (fun _ _ _ h=>h)) <|
      zA9.nil
  intro done ρ σ A R w hdn hI
  replace h2:R 2=u2:=(hI.reg rfl).trans h2
  have z15:=hI.inivR 0 rfl
  have z16:=(hI.opnR hdn 3 1 rfl rfl rfl rfl rfl).trans z15
  obtain ⟨S17,eS_u2⟩:∃ S,σ 3=S:=⟨_,rfl⟩
  replace hAA:=hI.low' hAA hA0 (hO.ge (⟨fun _ h=>h,⟨fun _ h=>h,trivial⟩⟩))
  replace hF:Fr w0 w:=hF.tr hI.ch (hO.ge (⟨fun _ h=>h,⟨fun _ h=>h,trivial⟩⟩))
  replace hO:IniOK [⟨u2,S17,trR (geB w0.heap.size) (oPt 29 (oBx (oSl 79 (oBx (oSl 82 (oRd zA1)))))) x8 []⟩] A w:=hI.left hdn [(3,⟨u2,S17,trR (geB w0.heap.size) (oPt 29 (oBx (oSl 79 (oBx (oSl 82 (oRd zA1)))))) x8 []⟩)] ⟨rfl,rfl,z16,eS_u2,rfl,trivial⟩
  replace hA:=hI.avok
  clear hI
  refine HT.ret ?_
  obtain rfl:=Option.some.inj hr
  obtain ⟨v_,e_,p_⟩:=zF6 (T:=29) (f:=fun _=>.any) rfl (hO.own 0 _ rfl) (hO.ok 0 _ rfl).2 hAA hF h2 Try.isAgg29 Try.sizeOf29 (fun _ _=>trivial)
  exact ⟨.inr rfl,[v_],⟨e_,trivial⟩,p_⟩
theorem zCn {fu : Nat} {A0 : Av} {p0 : zBo} {r : zAH} (hr : zBG fu p0 = some r) {w : World} {v0 : Value} (hA : AvOK A0 w) (h0 : Rep zAE A0 w v0 p0) :
    Calls Try.prog 9 #[v0] w fun e w'=>∃ v,e = .returned v∧(Rep zA2 A0 w' v r∧Fr w w'):=by
  refine Calls.mono (zDq hr hA h0) ?_
  rintro e w' ⟨v,he,h⟩
  exact ⟨v,he,zJv h hA⟩
def zD2 (fu:Nat) (p0:Int) (p1:Int) (p2:Int):Option Bool:=
  bd ((decide (p1≤p0))&&(decide (p0≤p2))) fun x1=>
  some x1
set_option maxRecDepth 100000 in
set_option maxHeartbeats 4000000 in
theorem zDZ {fu : Nat} {A : Av} {p0 : Int} {p1 : Int} {p2 : Int} {r : Bool} (hr : zD2 fu p0 p1 p2 = some r) {w : World} {v0 : Value} {v1 : Value} {v2 : Value} (hA : AvOK A w) (h0 : v0 = .int .i64 p0) (h1 : v1 = .int .i64 p1) (h2 : v2 = .int .i64 p2) :
    Calls Try.prog 51 #[v0,v1,v2] w fun e w'=>∃ v,e = .returned v∧(v = .bool r∧Fr w w'):=by
  unfold zD2 at hr
  obtain ⟨w0,hw0⟩:∃ w0,w0=w:=⟨_,rfl⟩
  have hF:Fr w0 w:=hw0 ▸ Fr.refl _
  rw [show Fr w=Fr w0 from hw0 ▸ rfl]
  clear hw0
  refine zAI [.tmp 6] Try.func51 Try.ntmps51 (by decide) rfl rfl (Nat.le_of_ble_eq_true rfl) ?_
  intro R hR
  replace h0:R 0 = .int .i64 p0:=(hR 0 _ rfl).trans h0
  replace h1:R 1 = .int .i64 p1:=(hR 1 _ rfl).trans h1
  replace h2:R 2 = .int .i64 p2:=(hR 2 _ rfl).trans h2
  clear hR
  refine HT.seq ?_
  refine HT.text (l:=⟨_,true,.raw (.bool false)⟩::[]) (tl:=[]) (by kernel_rfl) (by kernel_rfl) (by kernel_rfl) ?_ ?_
  · exact
      Obls.cons (Obl.plain rfl rfl fun R' w' hw hs hd=>by exact zA6 rfl) <|
      Obls.nil
  intro R w hw hs hF'
  replace h0:R 0 = .int .i64 p0:=(hs 0 rfl).trans h0
  replace h1:R 1 = .int .i64 p1:=(hs 1 rfl).trans h1
  replace h2:R 2 = .int .i64 p2:=(hs 2 rfl).trans h2
  replace hA:=hA.fr hw.size
  replace hF:=hF.trans hw
  clear hs hF' hw
  refine zA4 ?_
  refine HT.seq ?_
  obtain ⟨x1,q2,hr⟩:=zC9 hr
  refine HT.text (l:=⟨_,true,.raw (.int .i64 p0)⟩::⟨_,true,.raw (.int .i64 p1)⟩::⟨_,true,.raw (.bool (decide (p1≤p0)))⟩::⟨_,true,.raw (.bool (decide (p1≤p0)))⟩::⟨_,(true&&((decide (p1≤p0))==true)),.raw (.int .i64 p0)⟩::⟨_,(true&&((decide (p1≤p0))==true)),.raw (.int .i64 p2)⟩::⟨_,(true&&((decide (p1≤p0))==true)),.raw (.bool (decide (p0≤p2)))⟩::⟨_,true,.raw (.bool x1)⟩::⟨_,true,.raw (.bool x1)⟩::[]) (tl:=[]) (by kernel_rfl) (by kernel_rfl) (by kernel_rfl) ?_ ?_
  · exact
      Obls.cons (Obl.plain rfl rfl fun R' w' hw hs hd=>by have a0:R' 0 = .int .i64 p0:=(hs 0 rfl).trans h0;exact zA5 a0) <|
      Obls.cons (Obl.plain rfl rfl fun R' w' hw hs hd=>by have a0:R' 1 = .int .i64 p1:=(hs 1 rfl).trans h1;exact zA5 a0) <|
      Obls.cons (Obl.plain rfl rfl fun R' w' hw hs hd=>by have a0:R' 7 = .int .i64 p0:=hd 0 _ _ _ rfl rfl rfl rfl rfl;have a1:R' 8 = .int .i64 p1:=hd 1 _ _ _ rfl rfl rfl rfl rfl;exact zHz a0 a1) <|
      Obls.cons (Obl.plain rfl rfl fun R' w' hw hs hd=>by have a0:R' 9 = .bool (decide (p1≤p0)):=hd 0 _ _ _ rfl rfl rfl rfl rfl;exact zA5 a0) <|
      Obls.cons (Obl.grd 3 true _ _ _ rfl rfl rfl rfl rfl (by kernel_rfl) fun hg R' w' hw hs hd=>by have a0:R' 0 = .int .i64 p0:=(hs 0 rfl).trans h0;exact zA5 a0) <|
      Obls.cons (Obl.grd 3 true _ _ _ rfl rfl rfl rfl rfl (by kernel_rfl) fun hg R' w' hw hs hd=>by have a0:R' 2 = .int .i64 p2:=(hs 2 rfl).trans h2;exact zA5 a0) <|
      Obls.cons (Obl.grd 3 true _ _ _ rfl rfl rfl rfl rfl (by kernel_rfl) fun hg R' w' hw hs hd=>by have a0:R' 11 = .int .i64 p0:=hd 0 _ _ _ rfl rfl rfl rfl hg;have a1:R' 12 = .int .i64 p2:=hd 1 _ _ _ rfl rfl rfl rfl hg;exact zKz a0 a1) <|
      Obls.cons (Obl.plain rfl rfl fun R' w' hw hs hd=>by have a0:R' 10 = .bool (decide (p1≤p0)):=hd 0 _ _ _ rfl rfl rfl rfl rfl;exact zCf (decide (p1≤p0)) a0 (fun hc=>by have a1:R' 13 = .bool (decide (p0≤p2)):=hd 1 _ _ _ rfl rfl rfl rfl (zEq rfl (zDd hc));show _=Value.bool x1;rw [q2,hc];exact a1) (fun hc=>by show _=Value.bool x1;rw [q2,hc];exact rfl)) <|
      Obls.cons (Obl.plain rfl rfl fun R' w' hw hs hd=>by have a0:R' 14 = .bool x1:=hd 0 _ _ _ rfl rfl rfl rfl rfl;exact zA6 a0) <|
      Obls.nil
  intro R w hw hs hF'
  have h6:R 6 = .bool x1:=hF' 8 _ _ rfl rfl rfl
  replace hA:=hA.fr hw.size
  replace hF:=hF.trans hw
  clear hs hF' hw
  refine zA4 ?_
  refine HT.ret ?_
  obtain rfl:=Option.some.inj hr
  exact ⟨.inr rfl,[R 6],⟨rfl,trivial⟩,h6,hF⟩
def zAw (fu : Nat) (p0 : zAH) (y5 : Int) : Nat → Int → Option (Ex Bool Unit)
  | 0,_=>none
  | k+1,y12=>
    bif (decide (y12 < ((gtD p0 y5).length : Int))) then (
      ck (inR y12 (gtD p0 y5).length) <|
      cl true (zD2 fu ((gtD (gtD p0 y5) y12).1) (0:Int) (5:Int)) fun x15=>
      ck (!(true&&((!x15)==false)) || inR y12 (gtD p0 y5).length) <|
      cl (true&&((!x15)==false)) (zD2 fu ((gtD (gtD p0 y5) y12).2.1) (1:Int) (1000:Int)) fun x18=>
      bd ((!x15) || (!x18)) fun x20=>
      ck (!((true&&(x20==false))&&((decide ((0:Int)<y12))==true)) || i64B (y12-(1:Int))) <|
      ck (!((true&&(x20==false))&&((decide ((0:Int)<y12))==true)) || inR (y12-(1:Int)) (gtD p0 y5).length) <|
      ck (!((true&&(x20==false))&&((decide ((0:Int)<y12))==true)) || inR y12 (gtD p0 y5).length) <|
      bd ((decide ((0:Int)<y12))&&(decide (((gtD (gtD p0 y5) y12).1)≤((gtD (gtD p0 y5) (y12-(1:Int))).1)))) fun x25=>
      bd (x20 || x25) fun x27=>
      bif x27 then (
        some (Ex.ret false)
      ) else (
        ck (i64B (y12+(1:Int))) <|
        zAw fu p0 y5 k (y12+(1:Int))
      )
    ) else (
      some (Ex.go ())
    )
def zBC (fu : Nat) (p0 : zAH) : Nat → Int → Option (Ex Bool Unit)
  | 0,_=>none
  | k+1,y5=>
    bif (decide (y5 < (p0.length : Int))) then (
      ck (inR y5 p0.length) <|
      cl true (zAw fu p0 y5 fu (0:Int)) fun rl9=>
      exM rl9 (fun r=>some (Ex.ret r)) fun s11=>
      cl true (zD2 fu ((gtD p0 y5).length:Int) (1:Int) (3:Int)) fun x31=>
      bif (!x31) then (
        some (Ex.ret false)
      ) else (
        ck (i64B (y5+(1:Int))) <|
        zBC fu p0 k (y5+(1:Int))
      )
    ) else (
      some (Ex.go ())
    )
def zBj (fu:Nat) (p0:zAH):Option Bool:=
  cl true (zBC fu p0 fu (0:Int)) fun rl2=>
  exM rl2 (fun r=>some r) fun s4=>
  cl true (zD2 fu (p0.length:Int) (1:Int) (3:Int)) fun x35=>
  some x35
set_option maxRecDepth 100000 in
set_option maxHeartbeats 4000000 in
theorem zDN {fu : Nat} {A0 : Av} {p0 : zAH} {r : Bool} (hr : zBj fu p0 = some r) {w : World} {v0 : Value} (hA : AvOK A0 w) (h0 : Rep zA2 A0 w v0 p0) :
    Calls Try.prog 26 #[v0] w fun e w'=>∃ v,e = .returned v∧(v = .bool r∧Fr w w'):=by
  unfold zBj at hr
  obtain ⟨w0,hw0⟩:∃ w0,w0=w:=⟨_,rfl⟩
  have hF:Fr w0 w:=hw0 ▸ Fr.refl _
  have hA0:∀ b o,A0 b o→b<w0.heap.size:=fun b o h=>hw0 ▸ hA b o h
  have hA00:AvOK A0 w0:=hA0
  rw [show Fr w=Fr w0 from hw0 ▸ rfl]
  clear hw0
  obtain ⟨A,hAe⟩:∃ A,A=A0:=⟨_,rfl⟩
  have hAA:∀ b o,A0 b o→A b o:=fun b o h=>hAe ▸ h
  replace hA:AvOK A w:=hAe ▸ hA
  have hO:IniOK [] A w:=IniOK.nil
  refine zAI [.tmp 2] Try.func26 Try.ntmps26 (by decide) rfl rfl (Nat.le_of_ble_eq_true rfl) ?_
  intro R hR
  have f_v0:Rep zA2 A w v0 p0:=hAe ▸ h0
  replace h0:R 0=v0:=hR 0 _ rfl
  clear hR hAe
  refine HT.seq ?_
  refine HT.textR [] (⟨_,true,[],some (.box w0.heap.size 29 zA2 p0),true,fun A=>.any⟩::⟨_,true,[],none,true,fun A=>.raw (.bool false)⟩::[]) (by kernel_rfl) (by kernel_rfl) (Wf.mk' (by kernel_rfl) (UAll.cons zAG (UAll.cons zAA (UAll.nil))) (by kernel_rfl) (by kernel_rfl)) hO hA ?_ ?_
  · exact
      zA9.cons (OblR.made _ rfl rfl rfl rfl fun A' R' w' ho hd=>by have a0:R' 0=v0:=(ho.old 0 rfl).trans h0;have ra0:=(f_v0.stp ho.stp).eq a0;exact zB9 ra0 (Nat.le_trans hF.size ho.ch.size)) <|
      zA9.cons (OblR.plain rfl rfl rfl rfl fun A' R' w' ho hd=>by exact zA6 rfl) <|
      zA9.nil
  intro done ρ σ A R w hdn hI
  obtain ⟨b1_0,e_b1_0⟩:=hI.boxv hdn 0 rfl rfl
  have h1:R 1=(.pointer (some ⟨b1_0,0,none⟩)):=(hI.opvR hdn 0 0 rfl rfl rfl rfl rfl).symm.trans e_b1_0
  replace hAA:=hI.low' hAA hA0 (hO.ge (trivial))
  replace hF:Fr w0 w:=hF.tr hI.ch (hO.ge (trivial))
  replace hO:IniOK [ob (.pointer (some ⟨b1_0,0,none⟩)) (.box w0.heap.size 29 zA2 p0)] A w:=hI.left hdn [(0,ob (.pointer (some ⟨b1_0,0,none⟩)) (.box w0.heap.size 29 zA2 p0))] ⟨rfl,rfl,e_b1_0,rfl,rfl,trivial⟩
  replace hA:=hI.avok
  clear hI
  refine HT.seq ?_
  refine HT.seq ?_
  refine HT.text (l:=⟨_,true,.raw (.int .i64 (0:Int))⟩::[]) (tl:=[]) (by kernel_rfl) (by kernel_rfl) (by kernel_rfl) ?_ ?_
  · exact
      Obls.cons (Obl.plain rfl rfl fun R' w' hw hs hd=>by exact zA6 rfl) <|
      Obls.nil
  intro R w hw hs hF'
  replace h1:R 1=(.pointer (some ⟨b1_0,0,none⟩)):=(hs 1 rfl).trans h1
  have h3:R 3 = .int .i64 (0:Int):=hF' 0 _ _ rfl rfl rfl
  replace hO:=hO.fr hw
  replace hA:=hA.fr hw.size
  replace hF:=hF.trans hw
  clear hs hF' hw
  refine zA4 ?_
  obtain ⟨rl2,q3,hr⟩:=zAK hr
  replace q3:=q3 rfl
  refine HT.cut0 (fun R w=>∃ A:Av,∃ (s4:Unit),rl2=Ex.go s4∧AvOK A w∧Fr w0 w∧(∀ b o,A0 b o→A b o)∧IniOK [ob (.pointer (some ⟨b1_0,0,none⟩)) (.box w0.heap.size 29 zA2 p0)] A w∧R 1=(.pointer (some ⟨b1_0,0,none⟩))) ?_ ?_
  · refine HT.block ?_
    refine HT.loop (fun k R w=>∃ A:Av,∃ (y5:Int),zBC fu p0 k y5=some rl2∧AvOK A w∧Fr w0 w∧(∀ b o,A0 b o→A b o)∧IniOK [ob (.pointer (some ⟨b1_0,0,none⟩)) (.box w0.heap.size 29 zA2 p0)] A w∧R 1=(.pointer (some ⟨b1_0,0,none⟩))∧R 3 = .int .i64 y5) fu ⟨_,_,q3,hA,hF,hAA,hO,h1,h3⟩ ?_
    have hr0:=hr;clear hr q3
    rintro k R w ⟨A,y5,hr,hA,hF,hAA,hO,h1,h3⟩
    rcases k with _ | k
    · cases (show none=some _ from hr)
    rw [zBC] at hr
    refine HT.seq ?_
    refine HT.seq ?_
    refine HT.text (l:=⟨_,true,.raw (.int .i64 y5)⟩::⟨_,true,.raw (.pointer (some ⟨b1_0,0,none⟩))⟩::⟨_,true,.rep (eSl zAC) A p0⟩::⟨_,true,.raw (.int .i64 (p0.length:Int))⟩::⟨_,true,.raw (.bool (decide (y5<(p0.length:Int))))⟩::[]) (tl:=[]) (by kernel_rfl) (by kernel_rfl) (by kernel_rfl) ?_ ?_
    · exact
        Obls.cons (Obl.plain rfl rfl fun R' w' hw hs hd=>by have a0:R' 3 = .int .i64 y5:=(hs 3 rfl).trans h3;exact zA5 a0) <|
        Obls.cons (Obl.plain rfl rfl fun R' w' hw hs hd=>by have a0:R' 1=(.pointer (some ⟨b1_0,0,none⟩)):=(hs 1 rfl).trans h1;exact zAB a0 zCl Try.sizeOf27 (by decide) rfl) <|
        Obls.cons (Obl.plain rfl rfl fun R' w' hw hs hd=>by have a0:R' 7=(.pointer (some ⟨b1_0,0,none⟩)):=hd 0 _ _ _ rfl rfl rfl rfl rfl;exact (zAD ((hO.fr hw).ok 0 _ rfl).1 a0 zAg rfl Try.isAgg27 Try.sizeOf27)) <|
        Obls.cons (Obl.plain rfl rfl fun R' w' hw hs hd=>by have a0:Rep (eSl zAC) A w' (R' 8) p0:=hd 0 _ _ _ rfl rfl rfl rfl rfl;exact zAd (aT:=#[]) a0 Try.underlying27) <|
        Obls.cons (Obl.plain rfl rfl fun R' w' hw hs hd=>by have a0:R' 6 = .int .i64 y5:=hd 0 _ _ _ rfl rfl rfl rfl rfl;have a1:R' 9 = .int .i64 (p0.length:Int):=hd 1 _ _ _ rfl rfl rfl rfl rfl;exact zBI a0 a1) <|
        Obls.nil
    intro R w hw hs hF'
    replace h1:R 1=(.pointer (some ⟨b1_0,0,none⟩)):=(hs 1 rfl).trans h1
    replace h3:R 3 = .int .i64 y5:=(hs 3 rfl).trans h3
    have h10:R 10 = .bool (decide (y5<(p0.length:Int))):=hF' 4 _ _ rfl rfl rfl
    replace hO:=hO.fr hw
    replace hA:=hA.fr hw.size
    replace hF:=hF.trans hw
    clear hs hF' hw
    refine zA4 ?_
    refine HT.cond (decide (y5<(p0.length:Int))) h10 (fun c6=>?_) (fun c6=>?_)
    · have hr := zAq c6 hr
      refine HT.skip ?_
      refine HT.seq ?_
      refine HT.block ?_
      refine HT.seq ?_
      obtain ⟨e7,hr⟩:=zAF hr
      refine HT.text (l:=⟨_,true,.raw (.pointer (some ⟨b1_0,0,none⟩))⟩::⟨_,true,.rep (eSl zAC) A p0⟩::⟨_,true,.raw (.int .i64 y5)⟩::⟨_,true,.qtr zAC A (gtD p0 y5)⟩::⟨_,true,.qtr (eSl zA1) A (gtD p0 y5)⟩::⟨_,true,.rep (eSl zA1) A (gtD p0 y5)⟩::⟨_,true,.rep (eSl zA1) A (gtD p0 y5)⟩::[]) (tl:=[]) (by kernel_rfl) (by kernel_rfl) (by kernel_rfl) ?_ ?_
      · exact
          Obls.cons (Obl.plain rfl rfl fun R' w' hw hs hd=>by have a0:R' 1=(.pointer (some ⟨b1_0,0,none⟩)):=(hs 1 rfl).trans h1;exact zAB a0 zCl Try.sizeOf27 (by decide) rfl) <|
          Obls.cons (Obl.plain rfl rfl fun R' w' hw hs hd=>by have a0:R' 13=(.pointer (some ⟨b1_0,0,none⟩)):=hd 0 _ _ _ rfl rfl rfl rfl rfl;exact (zAD ((hO.fr hw).ok 0 _ rfl).1 a0 zAg rfl Try.isAgg27 Try.sizeOf27)) <|
          Obls.cons (Obl.plain rfl rfl fun R' w' hw hs hd=>by have a0:R' 3 = .int .i64 y5:=(hs 3 rfl).trans h3;exact zA5 a0) <|
          Obls.cons (Obl.plain rfl rfl fun R' w' hw hs hd=>by have a0:Rep (eSl zAC) A w' (R' 14) p0:=hd 0 _ _ _ rfl rfl rfl rfl rfl;have a1:R' 15 = .int .i64 y5:=hd 1 _ _ _ rfl rfl rfl rfl rfl;exact zAN a0 a1 Try.underlying27 Try.sizeOf79 e7) <|
          Obls.cons (Obl.plain rfl rfl fun R' w' hw hs hd=>by have a0:QRep zAC A w' (R' 16) (gtD p0 y5):=hd 0 _ _ _ rfl rfl rfl rfl rfl;exact zAc a0 zDV Try.sizeOf65 (by decide) zBM rfl) <|
          Obls.cons (Obl.plain rfl rfl fun R' w' hw hs hd=>by have a0:QRep (eSl zA1) A w' (R' 17) (gtD p0 y5):=hd 0 _ _ _ rfl rfl rfl rfl rfl;exact (zAv a0.ptr Try.isAgg65 Try.sizeOf65)) <|
          Obls.cons (Obl.plain rfl rfl fun R' w' hw hs hd=>by have a0:Rep (eSl zA1) A w' (R' 18) (gtD p0 y5):=hd 0 _ _ _ rfl rfl rfl rfl rfl;exact zA6 a0) <|
          Obls.nil
      intro R w hw hs hF'
      replace h1:R 1=(.pointer (some ⟨b1_0,0,none⟩)):=(hs 1 rfl).trans h1
      replace h3:R 3 = .int .i64 y5:=(hs 3 rfl).trans h3
      obtain ⟨u8,h4,f_u8⟩:∃ u,R 4=u∧Rep (eSl zA1) A w u (gtD p0 y5):=⟨_,rfl,hF' 6 _ _ rfl rfl rfl⟩
      replace hO:=hO.fr hw
      replace hA:=hA.fr hw.size
      replace hF:=hF.trans hw
      clear hs hF' hw
      refine zA4 ?_
      refine HT.seq ?_
      refine HT.seq ?_
      refine HT.text (l:=⟨_,true,.raw (.int .i64 (0:Int))⟩::[]) (tl:=[]) (by kernel_rfl) (by kernel_rfl) (by kernel_rfl) ?_ ?_
      · exact
          Obls.cons (Obl.plain rfl rfl fun R' w' hw hs hd=>by exact zA6 rfl) <|
          Obls.nil
      intro R w hw hs hF'
      replace h1:R 1=(.pointer (some ⟨b1_0,0,none⟩)):=(hs 1 rfl).trans h1
      replace h3:R 3 = .int .i64 y5:=(hs 3 rfl).trans h3
      replace h4:R 4=u8:=(hs 4 rfl).trans h4
      have h5:R 5 = .int .i64 (0:Int):=hF' 0 _ _ rfl rfl rfl
      replace f_u8:=f_u8.fr hw
      replace hO:=hO.fr hw
      replace hA:=hA.fr hw.size
      replace hF:=hF.trans hw
      clear hs hF' hw
      refine zA4 ?_
      obtain ⟨rl9,q10,hr⟩:=zAK hr
      replace q10:=q10 rfl
      refine HT.cut0 (fun R w=>∃ A:Av,∃ (s11:Unit),rl9=Ex.go s11∧AvOK A w∧Fr w0 w∧(∀ b o,A0 b o→A b o)∧IniOK [ob (.pointer (some ⟨b1_0,0,none⟩)) (.box w0.heap.size 29 zA2 p0)] A w∧R 1=(.pointer (some ⟨b1_0,0,none⟩))∧R 3 = .int .i64 y5∧R 4=u8∧Rep (eSl zA1) A w u8 (gtD p0 y5)) ?_ ?_
      · refine HT.block ?_
        refine HT.loop (fun k R w=>∃ A:Av,∃ (y12:Int),zAw fu p0 y5 k y12=some rl9∧AvOK A w∧Fr w0 w∧(∀ b o,A0 b o→A b o)∧IniOK [ob (.pointer (some ⟨b1_0,0,none⟩)) (.box w0.heap.size 29 zA2 p0)] A w∧R 1=(.pointer (some ⟨b1_0,0,none⟩))∧R 3 = .int .i64 y5∧R 4=u8∧R 5 = .int .i64 y12∧Rep (eSl zA1) A w u8 (gtD p0 y5)) fu ⟨_,_,q10,hA,hF,hAA,hO,h1,h3,h4,h5,f_u8⟩ ?_
        have hr1:=hr;clear hr q10
        rintro k R w ⟨A,y12,hr,hA,hF,hAA,hO,h1,h3,h4,h5,f_u8⟩
        rcases k with _ | k
        · cases (show none=some _ from hr)
        rw [zAw] at hr
        refine HT.seq ?_
        refine HT.seq ?_
        refine HT.text (l:=⟨_,true,.raw (.int .i64 y12)⟩::⟨_,true,.raw u8⟩::⟨_,true,.raw (.int .i64 ((gtD p0 y5).length:Int))⟩::⟨_,true,.raw (.bool (decide (y12<((gtD p0 y5).length:Int))))⟩::[]) (tl:=[]) (by kernel_rfl) (by kernel_rfl) (by kernel_rfl) ?_ ?_
        · exact
            Obls.cons (Obl.plain rfl rfl fun R' w' hw hs hd=>by have a0:R' 5 = .int .i64 y12:=(hs 5 rfl).trans h5;exact zA5 a0) <|
            Obls.cons (Obl.plain rfl rfl fun R' w' hw hs hd=>by have a0:R' 4=u8:=(hs 4 rfl).trans h4;exact zA5 a0) <|
            Obls.cons (Obl.plain rfl rfl fun R' w' hw hs hd=>by have a0:R' 20=u8:=hd 0 _ _ _ rfl rfl rfl rfl rfl;have ra0:=(f_u8.fr hw).eq a0;exact zAd (aT:=#[]) ra0 Try.underlying65) <|
            Obls.cons (Obl.plain rfl rfl fun R' w' hw hs hd=>by have a0:R' 19 = .int .i64 y12:=hd 0 _ _ _ rfl rfl rfl rfl rfl;have a1:R' 21 = .int .i64 ((gtD p0 y5).length:Int):=hd 1 _ _ _ rfl rfl rfl rfl rfl;exact zBI a0 a1) <|
            Obls.nil
        intro R w hw hs hF'
        replace h1:R 1=(.pointer (some ⟨b1_0,0,none⟩)):=(hs 1 rfl).trans h1
        replace h3:R 3 = .int .i64 y5:=(hs 3 rfl).trans h3
        replace h4:R 4=u8:=(hs 4 rfl).trans h4
        replace h5:R 5 = .int .i64 y12:=(hs 5 rfl).trans h5
        have h22:R 22 = .bool (decide (y12<((gtD p0 y5).length:Int))):=hF' 3 _ _ rfl rfl rfl
        replace f_u8:=f_u8.fr hw
        replace hO:=hO.fr hw
        replace hA:=hA.fr hw.size
        replace hF:=hF.trans hw
        clear hs hF' hw
        refine zA4 ?_
        refine HT.cond (decide (y12<((gtD p0 y5).length:Int))) h22 (fun c13=>?_) (fun c13=>?_)
        · have hr := zAq c13 hr
          refine HT.skip ?_
          refine HT.seq ?_
          refine HT.block ?_
          refine HT.seq ?_
          obtain ⟨e14,hr⟩:=zAF hr
          obtain ⟨x15,q16,hr⟩:=zAK hr
          obtain ⟨e17,hr⟩:=zAF hr
          obtain ⟨x18,q19,hr⟩:=zAK hr
          obtain ⟨x20,q21,hr⟩:=zC9 hr
          obtain ⟨e22,hr⟩:=zAF hr
          obtain ⟨e23,hr⟩:=zAF hr
          obtain ⟨e24,hr⟩:=zAF hr
          obtain ⟨x25,q26,hr⟩:=zC9 hr
          obtain ⟨x27,q28,hr⟩:=zC9 hr
          refine HT.draw (by kernel_rfl) (l:=⟨_,true,.raw u8⟩::⟨_,true,.raw (.int .i64 y12)⟩::⟨_,true,.qtr zA1 A (gtD (gtD p0 y5) y12)⟩::⟨_,true,.qtr (eInt .i64) A ((gtD (gtD p0 y5) y12).1)⟩::⟨_,true,.raw (.int .i64 ((gtD (gtD p0 y5) y12).1))⟩::⟨_,true,.raw (.bool x15)⟩::⟨_,true,.raw (.bool (!x15))⟩::⟨_,true,.raw (.bool (!x15))⟩::⟨_,(true&&((!x15)==false)),.raw u8⟩::⟨_,(true&&((!x15)==false)),.raw (.int .i64 y12)⟩::⟨_,(true&&((!x15)==false)),.qtr zA1 A (gtD (gtD p0 y5) y12)⟩::⟨_,(true&&((!x15)==false)),.qtr (eInt .i64) A ((gtD (gtD p0 y5) y12).2.1)⟩::⟨_,(true&&((!x15)==false)),.raw (.int .i64 ((gtD (gtD p0 y5) y12).2.1))⟩::⟨_,(true&&((!x15)==false)),.raw (.bool x18)⟩::⟨_,(true&&((!x15)==false)),.raw (.bool (!x18))⟩::⟨_,true,.raw (.bool x20)⟩::⟨_,true,.raw (.bool x20)⟩::⟨_,(true&&(x20==false)),.raw (.int .i64 y12)⟩::⟨_,(true&&(x20==false)),.raw (.bool (decide ((0:Int)<y12)))⟩::⟨_,(true&&(x20==false)),.raw (.bool (decide ((0:Int)<y12)))⟩::⟨_,((true&&(x20==false))&&((decide ((0:Int)<y12))==true)),.raw u8⟩::⟨_,((true&&(x20==false))&&((decide ((0:Int)<y12))==true)),.raw (.int .i64 y12)⟩::⟨_,((true&&(x20==false))&&((decide ((0:Int)<y12))==true)),.raw (.int .i64 (y12-(1:Int)))⟩::⟨_,((true&&(x20==false))&&((decide ((0:Int)<y12))==true)),.qtr zA1 A (gtD (gtD p0 y5) (y12-(1:Int)))⟩::⟨_,((true&&(x20==false))&&((decide ((0:Int)<y12))==true)),.qtr (eInt .i64) A ((gtD (gtD p0 y5) (y12-(1:Int))).1)⟩::⟨_,((true&&(x20==false))&&((decide ((0:Int)<y12))==true)),.raw (.int .i64 ((gtD (gtD p0 y5) (y12-(1:Int))).1))⟩::⟨_,((true&&(x20==false))&&((decide ((0:Int)<y12))==true)),.raw u8⟩::⟨_,((true&&(x20==false))&&((decide ((0:Int)<y12))==true)),.raw (.int .i64 y12)⟩::⟨_,((true&&(x20==false))&&((decide ((0:Int)<y12))==true)),.qtr zA1 A (gtD (gtD p0 y5) y12)⟩::⟨_,((true&&(x20==false))&&((decide ((0:Int)<y12))==true)),.qtr (eInt .i64) A ((gtD (gtD p0 y5) y12).1)⟩::⟨_,((true&&(x20==false))&&((decide ((0:Int)<y12))==true)),.raw (.int .i64 ((gtD (gtD p0 y5) y12).1))⟩::⟨_,((true&&(x20==false))&&((decide ((0:Int)<y12))==true)),.raw (.bool (decide (((gtD (gtD p0 y5) y12).1)≤((gtD (gtD p0 y5) (y12-(1:Int))).1))))⟩::⟨_,(true&&(x20==false)),.raw (.bool x25)⟩::⟨_,true,.raw (.bool x27)⟩::[]) (tl:=[]) (by kernel_rfl) (by kernel_rfl) (by kernel_rfl) (by kernel_rfl) ?_ ?_
          · exact
              Obls.cons (Obl.plain rfl rfl fun R' w' hw hs hd=>by have a0:R' 4=u8:=(hs 4 rfl).trans h4;exact zA5 a0) <|
              Obls.cons (Obl.plain rfl rfl fun R' w' hw hs hd=>by have a0:R' 5 = .int .i64 y12:=(hs 5 rfl).trans h5;exact zA5 a0) <|
              Obls.cons (Obl.plain rfl rfl fun R' w' hw hs hd=>by have a0:R' 25=u8:=hd 0 _ _ _ rfl rfl rfl rfl rfl;have a1:R' 26 = .int .i64 y12:=hd 1 _ _ _ rfl rfl rfl rfl rfl;have ra0:=(f_u8.fr hw).eq a0;exact zAN ra0 a1 Try.underlying65 Try.sizeOf82 e14) <|
              Obls.cons (Obl.plain rfl rfl fun R' w' hw hs hd=>by have a0:QRep zA1 A w' (R' 27) (gtD (gtD p0 y5) y12):=hd 0 _ _ _ rfl rfl rfl rfl rfl;exact zAc a0 zCS Try.sizeOf3 (by decide) zAz rfl) <|
              Obls.cons (Obl.plain rfl rfl fun R' w' hw hs hd=>by have a0:QRep (eInt .i64) A w' (R' 28) ((gtD (gtD p0 y5) y12).1):=hd 0 _ _ _ rfl rfl rfl rfl rfl;exact OpF.int (zAv a0.ptr Try.isAgg3 Try.sizeOf3)) <|
              Obls.cons (Obl.plain rfl rfl fun R' w' hw hs hd=>by have a0:R' 29 = .int .i64 ((gtD (gtD p0 y5) y12).1):=hd 0 _ _ _ rfl rfl rfl rfl rfl;exact zAl Try.call51 (zDZ (q16 rfl) (hA.fr hw.size) a0 rfl rfl)) <|
              Obls.cons (Obl.plain rfl rfl fun R' w' hw hs hd=>by have a0:R' 30 = .bool x15:=hd 0 _ _ _ rfl rfl rfl rfl rfl;exact zD7 a0) <|
              Obls.cons (Obl.plain rfl rfl fun R' w' hw hs hd=>by have a0:R' 31 = .bool (!x15):=hd 0 _ _ _ rfl rfl rfl rfl rfl;exact zA5 a0) <|
              Obls.cons (Obl.grd 7 false _ _ _ rfl rfl rfl rfl rfl (by kernel_rfl) fun hg R' w' hw hs hd=>by have a0:R' 4=u8:=(hs 4 rfl).trans h4;exact zA5 a0) <|
              Obls.cons (Obl.grd 7 false _ _ _ rfl rfl rfl rfl rfl (by kernel_rfl) fun hg R' w' hw hs hd=>by have a0:R' 5 = .int .i64 y12:=(hs 5 rfl).trans h5;exact zA5 a0) <|
              Obls.cons (Obl.grd 7 false _ _ _ rfl rfl rfl rfl rfl (by kernel_rfl) fun hg R' w' hw hs hd=>by have a0:R' 33=u8:=hd 0 _ _ _ rfl rfl rfl rfl hg;have a1:R' 34 = .int .i64 y12:=hd 1 _ _ _ rfl rfl rfl rfl hg;have ra0:=(f_u8.fr hw).eq a0;exact zAN ra0 a1 Try.underlying65 Try.sizeOf82 (gd e17 hg)) <|
              Obls.cons (Obl.grd 7 false _ _ _ rfl rfl rfl rfl rfl (by kernel_rfl) fun hg R' w' hw hs hd=>by have a0:QRep zA1 A w' (R' 35) (gtD (gtD p0 y5) y12):=hd 0 _ _ _ rfl rfl rfl rfl hg;exact zAc a0 zDX Try.sizeOf3 (by decide) zBH rfl) <|
              Obls.cons (Obl.grd 7 false _ _ _ rfl rfl rfl rfl rfl (by kernel_rfl) fun hg R' w' hw hs hd=>by have a0:QRep (eInt .i64) A w' (R' 36) ((gtD (gtD p0 y5) y12).2.1):=hd 0 _ _ _ rfl rfl rfl rfl hg;exact OpF.int (zAv a0.ptr Try.isAgg3 Try.sizeOf3)) <|
              Obls.cons (Obl.grd 7 false _ _ _ rfl rfl rfl rfl rfl (by kernel_rfl) fun hg R' w' hw hs hd=>by have a0:R' 37 = .int .i64 ((gtD (gtD p0 y5) y12).2.1):=hd 0 _ _ _ rfl rfl rfl rfl hg;exact zAl Try.call51 (zDZ (q19 hg) (hA.fr hw.size) a0 rfl rfl)) <|
              Obls.cons (Obl.grd 7 false _ _ _ rfl rfl rfl rfl rfl (by kernel_rfl) fun hg R' w' hw hs hd=>by have a0:R' 38 = .bool x18:=hd 0 _ _ _ rfl rfl rfl rfl hg;exact zD7 a0) <|
              Obls.cons (Obl.plain rfl rfl fun R' w' hw hs hd=>by have a0:R' 32 = .bool (!x15):=hd 0 _ _ _ rfl rfl rfl rfl rfl;exact zCf (!x15) a0 (fun hc=>by show _=Value.bool x20;rw [q21,hc];exact rfl) (fun hc=>by have a2:R' 39 = .bool (!x18):=hd 1 _ _ _ rfl rfl rfl rfl (zEq rfl (zDd hc));show _=Value.bool x20;rw [q21,hc];exact a2)) <|
              Obls.cons (Obl.plain rfl rfl fun R' w' hw hs hd=>by have a0:R' 40 = .bool x20:=hd 0 _ _ _ rfl rfl rfl rfl rfl;exact zA5 a0) <|
              Obls.cons (Obl.grd 16 false _ _ _ rfl rfl rfl rfl rfl (by kernel_rfl) fun hg R' w' hw hs hd=>by have a0:R' 5 = .int .i64 y12:=(hs 5 rfl).trans h5;exact zA5 a0) <|
              Obls.cons (Obl.grd 16 false _ _ _ rfl rfl rfl rfl rfl (by kernel_rfl) fun hg R' w' hw hs hd=>by have a0:R' 42 = .int .i64 y12:=hd 0 _ _ _ rfl rfl rfl rfl hg;exact zJq a0 rfl) <|
              Obls.cons (Obl.grd 16 false _ _ _ rfl rfl rfl rfl rfl (by kernel_rfl) fun hg R' w' hw hs hd=>by have a0:R' 43 = .bool (decide ((0:Int)<y12)):=hd 0 _ _ _ rfl rfl rfl rfl hg;exact zA5 a0) <|
              Obls.cons (Obl.grd 19 true _ _ _ rfl rfl rfl rfl rfl (by kernel_rfl) fun hg R' w' hw hs hd=>by have a0:R' 4=u8:=(hs 4 rfl).trans h4;exact zA5 a0) <|
              Obls.cons (Obl.grd 19 true _ _ _ rfl rfl rfl rfl rfl (by kernel_rfl) fun hg R' w' hw hs hd=>by have a0:R' 5 = .int .i64 y12:=(hs 5 rfl).trans h5;exact zA5 a0) <|
              Obls.cons (Obl.grd 19 true _ _ _ rfl rfl rfl rfl rfl (by kernel_rfl) fun hg R' w' hw hs hd=>by have a0:R' 46 = .int .i64 y12:=hd 0 _ _ _ rfl rfl rfl rfl hg;exact zGv a0 rfl (gd e22 hg)) <|
              Obls.cons (Obl.grd 19 true _ _ _ rfl rfl rfl rfl rfl (by kernel_rfl) fun hg R' w' hw hs hd=>by have a0:R' 45=u8:=hd 0 _ _ _ rfl rfl rfl rfl hg;have a1:R' 47 = .int .i64 (y12-(1:Int)):=hd 1 _ _ _ rfl rfl rfl rfl hg;have ra0:=(f_u8.fr hw).eq a0;exact zAN ra0 a1 Try.underlying65 Try.sizeOf82 (gd e23 hg)) <|
              Obls.cons (Obl.grd 19 true _ _ _ rfl rfl rfl rfl rfl (by kernel_rfl) fun hg R' w' hw hs hd=>by have a0:QRep zA1 A w' (R' 48) (gtD (gtD p0 y5) (y12-(1:Int))):=hd 0 _ _ _ rfl rfl rfl rfl hg;exact zAc a0 zCS Try.sizeOf3 (by decide) zAz rfl) <|
              Obls.cons (Obl.grd 19 true _ _ _ rfl rfl rfl rfl rfl (by kernel_rfl) fun hg R' w' hw hs hd=>by have a0:QRep (eInt .i64) A w' (R' 49) ((gtD (gtD p0 y5) (y12-(1:Int))).1):=hd 0 _ _ _ rfl rfl rfl rfl hg;exact OpF.int (zAv a0.ptr Try.isAgg3 Try.sizeOf3)) <|
              Obls.cons (Obl.grd 19 true _ _ _ rfl rfl rfl rfl rfl (by kernel_rfl) fun hg R' w' hw hs hd=>by have a0:R' 4=u8:=(hs 4 rfl).trans h4;exact zA5 a0) <|
              Obls.cons (Obl.grd 19 true _ _ _ rfl rfl rfl rfl rfl (by kernel_rfl) fun hg R' w' hw hs hd=>by have a0:R' 5 = .int .i64 y12:=(hs 5 rfl).trans h5;exact zA5 a0) <|
              Obls.cons (Obl.grd 19 true _ _ _ rfl rfl rfl rfl rfl (by kernel_rfl) fun hg R' w' hw hs hd=>by have a0:R' 51=u8:=hd 0 _ _ _ rfl rfl rfl rfl hg;have a1:R' 52 = .int .i64 y12:=hd 1 _ _ _ rfl rfl rfl rfl hg;have ra0:=(f_u8.fr hw).eq a0;exact zAN ra0 a1 Try.underlying65 Try.sizeOf82 (gd e24 hg)) <|
              Obls.cons (Obl.grd 19 true _ _ _ rfl rfl rfl rfl rfl (by kernel_rfl) fun hg R' w' hw hs hd=>by have a0:QRep zA1 A w' (R' 53) (gtD (gtD p0 y5) y12):=hd 0 _ _ _ rfl rfl rfl rfl hg;exact zAc a0 zCS Try.sizeOf3 (by decide) zAz rfl) <|
              Obls.cons (Obl.grd 19 true _ _ _ rfl rfl rfl rfl rfl (by kernel_rfl) fun hg R' w' hw hs hd=>by have a0:QRep (eInt .i64) A w' (R' 54) ((gtD (gtD p0 y5) y12).1):=hd 0 _ _ _ rfl rfl rfl rfl hg;exact OpF.int (zAv a0.ptr Try.isAgg3 Try.sizeOf3)) <|
              Obls.cons (Obl.grd 19 true _ _ _ rfl rfl rfl rfl rfl (by kernel_rfl) fun hg R' w' hw hs hd=>by have a0:R' 50 = .int .i64 ((gtD (gtD p0 y5) (y12-(1:Int))).1):=hd 0 _ _ _ rfl rfl rfl rfl hg;have a1:R' 55 = .int .i64 ((gtD (gtD p0 y5) y12).1):=hd 1 _ _ _ rfl rfl rfl rfl hg;exact zHz a0 a1) <|
              Obls.cons (Obl.grd 16 false _ _ _ rfl rfl rfl rfl rfl (by kernel_rfl) fun hg R' w' hw hs hd=>by have a0:R' 44 = .bool (decide ((0:Int)<y12)):=hd 0 _ _ _ rfl rfl rfl rfl hg;exact zCf (decide ((0:Int)<y12)) a0 (fun hc=>by have a1:R' 56 = .bool (decide (((gtD (gtD p0 y5) y12).1)≤((gtD (gtD p0 y5) (y12-(1:Int))).1))):=hd 1 _ _ _ rfl rfl rfl rfl (zEq hg (zDd hc));show _=Value.bool x25;rw [q26,hc];exact a1) (fun hc=>by show _=Value.bool x25;rw [q26,hc];exact rfl)) <|
              Obls.cons (Obl.plain rfl rfl fun R' w' hw hs hd=>by have a0:R' 41 = .bool x20:=hd 0 _ _ _ rfl rfl rfl rfl rfl;exact zCf x20 a0 (fun hc=>by show _=Value.bool x27;rw [q28,hc];exact rfl) (fun hc=>by have a2:R' 57 = .bool x25:=hd 1 _ _ _ rfl rfl rfl rfl (zEq rfl (zDd hc));show _=Value.bool x27;rw [q28,hc];exact a2)) <|
              Obls.nil
          intro R w hw hs hF'
          replace h1:R 1=(.pointer (some ⟨b1_0,0,none⟩)):=(hs 1 rfl).trans h1
          replace h3:R 3 = .int .i64 y5:=(hs 3 rfl).trans h3
          replace h4:R 4=u8:=(hs 4 rfl).trans h4
          replace h5:R 5 = .int .i64 y12:=(hs 5 rfl).trans h5
          have h58:R 58 = .bool x27:=hF' 33 _ _ rfl rfl rfl
          replace f_u8:=f_u8.fr hw
          replace hO:=hO.fr hw
          replace hA:=hA.fr hw.size
          replace hF:=hF.trans hw
          clear hs hF' hw
          refine zA4 ?_
          refine HT.cond x27 h58 (fun c29=>?_) (fun c29=>?_)
          · have hr := zAq c29 hr
            refine HT.seq ?_
            refine HT.text (l:=⟨_,true,.raw (.bool false)⟩::[]) (tl:=[]) (by kernel_rfl) (by kernel_rfl) (by kernel_rfl) ?_ ?_
            · exact
                Obls.cons (Obl.plain rfl rfl fun R' w' hw hs hd=>by exact zA6 rfl) <|
                Obls.nil
            intro R w hw hs hF'
            have h2:R 2 = .bool false:=hF' 0 _ _ rfl rfl rfl
            replace hO:=hO.fr hw
            replace hO:IniOK [] A w:=hO.sub [] trivial
            replace hA:=hA.fr hw.size
            replace hF:=hF.trans hw
            clear hs hF' hw
            refine zA4 ?_
            refine HT.ret ?_
            obtain rfl:=Option.some.inj hr
            have hr:=hr1
            replace hr:some _=some _:=hr
            obtain rfl:=Option.some.inj hr
            have hr:=hr0
            replace hr:some _=some _:=hr
            obtain rfl:=Option.some.inj hr
            exact ⟨.inr rfl,[R 2],⟨rfl,trivial⟩,h2,hF⟩
          · have hr := zAp c29 hr
            refine HT.skip ?_
            obtain ⟨e30,hr⟩:=zAF hr
            refine HT.text (l:=⟨_,true,.raw (.int .i64 y12)⟩::⟨_,true,.raw (.int .i64 (y12+(1:Int)))⟩::⟨_,true,.raw (.int .i64 (y12+(1:Int)))⟩::[]) (tl:=[]) (by kernel_rfl) (by kernel_rfl) (by kernel_rfl) ?_ ?_
            · exact
                Obls.cons (Obl.plain rfl rfl fun R' w' hw hs hd=>by have a0:R' 5 = .int .i64 y12:=(hs 5 rfl).trans h5;exact zA5 a0) <|
                Obls.cons (Obl.plain rfl rfl fun R' w' hw hs hd=>by have a0:R' 23 = .int .i64 y12:=hd 0 _ _ _ rfl rfl rfl rfl rfl;exact zB8 a0 rfl e30) <|
                Obls.cons (Obl.plain rfl rfl fun R' w' hw hs hd=>by have a0:R' 24 = .int .i64 (y12+(1:Int)):=hd 0 _ _ _ rfl rfl rfl rfl rfl;exact zA6 a0) <|
                Obls.nil
            intro R w hw hs hF'
            replace h1:R 1=(.pointer (some ⟨b1_0,0,none⟩)):=(hs 1 rfl).trans h1
            replace h3:R 3 = .int .i64 y5:=(hs 3 rfl).trans h3
            replace h4:R 4=u8:=(hs 4 rfl).trans h4
            have h5:R 5 = .int .i64 (y12+(1:Int)):=hF' 2 _ _ rfl rfl rfl
            replace f_u8:=f_u8.fr hw
            replace hO:=hO.fr hw
            replace hA:=hA.fr hw.size
            replace hF:=hF.trans hw
            clear hs hF' hw
            refine zA4 ?_
            exact Exists.intro k (And.intro (Nat.lt_succ_self k) ⟨_,_,hr,hA,hF,hAA,hO,h1,h3,h4,h5,f_u8⟩)
        · have hr := zAp c13 hr
          refine HT.exit ?_
          obtain rfl:=Option.some.inj hr
          exact Exists.intro _ ⟨_,rfl,hA,hF,hAA,hO,h1,h3,h4,f_u8⟩
      rintro R w ⟨A,s11,rfl,hA,hF,hAA,hO,h1,h3,h4,f_u8⟩
      have hr:=zDj hr
      refine HT.seq ?_
      obtain ⟨x31,q32,hr⟩:=zAK hr
      refine HT.text (l:=⟨_,true,.raw u8⟩::⟨_,true,.raw (.int .i64 ((gtD p0 y5).length:Int))⟩::⟨_,true,.raw (.bool x31)⟩::⟨_,true,.raw (.bool (!x31))⟩::[]) (tl:=[]) (by kernel_rfl) (by kernel_rfl) (by kernel_rfl) ?_ ?_
      · exact
          Obls.cons (Obl.plain rfl rfl fun R' w' hw hs hd=>by have a0:R' 4=u8:=(hs 4 rfl).trans h4;exact zA5 a0) <|
          Obls.cons (Obl.plain rfl rfl fun R' w' hw hs hd=>by have a0:R' 59=u8:=hd 0 _ _ _ rfl rfl rfl rfl rfl;have ra0:=(f_u8.fr hw).eq a0;exact zAd (aT:=#[]) ra0 Try.underlying65) <|
          Obls.cons (Obl.plain rfl rfl fun R' w' hw hs hd=>by have a0:R' 60 = .int .i64 ((gtD p0 y5).length:Int):=hd 0 _ _ _ rfl rfl rfl rfl rfl;exact zAl Try.call51 (zDZ (q32 rfl) (hA.fr hw.size) a0 rfl rfl)) <|
          Obls.cons (Obl.plain rfl rfl fun R' w' hw hs hd=>by have a0:R' 61 = .bool x31:=hd 0 _ _ _ rfl rfl rfl rfl rfl;exact zD7 a0) <|
          Obls.nil
      intro R w hw hs hF'
      replace h1:R 1=(.pointer (some ⟨b1_0,0,none⟩)):=(hs 1 rfl).trans h1
      replace h3:R 3 = .int .i64 y5:=(hs 3 rfl).trans h3
      have h62:R 62 = .bool (!x31):=hF' 3 _ _ rfl rfl rfl
      replace hO:=hO.fr hw
      replace hA:=hA.fr hw.size
      replace hF:=hF.trans hw
      clear hs hF' hw
      refine zA4 ?_
      refine HT.cond (!x31) h62 (fun c33=>?_) (fun c33=>?_)
      · have hr := zAq c33 hr
        refine HT.seq ?_
        refine HT.text (l:=⟨_,true,.raw (.bool false)⟩::[]) (tl:=[]) (by kernel_rfl) (by kernel_rfl) (by kernel_rfl) ?_ ?_
        · exact
            Obls.cons (Obl.plain rfl rfl fun R' w' hw hs hd=>by exact zA6 rfl) <|
            Obls.nil
        intro R w hw hs hF'
        have h2:R 2 = .bool false:=hF' 0 _ _ rfl rfl rfl
        replace hO:=hO.fr hw
        replace hO:IniOK [] A w:=hO.sub [] trivial
        replace hA:=hA.fr hw.size
        replace hF:=hF.trans hw
        clear hs hF' hw
        refine zA4 ?_
        refine HT.ret ?_
        obtain rfl:=Option.some.inj hr
        have hr:=hr0
        replace hr:some _=some _:=hr
        obtain rfl:=Option.some.inj hr
        exact ⟨.inr rfl,[R 2],⟨rfl,trivial⟩,h2,hF⟩
      · have hr := zAp c33 hr
        refine HT.skip ?_
        obtain ⟨e34,hr⟩:=zAF hr
        refine HT.text (l:=⟨_,true,.raw (.int .i64 y5)⟩::⟨_,true,.raw (.int .i64 (y5+(1:Int)))⟩::⟨_,true,.raw (.int .i64 (y5+(1:Int)))⟩::[]) (tl:=[]) (by kernel_rfl) (by kernel_rfl) (by kernel_rfl) ?_ ?_
        · exact
            Obls.cons (Obl.plain rfl rfl fun R' w' hw hs hd=>by have a0:R' 3 = .int .i64 y5:=(hs 3 rfl).trans h3;exact zA5 a0) <|
            Obls.cons (Obl.plain rfl rfl fun R' w' hw hs hd=>by have a0:R' 11 = .int .i64 y5:=hd 0 _ _ _ rfl rfl rfl rfl rfl;exact zB8 a0 rfl e34) <|
            Obls.cons (Obl.plain rfl rfl fun R' w' hw hs hd=>by have a0:R' 12 = .int .i64 (y5+(1:Int)):=hd 0 _ _ _ rfl rfl rfl rfl rfl;exact zA6 a0) <|
            Obls.nil
        intro R w hw hs hF'
        replace h1:R 1=(.pointer (some ⟨b1_0,0,none⟩)):=(hs 1 rfl).trans h1
        have h3:R 3 = .int .i64 (y5+(1:Int)):=hF' 2 _ _ rfl rfl rfl
        replace hO:=hO.fr hw
        replace hA:=hA.fr hw.size
        replace hF:=hF.trans hw
        clear hs hF' hw
        refine zA4 ?_
        exact Exists.intro k (And.intro (Nat.lt_succ_self k) ⟨_,_,hr,hA,hF,hAA,hO,h1,h3⟩)
    · have hr := zAp c6 hr
      refine HT.exit ?_
      obtain rfl:=Option.some.inj hr
      exact Exists.intro _ ⟨_,rfl,hA,hF,hAA,hO,h1⟩
  rintro R w ⟨A,s4,rfl,hA,hF,hAA,hO,h1⟩
  have hr:=zDj hr
  refine HT.seq ?_
  obtain ⟨x35,q36,hr⟩:=zAK hr
  refine HT.text (l:=⟨_,true,.raw (.pointer (some ⟨b1_0,0,none⟩))⟩::⟨_,true,.rep (eSl zAC) A p0⟩::⟨_,true,.raw (.int .i64 (p0.length:Int))⟩::⟨_,true,.raw (.bool x35)⟩::⟨_,true,.raw (.bool x35)⟩::[]) (tl:=[]) (by kernel_rfl) (by kernel_rfl) (by kernel_rfl) ?_ ?_
  · exact
      Obls.cons (Obl.plain rfl rfl fun R' w' hw hs hd=>by have a0:R' 1=(.pointer (some ⟨b1_0,0,none⟩)):=(hs 1 rfl).trans h1;exact zAB a0 zCl Try.sizeOf27 (by decide) rfl) <|
      Obls.cons (Obl.plain rfl rfl fun R' w' hw hs hd=>by have a0:R' 63=(.pointer (some ⟨b1_0,0,none⟩)):=hd 0 _ _ _ rfl rfl rfl rfl rfl;exact (zAD ((hO.fr hw).ok 0 _ rfl).1 a0 zAg rfl Try.isAgg27 Try.sizeOf27)) <|
      Obls.cons (Obl.plain rfl rfl fun R' w' hw hs hd=>by have a0:Rep (eSl zAC) A w' (R' 64) p0:=hd 0 _ _ _ rfl rfl rfl rfl rfl;exact zAd (aT:=#[]) a0 Try.underlying27) <|
      Obls.cons (Obl.plain rfl rfl fun R' w' hw hs hd=>by have a0:R' 65 = .int .i64 (p0.length:Int):=hd 0 _ _ _ rfl rfl rfl rfl rfl;exact zAl Try.call51 (zDZ (q36 rfl) (hA.fr hw.size) a0 rfl rfl)) <|
      Obls.cons (Obl.plain rfl rfl fun R' w' hw hs hd=>by have a0:R' 66 = .bool x35:=hd 0 _ _ _ rfl rfl rfl rfl rfl;exact zA6 a0) <|
      Obls.nil
  intro R w hw hs hF'
  have h2:R 2 = .bool x35:=hF' 4 _ _ rfl rfl rfl
  replace hO:=hO.fr hw
  replace hO:IniOK [] A w:=hO.sub [] trivial
  replace hA:=hA.fr hw.size
  replace hF:=hF.trans hw
  clear hs hF' hw
  refine zA4 ?_
  refine HT.ret ?_
  obtain rfl:=Option.some.inj hr
  exact ⟨.inr rfl,[R 2],⟨rfl,trivial⟩,h2,hF⟩
def zBu (fu : Nat) (p0 : List Int) (p1 : Int) : Nat → Int → Option Int
  | 0,_=>none
  | k+1,y4=>
    ck (!(true&&((decide (y4<(p0.length:Int)))==true)) || inR y4 p0.length) <|
    bd ((decide (y4<(p0.length:Int)))&&(decide ((gtD p0 y4)<p1))) fun x6=>
    bif x6 then (
      ck (i64B (y4+(1:Int))) <|
      zBu fu p0 p1 k (y4+(1:Int))
    ) else (
      some y4
    )
def zDE (fu:Nat) (p0:List Int) (p1:Int):Option (List Int):=
  cl true (zBu fu p0 p1 fu (0:Int)) fun s3=>
  ck (!(true&&((decide (s3<(p0.length:Int)))==true)) || inR s3 p0.length) <|
  bd ((decide (s3<(p0.length:Int)))&&((gtD p0 s3)==p1)) fun x11=>
  bif x11 then (
    some p0
  ) else (
    ck (subR 0 s3 p0.length) <|
    bd (s3.toNat-(0:Int).toNat) fun x15=>
    ck (zFo (([]:List Int).length+(subL p0 0 s3).length)) <|
    ck (zFo ((([]:List Int)++(subL p0 0 s3)).length+([p1]:List Int).length)) <|
    ck (subR s3 (p0.length:Int) p0.length) <|
    bd ((p0.length:Int).toNat-s3.toNat) fun x20=>
    ck (zFo (((([]:List Int)++(subL p0 0 s3))++([p1]:List Int)).length+(subL p0 s3 (p0.length:Int)).length)) <|
    some (((([]:List Int)++(subL p0 0 s3))++([p1]:List Int))++(subL p0 s3 (p0.length:Int)))
  )
set_option maxRecDepth 100000 in
set_option maxHeartbeats 4000000 in
theorem zGA {fu : Nat} {A0 : Av} {p0 : List Int} {p1 : Int} {r : List Int} (hr : zDE fu p0 p1 = some r) {w : World} {v0 : Value} {v1 : Value} {B0 : Nat} (hA : AvOK A0 w) (hN : ∀ b o, A0 b o → ¬ zAV v0 b) (hB0 : B0 ≤ w.heap.size) (h0 : (Res.vec B0 3 (eInt .i64) p0).ok A0 v0 w) (h1 : v1 = .int .i64 p1) :
    Calls Try.prog 64 #[v0,v1] w fun e w'=>∃ v,e = .returned v∧Took (addA A0 v0) true v0 (.vec B0 3 (eInt .i64) r) (fun _=>.any) w v w':=by
  unfold zDE at hr
  obtain ⟨w0,hw0⟩:∃ w0,w0=w:=⟨_,rfl⟩
  have hF:Ch (zAV v0) w0 w:=hw0 ▸ Ch.refl _ _
  replace hB0:B0≤w0.heap.size:=hw0 ▸ hB0
  have hA0:∀ b o,A0 b o→b<w0.heap.size:=fun b o h=>hw0 ▸ hA b o h
  have hA00:AvOK A0 w0:=hA0
  rw [show Took (addA A0 v0) true v0 (.vec B0 3 (eInt .i64) r) (fun _=>.any) w=Took (addA A0 v0) true v0 (.vec B0 3 (eInt .i64) r) (fun _=>.any) w0 from hw0 ▸ rfl]
  clear hw0
  obtain ⟨A,hAe⟩:∃ A,A=addA A0 v0:=⟨_,rfl⟩
  have hAA:∀ b o,A0 b o→A b o:=fun b o h=>hAe ▸ .inl h
  replace hA:AvOK A w:=hAe ▸ hA.one h0
  have hO:IniOK [ob v0 (.vec B0 3 (eInt .i64) p0)] A w:=hAe ▸ IniOK.one h0 (fun _ _ _ _ _ h=>h)
  refine zAI [.tmp 4] Try.func64 Try.ntmps64 (by decide) rfl rfl (Nat.le_of_ble_eq_true rfl) ?_
  intro R hR
  replace h0:R 0=v0:=hR 0 _ rfl
  replace h1:R 1 = .int .i64 p1:=(hR 1 _ rfl).trans h1
  clear hR hAe
  refine HT.seq ?_
  refine HT.text (l:=⟨_,true,.any⟩::[]) (tl:=[]) (by kernel_rfl) (by kernel_rfl) (by kernel_rfl) ?_ ?_
  · exact
      Obls.cons (Obl.plain rfl rfl fun R' w' hw hs hd=>by exact zA6 trivial) <|
      Obls.nil
  intro R w hw hs hF'
  replace h0:R 0=v0:=(hs 0 rfl).trans h0
  replace h1:R 1 = .int .i64 p1:=(hs 1 rfl).trans h1
  replace hO:=hO.fr hw
  replace hA:=hA.fr hw.size
  replace hF:=hF.tr (hw.ch noB) fun _ h=>False.elim h
  clear hs hF' hw
  refine zA4 ?_
  refine HT.seq ?_
  refine HT.text (l:=⟨_,true,.raw (.int .i64 (0:Int))⟩::[]) (tl:=[]) (by kernel_rfl) (by kernel_rfl) (by kernel_rfl) ?_ ?_
  · exact
      Obls.cons (Obl.plain rfl rfl fun R' w' hw hs hd=>by exact zA6 rfl) <|
      Obls.nil
  intro R w hw hs hF'
  replace h0:R 0=v0:=(hs 0 rfl).trans h0
  replace h1:R 1 = .int .i64 p1:=(hs 1 rfl).trans h1
  have h5:R 5 = .int .i64 (0:Int):=hF' 0 _ _ rfl rfl rfl
  replace hO:=hO.fr hw
  replace hA:=hA.fr hw.size
  replace hF:=hF.tr (hw.ch noB) fun _ h=>False.elim h
  clear hs hF' hw
  refine zA4 ?_
  obtain ⟨rl1,q2,hr⟩:=zAK hr
  replace q2:=q2 rfl
  refine HT.cut (fun R w=>∃ A:Av,∃ (s3:Int),rl1=s3∧AvOK A w∧Ch (zAV v0) w0 w∧(∀ b o,A0 b o→A b o)∧IniOK [ob v0 (.vec B0 3 (eInt .i64) p0)] A w∧R 0=v0∧R 1 = .int .i64 p1∧R 5 = .int .i64 s3) ?_ ?_
  · refine HT.block ?_
    refine HT.loop (fun k R w=>∃ A:Av,∃ (y4:Int),zBu fu p0 p1 k y4=some rl1∧AvOK A w∧Ch (zAV v0) w0 w∧(∀ b o,A0 b o→A b o)∧IniOK [ob v0 (.vec B0 3 (eInt .i64) p0)] A w∧R 0=v0∧R 1 = .int .i64 p1∧R 5 = .int .i64 y4) fu ⟨_,_,q2,hA,hF,hAA,hO,h0,h1,h5⟩ ?_
    have hr0:=hr;clear hr q2
    rintro k R w ⟨A,y4,hr,hA,hF,hAA,hO,h0,h1,h5⟩
    rcases k with _ | k
    · cases (show none=some _ from hr)
    rw [zBu] at hr
    refine HT.seq ?_
    refine HT.seq ?_
    obtain ⟨e5,hr⟩:=zAF hr
    obtain ⟨x6,q7,hr⟩:=zC9 hr
    refine HT.text (l:=⟨_,true,.raw (.int .i64 y4)⟩::⟨_,true,.raw v0⟩::⟨_,true,.raw (.int .i64 (p0.length:Int))⟩::⟨_,true,.raw (.bool (decide (y4<(p0.length:Int))))⟩::⟨_,true,.raw (.bool (decide (y4<(p0.length:Int))))⟩::⟨_,(true&&((decide (y4<(p0.length:Int)))==true)),.raw v0⟩::⟨_,(true&&((decide (y4<(p0.length:Int)))==true)),.raw (.int .i64 y4)⟩::⟨_,(true&&((decide (y4<(p0.length:Int)))==true)),.raw (vptr v0 (y4.toNat*1))⟩::⟨_,(true&&((decide (y4<(p0.length:Int)))==true)),.raw (.int .i64 (gtD p0 y4))⟩::⟨_,(true&&((decide (y4<(p0.length:Int)))==true)),.raw (.int .i64 p1)⟩::⟨_,(true&&((decide (y4<(p0.length:Int)))==true)),.raw (.bool (decide ((gtD p0 y4)<p1)))⟩::⟨_,true,.raw (.bool x6)⟩::[]) (tl:=[]) (by kernel_rfl) (by kernel_rfl) (by kernel_rfl) ?_ ?_
    · exact
        Obls.cons (Obl.plain rfl rfl fun R' w' hw hs hd=>by have a0:R' 5 = .int .i64 y4:=(hs 5 rfl).trans h5;exact zA5 a0) <|
        Obls.cons (Obl.plain rfl rfl fun R' w' hw hs hd=>by have a0:R' 0=v0:=(hs 0 rfl).trans h0;exact zA5 a0) <|
        Obls.cons (Obl.plain rfl rfl fun R' w' hw hs hd=>by have a0:R' 7=v0:=hd 0 _ _ _ rfl rfl rfl rfl rfl;exact zDR (hO.ok 0 _ rfl).1 a0 Try.underlying33) <|
        Obls.cons (Obl.plain rfl rfl fun R' w' hw hs hd=>by have a0:R' 6 = .int .i64 y4:=hd 0 _ _ _ rfl rfl rfl rfl rfl;have a1:R' 8 = .int .i64 (p0.length:Int):=hd 1 _ _ _ rfl rfl rfl rfl rfl;exact zBI a0 a1) <|
        Obls.cons (Obl.plain rfl rfl fun R' w' hw hs hd=>by have a0:R' 9 = .bool (decide (y4<(p0.length:Int))):=hd 0 _ _ _ rfl rfl rfl rfl rfl;exact zA5 a0) <|
        Obls.cons (Obl.grd 4 true _ _ _ rfl rfl rfl rfl rfl (by kernel_rfl) fun hg R' w' hw hs hd=>by have a0:R' 0=v0:=(hs 0 rfl).trans h0;exact zA5 a0) <|
        Obls.cons (Obl.grd 4 true _ _ _ rfl rfl rfl rfl rfl (by kernel_rfl) fun hg R' w' hw hs hd=>by have a0:R' 5 = .int .i64 y4:=(hs 5 rfl).trans h5;exact zA5 a0) <|
        Obls.cons (Obl.grd 4 true _ _ _ rfl rfl rfl rfl rfl (by kernel_rfl) fun hg R' w' hw hs hd=>by have a0:R' 11=v0:=hd 0 _ _ _ rfl rfl rfl rfl hg;have a1:R' 12 = .int .i64 y4:=hd 1 _ _ _ rfl rfl rfl rfl hg;exact zAr (hO.ok 0 _ rfl).1 a0 a1 Try.underlying33 Try.sizeOf3 (gd e5 hg) rfl) <|
        Obls.cons (Obl.grd 4 true _ _ _ rfl rfl rfl rfl rfl (by kernel_rfl) fun hg R' w' hw hs hd=>by have a0:R' 13=(vptr v0 (y4.toNat*1)):=hd 0 _ _ _ rfl rfl rfl rfl hg;exact OpF.int (zD3 ((hO.fr hw).ok 0 _ rfl).1 a0 (gd e5 hg) rfl (Fld.id _) rfl Try.isAgg3 Try.sizeOf3)) <|
        Obls.cons (Obl.grd 4 true _ _ _ rfl rfl rfl rfl rfl (by kernel_rfl) fun hg R' w' hw hs hd=>by have a0:R' 1 = .int .i64 p1:=(hs 1 rfl).trans h1;exact zA5 a0) <|
        Obls.cons (Obl.grd 4 true _ _ _ rfl rfl rfl rfl rfl (by kernel_rfl) fun hg R' w' hw hs hd=>by have a0:R' 14 = .int .i64 (gtD p0 y4):=hd 0 _ _ _ rfl rfl rfl rfl hg;have a1:R' 15 = .int .i64 p1:=hd 1 _ _ _ rfl rfl rfl rfl hg;exact zBI a0 a1) <|
        Obls.cons (Obl.plain rfl rfl fun R' w' hw hs hd=>by have a0:R' 10 = .bool (decide (y4<(p0.length:Int))):=hd 0 _ _ _ rfl rfl rfl rfl rfl;exact zCf (decide (y4<(p0.length:Int))) a0 (fun hc=>by have a1:R' 16 = .bool (decide ((gtD p0 y4)<p1)):=hd 1 _ _ _ rfl rfl rfl rfl (zEq rfl (zDd hc));show _=Value.bool x6;rw [q7,hc];exact a1) (fun hc=>by show _=Value.bool x6;rw [q7,hc];exact rfl)) <|
        Obls.nil
    intro R w hw hs hF'
    replace h0:R 0=v0:=(hs 0 rfl).trans h0
    replace h1:R 1 = .int .i64 p1:=(hs 1 rfl).trans h1
    replace h5:R 5 = .int .i64 y4:=(hs 5 rfl).trans h5
    have h17:R 17 = .bool x6:=hF' 11 _ _ rfl rfl rfl
    replace hO:=hO.fr hw
    replace hA:=hA.fr hw.size
    replace hF:=hF.tr (hw.ch noB) fun _ h=>False.elim h
    clear hs hF' hw
    refine zA4 ?_
    refine HT.cond x6 h17 (fun c8=>?_) (fun c8=>?_)
    · have hr := zAq c8 hr
      refine HT.skip ?_
      refine HT.block ?_
      obtain ⟨e9,hr⟩:=zAF hr
      refine HT.text (l:=⟨_,true,.raw (.int .i64 y4)⟩::⟨_,true,.raw (.int .i64 (y4+(1:Int)))⟩::⟨_,true,.raw (.int .i64 (y4+(1:Int)))⟩::[]) (tl:=[]) (by kernel_rfl) (by kernel_rfl) (by kernel_rfl) ?_ ?_
      · exact
          Obls.cons (Obl.plain rfl rfl fun R' w' hw hs hd=>by have a0:R' 5 = .int .i64 y4:=(hs 5 rfl).trans h5;exact zA5 a0) <|
          Obls.cons (Obl.plain rfl rfl fun R' w' hw hs hd=>by have a0:R' 18 = .int .i64 y4:=hd 0 _ _ _ rfl rfl rfl rfl rfl;exact zB8 a0 rfl e9) <|
          Obls.cons (Obl.plain rfl rfl fun R' w' hw hs hd=>by have a0:R' 19 = .int .i64 (y4+(1:Int)):=hd 0 _ _ _ rfl rfl rfl rfl rfl;exact zA6 a0) <|
          Obls.nil
      intro R w hw hs hF'
      replace h0:R 0=v0:=(hs 0 rfl).trans h0
      replace h1:R 1 = .int .i64 p1:=(hs 1 rfl).trans h1
      have h5:R 5 = .int .i64 (y4+(1:Int)):=hF' 2 _ _ rfl rfl rfl
      replace hO:=hO.fr hw
      replace hA:=hA.fr hw.size
      replace hF:=hF.tr (hw.ch noB) fun _ h=>False.elim h
      clear hs hF' hw
      refine zA4 ?_
      exact Exists.intro k (And.intro (Nat.lt_succ_self k) ⟨_,_,hr,hA,hF,hAA,hO,h0,h1,h5⟩)
    · have hr := zAp c8 hr
      refine HT.exit ?_
      obtain rfl:=Option.some.inj hr
      exact Exists.intro _ ⟨_,rfl,hA,hF,hAA,hO,h0,h1,h5⟩
  rintro R w ⟨A,s3,es,hA,hF,hAA,hO,h0,h1,h5⟩
  obtain rfl:=es.symm
  refine HT.seq ?_
  refine HT.seq ?_
  obtain ⟨e10,hr⟩:=zAF hr
  obtain ⟨x11,q12,hr⟩:=zC9 hr
  refine HT.text (l:=⟨_,true,.raw (.int .i64 s3)⟩::⟨_,true,.raw v0⟩::⟨_,true,.raw (.int .i64 (p0.length:Int))⟩::⟨_,true,.raw (.bool (decide (s3<(p0.length:Int))))⟩::⟨_,true,.raw (.bool (decide (s3<(p0.length:Int))))⟩::⟨_,(true&&((decide (s3<(p0.length:Int)))==true)),.raw v0⟩::⟨_,(true&&((decide (s3<(p0.length:Int)))==true)),.raw (.int .i64 s3)⟩::⟨_,(true&&((decide (s3<(p0.length:Int)))==true)),.raw (vptr v0 (s3.toNat*1))⟩::⟨_,(true&&((decide (s3<(p0.length:Int)))==true)),.raw (.int .i64 (gtD p0 s3))⟩::⟨_,(true&&((decide (s3<(p0.length:Int)))==true)),.raw (.int .i64 p1)⟩::⟨_,(true&&((decide (s3<(p0.length:Int)))==true)),.raw (.bool ((gtD p0 s3)==p1))⟩::⟨_,true,.raw (.bool x11)⟩::[]) (tl:=[]) (by kernel_rfl) (by kernel_rfl) (by kernel_rfl) ?_ ?_
  · exact
      Obls.cons (Obl.plain rfl rfl fun R' w' hw hs hd=>by have a0:R' 5 = .int .i64 s3:=(hs 5 rfl).trans h5;exact zA5 a0) <|
      Obls.cons (Obl.plain rfl rfl fun R' w' hw hs hd=>by have a0:R' 0=v0:=(hs 0 rfl).trans h0;exact zA5 a0) <|
      Obls.cons (Obl.plain rfl rfl fun R' w' hw hs hd=>by have a0:R' 21=v0:=hd 0 _ _ _ rfl rfl rfl rfl rfl;exact zDR (hO.ok 0 _ rfl).1 a0 Try.underlying33) <|
      Obls.cons (Obl.plain rfl rfl fun R' w' hw hs hd=>by have a0:R' 20 = .int .i64 s3:=hd 0 _ _ _ rfl rfl rfl rfl rfl;have a1:R' 22 = .int .i64 (p0.length:Int):=hd 1 _ _ _ rfl rfl rfl rfl rfl;exact zBI a0 a1) <|
      Obls.cons (Obl.plain rfl rfl fun R' w' hw hs hd=>by have a0:R' 23 = .bool (decide (s3<(p0.length:Int))):=hd 0 _ _ _ rfl rfl rfl rfl rfl;exact zA5 a0) <|
      Obls.cons (Obl.grd 4 true _ _ _ rfl rfl rfl rfl rfl (by kernel_rfl) fun hg R' w' hw hs hd=>by have a0:R' 0=v0:=(hs 0 rfl).trans h0;exact zA5 a0) <|
      Obls.cons (Obl.grd 4 true _ _ _ rfl rfl rfl rfl rfl (by kernel_rfl) fun hg R' w' hw hs hd=>by have a0:R' 5 = .int .i64 s3:=(hs 5 rfl).trans h5;exact zA5 a0) <|
      Obls.cons (Obl.grd 4 true _ _ _ rfl rfl rfl rfl rfl (by kernel_rfl) fun hg R' w' hw hs hd=>by have a0:R' 25=v0:=hd 0 _ _ _ rfl rfl rfl rfl hg;have a1:R' 26 = .int .i64 s3:=hd 1 _ _ _ rfl rfl rfl rfl hg;exact zAr (hO.ok 0 _ rfl).1 a0 a1 Try.underlying33 Try.sizeOf3 (gd e10 hg) rfl) <|
      Obls.cons (Obl.grd 4 true _ _ _ rfl rfl rfl rfl rfl (by kernel_rfl) fun hg R' w' hw hs hd=>by have a0:R' 27=(vptr v0 (s3.toNat*1)):=hd 0 _ _ _ rfl rfl rfl rfl hg;exact OpF.int (zD3 ((hO.fr hw).ok 0 _ rfl).1 a0 (gd e10 hg) rfl (Fld.id _) rfl Try.isAgg3 Try.sizeOf3)) <|
      Obls.cons (Obl.grd 4 true _ _ _ rfl rfl rfl rfl rfl (by kernel_rfl) fun hg R' w' hw hs hd=>by have a0:R' 1 = .int .i64 p1:=(hs 1 rfl).trans h1;exact zA5 a0) <|
      Obls.cons (Obl.grd 4 true _ _ _ rfl rfl rfl rfl rfl (by kernel_rfl) fun hg R' w' hw hs hd=>by have a0:R' 28 = .int .i64 (gtD p0 s3):=hd 0 _ _ _ rfl rfl rfl rfl hg;have a1:R' 29 = .int .i64 p1:=hd 1 _ _ _ rfl rfl rfl rfl hg;exact zFA a0 a1) <|
      Obls.cons (Obl.plain rfl rfl fun R' w' hw hs hd=>by have a0:R' 24 = .bool (decide (s3<(p0.length:Int))):=hd 0 _ _ _ rfl rfl rfl rfl rfl;exact zCf (decide (s3<(p0.length:Int))) a0 (fun hc=>by have a1:R' 30 = .bool ((gtD p0 s3)==p1):=hd 1 _ _ _ rfl rfl rfl rfl (zEq rfl (zDd hc));show _=Value.bool x11;rw [q12,hc];exact a1) (fun hc=>by show _=Value.bool x11;rw [q12,hc];exact rfl)) <|
      Obls.nil
  intro R w hw hs hF'
  replace h0:R 0=v0:=(hs 0 rfl).trans h0
  replace h1:R 1 = .int .i64 p1:=(hs 1 rfl).trans h1
  replace h5:R 5 = .int .i64 s3:=(hs 5 rfl).trans h5
  have h31:R 31 = .bool x11:=hF' 11 _ _ rfl rfl rfl
  replace hO:=hO.fr hw
  replace hA:=hA.fr hw.size
  replace hF:=hF.tr (hw.ch noB) fun _ h=>False.elim h
  clear hs hF' hw
  refine zA4 ?_
  refine HT.cond x11 h31 (fun c13=>?_) (fun c13=>?_)
  · have hr := zAq c13 hr
    refine HT.seq ?_
    refine HT.text (l:=⟨_,true,.raw v0⟩::⟨_,true,.raw v0⟩::[]) (tl:=[]) (by kernel_rfl) (by kernel_rfl) (by kernel_rfl) ?_ ?_
    · exact
        Obls.cons (Obl.plain rfl rfl fun R' w' hw hs hd=>by have a0:R' 0=v0:=(hs 0 rfl).trans h0;exact zA5 a0) <|
        Obls.cons (Obl.plain rfl rfl fun R' w' hw hs hd=>by have a0:R' 32=v0:=hd 0 _ _ _ rfl rfl rfl rfl rfl;exact zA6 a0) <|
        Obls.nil
    intro R w hw hs hF'
    have h4:R 4=v0:=hF' 1 _ _ rfl rfl rfl
    replace hO:=hO.fr hw
    replace hA:=hA.fr hw.size
    replace hF:=hF.tr (hw.ch noB) fun _ h=>False.elim h
    clear hs hF' hw
    refine zA4 ?_
    refine HT.ret ?_
    obtain rfl:=Option.some.inj hr
    exact ⟨.inr rfl,[R 4],⟨rfl,trivial⟩,by show Took _ true _ _ _ w0 (R 4) w;rw [h4];exact zEr (fun k h o=>.inr h) hF (hO.ok 0 _ rfl).1 (hO.own_ge (⟨.inr (fun k h=>.inr h),trivial⟩) (i:=0) rfl) (fun _ _ _ _ _ h=>h)⟩
  · have hr := zAp c13 hr
    refine HT.skip ?_
    refine HT.seq ?_
    obtain ⟨e14,hr⟩:=zAF hr
    obtain ⟨x15,q16,hr⟩:=zC9 hr
    obtain ⟨e17,hr⟩:=zAF hr
    obtain ⟨e18,hr⟩:=zAF hr
    obtain ⟨e19,hr⟩:=zAF hr
    obtain ⟨x20,q21,hr⟩:=zC9 hr
    obtain ⟨e22,hr⟩:=zAF hr
    refine HT.drawR [ob v0 (.vec B0 3 (eInt .i64) p0)] (⟨_,true,[],some (.vec w0.heap.size 3 (eInt .i64) ([]:List Int)),true,fun A=>.any⟩::⟨_,true,[],none,true,fun A=>.raw v0⟩::⟨_,true,[],none,true,fun A=>.raw (.int .i64 s3)⟩::⟨_,true,[],none,true,fun A=>.raw (vsub v0 (0:Int).toNat x15 1)⟩::⟨_,true,[1],some (.vec w0.heap.size 3 (eInt .i64) (([]:List Int)++(subL p0 0 s3))),true,fun A=>.any⟩::⟨_,true,[],none,true,fun A=>.raw (.int .i64 p1)⟩::⟨_,true,[],none,true,fun A=>.rep (eSl (eInt .i64)) A ([p1]:List Int)⟩::⟨_,true,[5],some (.vec w0.heap.size 3 (eInt .i64) ((([]:List Int)++(subL p0 0 s3))++([p1]:List Int))),true,fun A=>.any⟩::⟨_,true,[],none,true,fun A=>.raw v0⟩::⟨_,true,[],none,true,fun A=>.raw (.int .i64 s3)⟩::⟨_,true,[],none,true,fun A=>.raw (vsub v0 s3.toNat x20 1)⟩::⟨_,true,[8],some (.vec w0.heap.size 3 (eInt .i64) (((([]:List Int)++(subL p0 0 s3))++([p1]:List Int))++(subL p0 s3 (p0.length:Int)))),true,fun A=>.any⟩::⟨_,true,[12],some (.vec w0.heap.size 3 (eInt .i64) (((([]:List Int)++(subL p0 0 s3))++([p1]:List Int))++(subL p0 s3 (p0.length:Int)))),true,fun A=>.any⟩::[]) (by kernel_rfl) (by kernel_rfl) (by kernel_rfl) (Wf.mk' (by kernel_rfl) (UAll.cons zAG (UAll.cons zAA (UAll.cons zAA (UAll.cons zAA (UAll.cons zAG (UAll.cons zAA (UAll.cons zAn (UAll.cons zAG (UAll.cons zAA (UAll.cons zAA (UAll.cons zAA (UAll.cons zAG (UAll.cons zAG (UAll.nil)))))))))))))) (by kernel_rfl) (by kernel_rfl)) hO hA ?_ ?_
    · exact
        zA9.cons (OblR.made _ rfl rfl rfl rfl fun A' R' w' ho hd=>by exact zFi [] (E:=eInt .i64) trivial Try.underlying33 Try.sizeOf3 Try.zeroValue3 rfl rfl rfl (Nat.le_trans hF.size ho.ch.size)) <|
        zA9.cons (OblR.plain rfl rfl rfl rfl fun A' R' w' ho hd=>by have a0:R' 0=v0:=(ho.old 0 rfl).trans h0;exact zA5 a0) <|
        zA9.cons (OblR.plain rfl rfl rfl rfl fun A' R' w' ho hd=>by have a0:R' 5 = .int .i64 s3:=(ho.old 5 rfl).trans h5;exact zA5 a0) <|
        zA9.cons (OblR.plain rfl rfl rfl rfl fun A' R' w' ho hd=>by have a0:R' 34=v0:=hd 0 _ _ _ rfl rfl rfl rfl rfl;have a1:R' 35 = .int .i64 s3:=hd 1 _ _ _ rfl rfl rfl rfl rfl;exact (q16 ▸ zJT (hO.ok 0 _ rfl).1 a0 a1 Try.underlying33 Try.sizeOf3 e14)) <|
        zA9.cons (OblR.took 1 _ _ rfl rfl rfl rfl rfl fun A' R' w' ho hd u hok hav hin hop hds=>by have a1:R' 36=(vsub v0 (0:Int).toNat x15 1):=hd 1 _ _ _ rfl rfl rfl rfl rfl;have ra1:Rep (eSl (eInt .i64)) A0 w' (R' 36) _:=(zIv (zIm (ho.rd 0 _ rfl rfl) (ho.lowK hAA hA0 hN (hO.geK (⟨.inr (fun k h=>.inr h),trivial⟩))) hA0 hN (fun k h=>.inr h)) e14 q16 rfl).eq a1;exact zEs (hop _ _ rfl rfl rfl rfl).symm hok hav (Nat.le_trans hF.size ho.ch.size) ra1 Try.underlying33 el_3 e17 (fun _ _ h=>h)) <|
        zA9.cons (OblR.plain rfl rfl rfl rfl fun A' R' w' ho hd=>by have a0:R' 1 = .int .i64 p1:=(ho.old 1 rfl).trans h1;exact zA5 a0) <|
        zA9.cons (OblR.plain rfl rfl rfl rfl fun A' R' w' ho hd=>by have a0:R' 38 = .int .i64 p1:=hd 0 _ _ _ rfl rfl rfl rfl rfl;exact zFW [_] (E:=eInt .i64) ⟨(zDU.eq a0),trivial⟩ Try.underlying33 Try.sizeOf3 Try.zeroValue3 rfl rfl rfl ho.av) <|
        zA9.cons (OblR.took 5 _ _ rfl rfl rfl rfl rfl fun A' R' w' ho hd u hok hav hin hop hds=>by have a1:Rep (eSl (eInt .i64)) A' w' (R' 39) ([p1]:List Int):=hd 1 _ _ _ rfl rfl rfl rfl rfl;exact zEQ (hop _ _ rfl rfl rfl rfl).symm hok hav (Nat.le_trans hF.size ho.ch.size) a1 Try.underlying33 el_3 e18) <|
        zA9.cons (OblR.plain rfl rfl rfl rfl fun A' R' w' ho hd=>by have a0:R' 0=v0:=(ho.old 0 rfl).trans h0;exact zA5 a0) <|
        zA9.cons (OblR.plain rfl rfl rfl rfl fun A' R' w' ho hd=>by have a0:R' 5 = .int .i64 s3:=(ho.old 5 rfl).trans h5;exact zA5 a0) <|
        zA9.cons (OblR.plain rfl rfl rfl rfl fun A' R' w' ho hd=>by have a0:R' 41=v0:=hd 0 _ _ _ rfl rfl rfl rfl rfl;have a1:R' 42 = .int .i64 s3:=hd 1 _ _ _ rfl rfl rfl rfl rfl;exact (q21 ▸ zIR (hO.ok 0 _ rfl).1 a0 a1 Try.underlying33 Try.sizeOf3 e19)) <|
        zA9.cons (OblR.took 8 _ _ rfl rfl rfl rfl rfl fun A' R' w' ho hd u hok hav hin hop hds=>by have a1:R' 43=(vsub v0 s3.toNat x20 1):=hd 1 _ _ _ rfl rfl rfl rfl rfl;have ra1:Rep (eSl (eInt .i64)) A0 w' (R' 43) _:=(zIv (zIm (ho.rd 0 _ rfl rfl) (ho.lowK hAA hA0 hN (hO.geK (⟨.inr (fun k h=>.inr h),trivial⟩))) hA0 hN (fun k h=>.inr h)) e19 q21 rfl).eq a1;exact zEs (hop _ _ rfl rfl rfl rfl).symm hok hav (Nat.le_trans hF.size ho.ch.size) ra1 Try.underlying33 el_3 e22 (fun _ _ h=>h)) <|
        zA9.cons (OblR.took 12 _ _ rfl rfl rfl rfl rfl fun A' R' w' ho hd u hok hav hin hop hds=>by exact zCA (hop _ _ rfl rfl rfl rfl).symm hok hav) <|
        zA9.nil
    intro done ρ σ A R w hdn hI
    have z23:=hI.inivR 0 rfl
    obtain ⟨u24,e_u24⟩:∃ u,ρ 13=u:=⟨_,rfl⟩
    have h4:R 4=u24:=(hI.opvR hdn 13 12 rfl rfl rfl rfl rfl).symm.trans e_u24
    replace hAA:=hI.lowK hAA hA0 hN (hO.geK (⟨.inr (fun k h=>.inr h),trivial⟩))
    replace hF:Ch (zAV v0) w0 w:=hF.tr hI.ch (hO.geK (⟨.inr (fun k h=>.inr h),trivial⟩))
    replace hO:IniOK [ob u24 (.vec w0.heap.size 3 (eInt .i64) (((([]:List Int)++(subL p0 0 s3))++([p1]:List Int))++(subL p0 s3 (p0.length:Int))))] A w:=hI.left hdn [(13,ob u24 (.vec w0.heap.size 3 (eInt .i64) (((([]:List Int)++(subL p0 0 s3))++([p1]:List Int))++(subL p0 s3 (p0.length:Int)))))] ⟨rfl,rfl,e_u24,rfl,rfl,trivial⟩
    replace hA:=hI.avok
    clear hI
    refine HT.ret ?_
    obtain rfl:=Option.some.inj hr
    exact ⟨.inr rfl,[R 4],⟨rfl,trivial⟩,by show Took _ true _ _ _ w0 (R 4) w;rw [h4];exact zEr (fun k h o=>.inr h) hF (zKP hB0 (hO.ok 0 _ rfl).1) (hO.own_ge (⟨.inl rfl,trivial⟩) (i:=0) rfl) (fun _ _ _ _ _ h=>h)⟩
def zAt (fu : Nat) (p0 : zAH) (p1 : Int) (y7 : Int) : Nat → Int → (List Int) → Option (List Int)
  | 0,_,_=>none
  | k+1,y13,y14=>
    ck (inR y7 p0.length) <|
    bif (decide (y13 < ((gtD p0 y7).length : Int))) then (
      ck (inR y7 p0.length) <|
      ck (inR y13 (gtD p0 y7).length) <|
      bif (((gtD (gtD p0 y7) y13).1) == p1) then (
        cl true (zDE fu y14 ((gtD (gtD p0 y7) y13).2.1)) fun x24=>
        ck (i64B (y13+(1:Int))) <|
        zAt fu p0 p1 y7 k (y13+(1:Int)) x24
      ) else (
        ck (i64B (y13+(1:Int))) <|
        zAt fu p0 p1 y7 k (y13+(1:Int)) y14
      )
    ) else (
      some y14
    )
def zB3 (fu : Nat) (p0 : zAH) (p1 : Int) : Nat → Int → (List Int) → Option (List Int)
  | 0,_,_=>none
  | k+1,y7,y8=>
    bif (decide (y7 < (p0.length : Int))) then (
      cl true (zAt fu p0 p1 y7 fu (0:Int) y8) fun s12=>
      ck (i64B (y7+(1:Int))) <|
      zB3 fu p0 p1 k (y7+(1:Int)) s12
    ) else (
      some y8
    )
def zC4 (fu:Nat) (p0:zAH) (p1:Int):Option (List Int):=
  cl true (zB3 fu p0 p1 fu (0:Int) ([(0:Int)]:List Int)) fun s6=>
  some s6
set_option maxRecDepth 100000 in
set_option maxHeartbeats 4000000 in
theorem zFH {fu : Nat} {A0 : Av} {p0 : zAH} {p1 : Int} {r : List Int} (hr : zC4 fu p0 p1 = some r) {w : World} {v0 : Value} {v1 : Value} (hA : AvOK A0 w) (h0 : Rep zA2 A0 w v0 p0) (h1 : v1 = .int .i64 p1) :
    Calls Try.prog 37 #[v0,v1] w fun e w'=>∃ v,e = .returned v∧((Res.vec w.heap.size 3 (eInt .i64) r).ok (addA A0 v) v w'∧Fr w w'):=by
  unfold zC4 at hr
  obtain ⟨w0,hw0⟩:∃ w0,w0=w:=⟨_,rfl⟩
  have hF:Fr w0 w:=hw0 ▸ Fr.refl _
  have hA0:∀ b o,A0 b o→b<w0.heap.size:=fun b o h=>hw0 ▸ hA b o h
  have hA00:AvOK A0 w0:=hA0
  rw [show w.heap.size=w0.heap.size from hw0 ▸ rfl]
  rw [show Fr w=Fr w0 from hw0 ▸ rfl]
  clear hw0
  obtain ⟨A,hAe⟩:∃ A,A=A0:=⟨_,rfl⟩
  have hAA:∀ b o,A0 b o→A b o:=fun b o h=>hAe ▸ h
  replace hA:AvOK A w:=hAe ▸ hA
  have hO:IniOK [] A w:=IniOK.nil
  refine zAI [.tmp 4] Try.func37 Try.ntmps37 (by decide) rfl rfl (Nat.le_of_ble_eq_true rfl) ?_
  intro R hR
  have f_v0:Rep zA2 A w v0 p0:=hAe ▸ h0
  replace h0:R 0=v0:=hR 0 _ rfl
  replace h1:R 1 = .int .i64 p1:=(hR 1 _ rfl).trans h1
  clear hR hAe
  refine HT.seq ?_
  refine HT.textR [] (⟨_,true,[],some (.box w0.heap.size 29 zA2 p0),true,fun A=>.any⟩::⟨_,true,[],none,true,fun A=>.any⟩::[]) (by kernel_rfl) (by kernel_rfl) (Wf.mk' (by kernel_rfl) (UAll.cons zAG (UAll.cons zAG (UAll.nil))) (by kernel_rfl) (by kernel_rfl)) hO hA ?_ ?_
  · exact
      zA9.cons (OblR.made _ rfl rfl rfl rfl fun A' R' w' ho hd=>by have a0:R' 0=v0:=(ho.old 0 rfl).trans h0;have ra0:=(f_v0.stp ho.stp).eq a0;exact zB9 ra0 (Nat.le_trans hF.size ho.ch.size)) <|
      zA9.cons (OblR.plain rfl rfl rfl rfl fun A' R' w' ho hd=>by exact zA6 trivial) <|
      zA9.nil
  intro done ρ σ A R w hdn hI
  replace h1:R 1 = .int .i64 p1:=(hI.reg rfl).trans h1
  obtain ⟨b2_0,e_b2_0⟩:=hI.boxv hdn 0 rfl rfl
  have h2:R 2=(.pointer (some ⟨b2_0,0,none⟩)):=(hI.opvR hdn 0 0 rfl rfl rfl rfl rfl).symm.trans e_b2_0
  replace hAA:=hI.low' hAA hA0 (hO.ge (trivial))
  replace hF:Fr w0 w:=hF.tr hI.ch (hO.ge (trivial))
  replace hO:IniOK [ob (.pointer (some ⟨b2_0,0,none⟩)) (.box w0.heap.size 29 zA2 p0)] A w:=hI.left hdn [(0,ob (.pointer (some ⟨b2_0,0,none⟩)) (.box w0.heap.size 29 zA2 p0))] ⟨rfl,rfl,e_b2_0,rfl,rfl,trivial⟩
  replace hA:=hI.avok
  clear hI
  refine HT.seq ?_
  refine HT.textR [ob (.pointer (some ⟨b2_0,0,none⟩)) (.box w0.heap.size 29 zA2 p0)] (⟨_,true,[],some (.vec w0.heap.size 3 (eInt .i64) ([(0:Int)]:List Int)),true,fun A=>.any⟩::⟨_,true,[1],some (.vec w0.heap.size 3 (eInt .i64) ([(0:Int)]:List Int)),true,fun A=>.any⟩::[]) (by kernel_rfl) (by kernel_rfl) (Wf.mk' (by kernel_rfl) (UAll.cons zAG (UAll.cons zAG (UAll.nil))) (by kernel_rfl) (by kernel_rfl)) hO hA ?_ ?_
  · exact
      zA9.cons (OblR.made _ rfl rfl rfl rfl fun A' R' w' ho hd=>by exact zFi [_] (E:=eInt .i64) ⟨(zDU.eq rfl),trivial⟩ Try.underlying33 Try.sizeOf3 Try.zeroValue3 rfl rfl rfl (Nat.le_trans hF.size ho.ch.size)) <|
      zA9.cons (OblR.took 1 _ _ rfl rfl rfl rfl rfl fun A' R' w' ho hd u hok hav hin hop hds=>by exact zCA (hop _ _ rfl rfl rfl rfl).symm hok hav) <|
      zA9.nil
  intro done ρ σ A R w hdn hI
  replace h1:R 1 = .int .i64 p1:=(hI.reg rfl).trans h1
  replace h2:R 2=(.pointer (some ⟨b2_0,0,none⟩)):=(hI.reg rfl).trans h2
  have z2:=hI.inivR 0 rfl
  obtain ⟨u3,e_u3⟩:∃ u,ρ 2=u:=⟨_,rfl⟩
  have h5:R 5=u3:=(hI.opvR hdn 2 1 rfl rfl rfl rfl rfl).symm.trans e_u3
  replace hAA:=hI.low' hAA hA0 (hO.ge (⟨rfl,trivial⟩))
  replace hF:Fr w0 w:=hF.tr hI.ch (hO.ge (⟨rfl,trivial⟩))
  replace hO:IniOK [ob (.pointer (some ⟨b2_0,0,none⟩)) (.box w0.heap.size 29 zA2 p0),ob u3 (.vec w0.heap.size 3 (eInt .i64) ([(0:Int)]:List Int))] A w:=hI.left hdn [(0,ob (.pointer (some ⟨b2_0,0,none⟩)) (.box w0.heap.size 29 zA2 p0)),(2,ob u3 (.vec w0.heap.size 3 (eInt .i64) ([(0:Int)]:List Int)))] ⟨rfl,rfl,z2,rfl,rfl,⟨rfl,rfl,e_u3,rfl,rfl,trivial⟩⟩
  replace hA:=hI.avok
  clear hI
  refine HT.seq ?_
  refine HT.seq ?_
  refine HT.text (l:=⟨_,true,.raw (.int .i64 (0:Int))⟩::[]) (tl:=[]) (by kernel_rfl) (by kernel_rfl) (by kernel_rfl) ?_ ?_
  · exact
      Obls.cons (Obl.plain rfl rfl fun R' w' hw hs hd=>by exact zA6 rfl) <|
      Obls.nil
  intro R w hw hs hF'
  replace h1:R 1 = .int .i64 p1:=(hs 1 rfl).trans h1
  replace h2:R 2=(.pointer (some ⟨b2_0,0,none⟩)):=(hs 2 rfl).trans h2
  replace h5:R 5=u3:=(hs 5 rfl).trans h5
  have h6:R 6 = .int .i64 (0:Int):=hF' 0 _ _ rfl rfl rfl
  replace hO:=hO.fr hw
  replace hA:=hA.fr hw.size
  replace hF:=hF.trans hw
  clear hs hF' hw
  refine zA4 ?_
  obtain ⟨rl4,q5,hr⟩:=zAK hr
  replace q5:=q5 rfl
  refine HT.cut0 (fun R w=>∃ A:Av,∃ (s6:(List Int)) (uo_u3:Value),rl4=s6∧AvOK A w∧Fr w0 w∧(∀ b o,A0 b o→A b o)∧IniOK [ob uo_u3 (.vec w0.heap.size 3 (eInt .i64) s6)] A w∧R 5=uo_u3) ?_ ?_
  · refine HT.block ?_
    refine HT.loop (fun k R w=>∃ A:Av,∃ (y7:Int) (y8:List Int) (ul_u3:Value),zB3 fu p0 p1 k y7 y8=some rl4∧AvOK A w∧Fr w0 w∧(∀ b o,A0 b o→A b o)∧IniOK [ob (.pointer (some ⟨b2_0,0,none⟩)) (.box w0.heap.size 29 zA2 p0),ob ul_u3 (.vec w0.heap.size 3 (eInt .i64) y8)] A w∧R 1 = .int .i64 p1∧R 2=(.pointer (some ⟨b2_0,0,none⟩))∧R 5=ul_u3∧R 6 = .int .i64 y7) fu ⟨_,_,_,u3,q5,hA,hF,hAA,hO,h1,h2,h5,h6⟩ ?_
    have hr0:=hr;clear hr q5
    rintro k R w ⟨A,y7,y8,ul_u3,hr,hA,hF,hAA,hO,h1,h2,h5,h6⟩
    rcases k with _ | k
    · cases (show none=some _ from hr)
    rw [zB3] at hr
    refine HT.seq ?_
    refine HT.seq ?_
    refine HT.text (l:=⟨_,true,.raw (.int .i64 y7)⟩::⟨_,true,.raw (.pointer (some ⟨b2_0,0,none⟩))⟩::⟨_,true,.rep (eSl zAC) A p0⟩::⟨_,true,.raw (.int .i64 (p0.length:Int))⟩::⟨_,true,.raw (.bool (decide (y7<(p0.length:Int))))⟩::[]) (tl:=[]) (by kernel_rfl) (by kernel_rfl) (by kernel_rfl) ?_ ?_
    · exact
        Obls.cons (Obl.plain rfl rfl fun R' w' hw hs hd=>by have a0:R' 6 = .int .i64 y7:=(hs 6 rfl).trans h6;exact zA5 a0) <|
        Obls.cons (Obl.plain rfl rfl fun R' w' hw hs hd=>by have a0:R' 2=(.pointer (some ⟨b2_0,0,none⟩)):=(hs 2 rfl).trans h2;exact zAB a0 zCl Try.sizeOf27 (by decide) rfl) <|
        Obls.cons (Obl.plain rfl rfl fun R' w' hw hs hd=>by have a0:R' 11=(.pointer (some ⟨b2_0,0,none⟩)):=hd 0 _ _ _ rfl rfl rfl rfl rfl;exact (zAD ((hO.fr hw).ok 0 _ rfl).1 a0 zAg rfl Try.isAgg27 Try.sizeOf27)) <|
        Obls.cons (Obl.plain rfl rfl fun R' w' hw hs hd=>by have a0:Rep (eSl zAC) A w' (R' 12) p0:=hd 0 _ _ _ rfl rfl rfl rfl rfl;exact zAd (aT:=#[]) a0 Try.underlying27) <|
        Obls.cons (Obl.plain rfl rfl fun R' w' hw hs hd=>by have a0:R' 10 = .int .i64 y7:=hd 0 _ _ _ rfl rfl rfl rfl rfl;have a1:R' 13 = .int .i64 (p0.length:Int):=hd 1 _ _ _ rfl rfl rfl rfl rfl;exact zBI a0 a1) <|
        Obls.nil
    intro R w hw hs hF'
    replace h1:R 1 = .int .i64 p1:=(hs 1 rfl).trans h1
    replace h2:R 2=(.pointer (some ⟨b2_0,0,none⟩)):=(hs 2 rfl).trans h2
    replace h5:R 5=ul_u3:=(hs 5 rfl).trans h5
    replace h6:R 6 = .int .i64 y7:=(hs 6 rfl).trans h6
    have h14:R 14 = .bool (decide (y7<(p0.length:Int))):=hF' 4 _ _ rfl rfl rfl
    replace hO:=hO.fr hw
    replace hA:=hA.fr hw.size
    replace hF:=hF.trans hw
    clear hs hF' hw
    refine zA4 ?_
    refine HT.cond (decide (y7<(p0.length:Int))) h14 (fun c9=>?_) (fun c9=>?_)
    · have hr := zAq c9 hr
      refine HT.skip ?_
      refine HT.seq ?_
      refine HT.block ?_
      refine HT.seq ?_
      refine HT.text (l:=⟨_,true,.raw (.int .i64 (0:Int))⟩::[]) (tl:=[]) (by kernel_rfl) (by kernel_rfl) (by kernel_rfl) ?_ ?_
      · exact
          Obls.cons (Obl.plain rfl rfl fun R' w' hw hs hd=>by exact zA6 rfl) <|
          Obls.nil
      intro R w hw hs hF'
      replace h1:R 1 = .int .i64 p1:=(hs 1 rfl).trans h1
      replace h2:R 2=(.pointer (some ⟨b2_0,0,none⟩)):=(hs 2 rfl).trans h2
      replace h5:R 5=ul_u3:=(hs 5 rfl).trans h5
      replace h6:R 6 = .int .i64 y7:=(hs 6 rfl).trans h6
      have h7:R 7 = .int .i64 (0:Int):=hF' 0 _ _ rfl rfl rfl
      replace hO:=hO.fr hw
      replace hA:=hA.fr hw.size
      replace hF:=hF.trans hw
      clear hs hF' hw
      refine zA4 ?_
      obtain ⟨rl10,q11,hr⟩:=zAK hr
      replace q11:=q11 rfl
      refine HT.cut0 (fun R w=>∃ A:Av,∃ (s12:(List Int)) (uo_ul_u3:Value),rl10=s12∧AvOK A w∧Fr w0 w∧(∀ b o,A0 b o→A b o)∧IniOK [ob (.pointer (some ⟨b2_0,0,none⟩)) (.box w0.heap.size 29 zA2 p0),ob uo_ul_u3 (.vec w0.heap.size 3 (eInt .i64) s12)] A w∧R 1 = .int .i64 p1∧R 2=(.pointer (some ⟨b2_0,0,none⟩))∧R 5=uo_ul_u3∧R 6 = .int .i64 y7) ?_ ?_
      · refine HT.block ?_
        refine HT.loop (fun k R w=>∃ A:Av,∃ (y13:Int) (y14:List Int) (ul_ul_u3:Value),zAt fu p0 p1 y7 k y13 y14=some rl10∧AvOK A w∧Fr w0 w∧(∀ b o,A0 b o→A b o)∧IniOK [ob (.pointer (some ⟨b2_0,0,none⟩)) (.box w0.heap.size 29 zA2 p0),ob ul_ul_u3 (.vec w0.heap.size 3 (eInt .i64) y14)] A w∧R 1 = .int .i64 p1∧R 2=(.pointer (some ⟨b2_0,0,none⟩))∧R 5=ul_ul_u3∧R 6 = .int .i64 y7∧R 7 = .int .i64 y13) fu ⟨_,_,_,ul_u3,q11,hA,hF,hAA,hO,h1,h2,h5,h6,h7⟩ ?_
        have hr0:=hr;clear hr q11
        rintro k R w ⟨A,y13,y14,ul_ul_u3,hr,hA,hF,hAA,hO,h1,h2,h5,h6,h7⟩
        rcases k with _ | k
        · cases (show none=some _ from hr)
        rw [zAt] at hr
        refine HT.seq ?_
        refine HT.seq ?_
        obtain ⟨e15,hr⟩:=zAF hr
        refine HT.text (l:=⟨_,true,.raw (.int .i64 y13)⟩::⟨_,true,.raw (.pointer (some ⟨b2_0,0,none⟩))⟩::⟨_,true,.rep (eSl zAC) A p0⟩::⟨_,true,.raw (.int .i64 y7)⟩::⟨_,true,.qtr zAC A (gtD p0 y7)⟩::⟨_,true,.qtr (eSl zA1) A (gtD p0 y7)⟩::⟨_,true,.rep (eSl zA1) A (gtD p0 y7)⟩::⟨_,true,.raw (.int .i64 ((gtD p0 y7).length:Int))⟩::⟨_,true,.raw (.bool (decide (y13<((gtD p0 y7).length:Int))))⟩::[]) (tl:=[]) (by kernel_rfl) (by kernel_rfl) (by kernel_rfl) ?_ ?_
        · exact
            Obls.cons (Obl.plain rfl rfl fun R' w' hw hs hd=>by have a0:R' 7 = .int .i64 y13:=(hs 7 rfl).trans h7;exact zA5 a0) <|
            Obls.cons (Obl.plain rfl rfl fun R' w' hw hs hd=>by have a0:R' 2=(.pointer (some ⟨b2_0,0,none⟩)):=(hs 2 rfl).trans h2;exact zAB a0 zCl Try.sizeOf27 (by decide) rfl) <|
            Obls.cons (Obl.plain rfl rfl fun R' w' hw hs hd=>by have a0:R' 18=(.pointer (some ⟨b2_0,0,none⟩)):=hd 0 _ _ _ rfl rfl rfl rfl rfl;exact (zAD ((hO.fr hw).ok 0 _ rfl).1 a0 zAg rfl Try.isAgg27 Try.sizeOf27)) <|
            Obls.cons (Obl.plain rfl rfl fun R' w' hw hs hd=>by have a0:R' 6 = .int .i64 y7:=(hs 6 rfl).trans h6;exact zA5 a0) <|
            Obls.cons (Obl.plain rfl rfl fun R' w' hw hs hd=>by have a0:Rep (eSl zAC) A w' (R' 19) p0:=hd 0 _ _ _ rfl rfl rfl rfl rfl;have a1:R' 20 = .int .i64 y7:=hd 1 _ _ _ rfl rfl rfl rfl rfl;exact zAN a0 a1 Try.underlying27 Try.sizeOf79 e15) <|
            Obls.cons (Obl.plain rfl rfl fun R' w' hw hs hd=>by have a0:QRep zAC A w' (R' 21) (gtD p0 y7):=hd 0 _ _ _ rfl rfl rfl rfl rfl;exact zAc a0 zDV Try.sizeOf65 (by decide) zBM rfl) <|
            Obls.cons (Obl.plain rfl rfl fun R' w' hw hs hd=>by have a0:QRep (eSl zA1) A w' (R' 22) (gtD p0 y7):=hd 0 _ _ _ rfl rfl rfl rfl rfl;exact (zAv a0.ptr Try.isAgg65 Try.sizeOf65)) <|
            Obls.cons (Obl.plain rfl rfl fun R' w' hw hs hd=>by have a0:Rep (eSl zA1) A w' (R' 23) (gtD p0 y7):=hd 0 _ _ _ rfl rfl rfl rfl rfl;exact zAd (aT:=#[]) a0 Try.underlying65) <|
            Obls.cons (Obl.plain rfl rfl fun R' w' hw hs hd=>by have a0:R' 17 = .int .i64 y13:=hd 0 _ _ _ rfl rfl rfl rfl rfl;have a1:R' 24 = .int .i64 ((gtD p0 y7).length:Int):=hd 1 _ _ _ rfl rfl rfl rfl rfl;exact zBI a0 a1) <|
            Obls.nil
        intro R w hw hs hF'
        replace h1:R 1 = .int .i64 p1:=(hs 1 rfl).trans h1
        replace h2:R 2=(.pointer (some ⟨b2_0,0,none⟩)):=(hs 2 rfl).trans h2
        replace h5:R 5=ul_ul_u3:=(hs 5 rfl).trans h5
        replace h6:R 6 = .int .i64 y7:=(hs 6 rfl).trans h6
        replace h7:R 7 = .int .i64 y13:=(hs 7 rfl).trans h7
        have h25:R 25 = .bool (decide (y13<((gtD p0 y7).length:Int))):=hF' 8 _ _ rfl rfl rfl
        replace hO:=hO.fr hw
        replace hA:=hA.fr hw.size
        replace hF:=hF.trans hw
        clear hs hF' hw
        refine zA4 ?_
        refine HT.cond (decide (y13<((gtD p0 y7).length:Int))) h25 (fun c16=>?_) (fun c16=>?_)
        · have hr := zAq c16 hr
          refine HT.skip ?_
          refine HT.seq ?_
          refine HT.block ?_
          refine HT.seq ?_
          obtain ⟨e17,hr⟩:=zAF hr
          obtain ⟨e18,hr⟩:=zAF hr
          refine HT.textR [ob (.pointer (some ⟨b2_0,0,none⟩)) (.box w0.heap.size 29 zA2 p0),ob ul_ul_u3 (.vec w0.heap.size 3 (eInt .i64) y14)] (⟨_,true,[],none,true,fun A=>.raw (.pointer (some ⟨b2_0,0,none⟩))⟩::⟨_,true,[],none,true,fun A=>.rep (eSl zAC) A p0⟩::⟨_,true,[],none,true,fun A=>.raw (.int .i64 y7)⟩::⟨_,true,[],none,true,fun A=>.qtr zAC A (gtD p0 y7)⟩::⟨_,true,[],none,true,fun A=>.qtr (eSl zA1) A (gtD p0 y7)⟩::⟨_,true,[],none,true,fun A=>.rep (eSl zA1) A (gtD p0 y7)⟩::⟨_,true,[],none,true,fun A=>.raw (.int .i64 y13)⟩::⟨_,true,[],none,true,fun A=>.qtr zA1 A (gtD (gtD p0 y7) y13)⟩::⟨_,true,[],none,true,fun A=>.rep zA1 A (gtD (gtD p0 y7) y13)⟩::⟨_,true,[],some (.box w0.heap.size 82 zA1 ((0:Int),((0:Int),false))),true,fun A=>.any⟩::⟨_,true,[11],some (.box w0.heap.size 82 zA1 (gtD (gtD p0 y7) y13)),false,fun A=>.any⟩::[]) (by kernel_rfl) (by kernel_rfl) (Wf.mk' (by kernel_rfl) (UAll.cons zAA (UAll.cons zAn (UAll.cons zAA (UAll.cons zCI (UAll.cons zCI (UAll.cons zAn (UAll.cons zAA (UAll.cons zCI (UAll.cons zAn (UAll.cons zAG (UAll.cons zAG (UAll.nil)))))))))))) (by kernel_rfl) (by kernel_rfl)) hO hA ?_ ?_
          · exact
              zA9.cons (OblR.plain rfl rfl rfl rfl fun A' R' w' ho hd=>by have a0:R' 2=(.pointer (some ⟨b2_0,0,none⟩)):=(ho.old 2 rfl).trans h2;exact zAB a0 zCl Try.sizeOf27 (by decide) rfl) <|
              zA9.cons (OblR.plain rfl rfl rfl rfl fun A' R' w' ho hd=>by have a0:R' 28=(.pointer (some ⟨b2_0,0,none⟩)):=hd 0 _ _ _ rfl rfl rfl rfl rfl;exact (zAD (ho.rd 0 _ rfl rfl) a0 zAg rfl Try.isAgg27 Try.sizeOf27)) <|
              zA9.cons (OblR.plain rfl rfl rfl rfl fun A' R' w' ho hd=>by have a0:R' 6 = .int .i64 y7:=(ho.old 6 rfl).trans h6;exact zA5 a0) <|
              zA9.cons (OblR.plain rfl rfl rfl rfl fun A' R' w' ho hd=>by have a0:Rep (eSl zAC) A' w' (R' 29) p0:=hd 0 _ _ _ rfl rfl rfl rfl rfl;have a1:R' 30 = .int .i64 y7:=hd 1 _ _ _ rfl rfl rfl rfl rfl;exact zAN a0 a1 Try.underlying27 Try.sizeOf79 e17) <|
              zA9.cons (OblR.plain rfl rfl rfl rfl fun A' R' w' ho hd=>by have a0:QRep zAC A' w' (R' 31) (gtD p0 y7):=hd 0 _ _ _ rfl rfl rfl rfl rfl;exact zAc a0 zDV Try.sizeOf65 (by decide) zBM rfl) <|
              zA9.cons (OblR.plain rfl rfl rfl rfl fun A' R' w' ho hd=>by have a0:QRep (eSl zA1) A' w' (R' 32) (gtD p0 y7):=hd 0 _ _ _ rfl rfl rfl rfl rfl;exact (zAv a0.ptr Try.isAgg65 Try.sizeOf65)) <|
              zA9.cons (OblR.plain rfl rfl rfl rfl fun A' R' w' ho hd=>by have a0:R' 7 = .int .i64 y13:=(ho.old 7 rfl).trans h7;exact zA5 a0) <|
              zA9.cons (OblR.plain rfl rfl rfl rfl fun A' R' w' ho hd=>by have a0:Rep (eSl zA1) A' w' (R' 33) (gtD p0 y7):=hd 0 _ _ _ rfl rfl rfl rfl rfl;have a1:R' 34 = .int .i64 y13:=hd 1 _ _ _ rfl rfl rfl rfl rfl;exact zAN a0 a1 Try.underlying65 Try.sizeOf82 e18) <|
              zA9.cons (OblR.plain rfl rfl rfl rfl fun A' R' w' ho hd=>by have a0:QRep zA1 A' w' (R' 35) (gtD (gtD p0 y7) y13):=hd 0 _ _ _ rfl rfl rfl rfl rfl;exact (zAv a0.ptr Try.isAgg82 Try.sizeOf82)) <|
              zA9.cons (OblR.made _ rfl rfl rfl rfl fun A' R' w' ho hd=>by exact zC5 Try.zeroValue82 (fun A w=>zBr zAe (zBr zAe zCr)) (Nat.le_trans hF.size ho.ch.size)) <|
              zA9.cons (OblR.took 11 _ _ rfl rfl rfl rfl rfl fun A' R' w' ho hd u hok hav hin hop hds=>by have a1:Rep zA1 A' w' (R' 36) (gtD (gtD p0 y7) y13):=hd 1 _ _ _ rfl rfl rfl rfl rfl;obtain ⟨b,hb,hB',hbx⟩:=hok;have hop':=hop _ _ rfl rfl rfl rfl;exact zBY a1 (hop'.symm.trans hb) hb ⟨b,hb,hB',hbx⟩ hav (FldS.id _) Try.sizeOf82 rfl) <|
              zA9.nil
          intro done ρ σ A R w hdn hI
          replace h1:R 1 = .int .i64 p1:=(hI.reg rfl).trans h1
          replace h2:R 2=(.pointer (some ⟨b2_0,0,none⟩)):=(hI.reg rfl).trans h2
          replace h5:R 5=ul_ul_u3:=(hI.reg rfl).trans h5
          replace h6:R 6 = .int .i64 y7:=(hI.reg rfl).trans h6
          replace h7:R 7 = .int .i64 y13:=(hI.reg rfl).trans h7
          have z19:=hI.inivR 0 rfl
          have z20:=hI.inivR 1 rfl
          obtain ⟨b8_20,e_b8_20⟩:=hI.boxv hdn 12 rfl rfl
          have z22:=(hI.opnR hdn 12 10 rfl rfl rfl rfl rfl).symm.trans e_b8_20
          have h8:R 8=(.pointer (some ⟨b8_20,0,none⟩)):=(hI.opvR hdn 11 9 rfl rfl rfl rfl rfl).symm.trans z22
          replace hAA:=hI.low' hAA hA0 (hO.ge (⟨rfl,⟨rfl,trivial⟩⟩))
          replace hF:Fr w0 w:=hF.tr hI.ch (hO.ge (⟨rfl,⟨rfl,trivial⟩⟩))
          replace hO:IniOK [ob (.pointer (some ⟨b2_0,0,none⟩)) (.box w0.heap.size 29 zA2 p0),ob ul_ul_u3 (.vec w0.heap.size 3 (eInt .i64) y14),ob (.pointer (some ⟨b8_20,0,none⟩)) (.box w0.heap.size 82 zA1 (gtD (gtD p0 y7) y13))] A w:=hI.left hdn [(0,ob (.pointer (some ⟨b2_0,0,none⟩)) (.box w0.heap.size 29 zA2 p0)),(1,ob ul_ul_u3 (.vec w0.heap.size 3 (eInt .i64) y14)),(12,ob (.pointer (some ⟨b8_20,0,none⟩)) (.box w0.heap.size 82 zA1 (gtD (gtD p0 y7) y13)))] ⟨rfl,rfl,z19,rfl,rfl,⟨rfl,rfl,z20,rfl,rfl,⟨rfl,rfl,e_b8_20,rfl,rfl,trivial⟩⟩⟩
          replace hA:=hI.avok
          clear hI
          refine HT.seq ?_
          refine HT.text (l:=⟨_,true,.raw (.pointer (some ⟨b8_20,0,none⟩))⟩::⟨_,true,.raw (.int .i64 ((gtD (gtD p0 y7) y13).1))⟩::⟨_,true,.raw (.int .i64 p1)⟩::⟨_,true,.raw (.bool (((gtD (gtD p0 y7) y13).1)==p1))⟩::[]) (tl:=[]) (by kernel_rfl) (by kernel_rfl) (by kernel_rfl) ?_ ?_
          · exact
              Obls.cons (Obl.plain rfl rfl fun R' w' hw hs hd=>by have a0:R' 8=(.pointer (some ⟨b8_20,0,none⟩)):=(hs 8 rfl).trans h8;exact zAB a0 zCS Try.sizeOf3 (by decide) rfl) <|
              Obls.cons (Obl.plain rfl rfl fun R' w' hw hs hd=>by have a0:R' 37=(.pointer (some ⟨b8_20,0,none⟩)):=hd 0 _ _ _ rfl rfl rfl rfl rfl;exact OpF.int (zAD ((hO.fr hw).ok 2 _ rfl).1 a0 zAz rfl Try.isAgg3 Try.sizeOf3)) <|
              Obls.cons (Obl.plain rfl rfl fun R' w' hw hs hd=>by have a0:R' 1 = .int .i64 p1:=(hs 1 rfl).trans h1;exact zA5 a0) <|
              Obls.cons (Obl.plain rfl rfl fun R' w' hw hs hd=>by have a0:R' 38 = .int .i64 ((gtD (gtD p0 y7) y13).1):=hd 0 _ _ _ rfl rfl rfl rfl rfl;have a1:R' 39 = .int .i64 p1:=hd 1 _ _ _ rfl rfl rfl rfl rfl;exact zFA a0 a1) <|
              Obls.nil
          intro R w hw hs hF'
          replace h1:R 1 = .int .i64 p1:=(hs 1 rfl).trans h1
          replace h2:R 2=(.pointer (some ⟨b2_0,0,none⟩)):=(hs 2 rfl).trans h2
          replace h5:R 5=ul_ul_u3:=(hs 5 rfl).trans h5
          replace h6:R 6 = .int .i64 y7:=(hs 6 rfl).trans h6
          replace h7:R 7 = .int .i64 y13:=(hs 7 rfl).trans h7
          replace h8:R 8=(.pointer (some ⟨b8_20,0,none⟩)):=(hs 8 rfl).trans h8
          have h40:R 40 = .bool (((gtD (gtD p0 y7) y13).1)==p1):=hF' 3 _ _ rfl rfl rfl
          replace hO:=hO.fr hw
          replace hA:=hA.fr hw.size
          replace hF:=hF.trans hw
          clear hs hF' hw
          refine zA4 ?_
          refine HT.cond (((gtD (gtD p0 y7) y13).1)==p1) h40 (fun c23=>?_) (fun c23=>?_)
          · have hr := zAq c23 hr
            obtain ⟨x24,q25,hr⟩:=zAK hr
            refine HT.textR [ob (.pointer (some ⟨b2_0,0,none⟩)) (.box w0.heap.size 29 zA2 p0),ob ul_ul_u3 (.vec w0.heap.size 3 (eInt .i64) y14),ob (.pointer (some ⟨b8_20,0,none⟩)) (.box w0.heap.size 82 zA1 (gtD (gtD p0 y7) y13))] (⟨_,true,[],none,true,fun A=>.raw ul_ul_u3⟩::⟨_,true,[],none,true,fun A=>.raw (.pointer (some ⟨b8_20,1,none⟩))⟩::⟨_,true,[],none,true,fun A=>.raw (.int .i64 ((gtD (gtD p0 y7) y13).2.1))⟩::⟨_,true,[1],some (.vec w0.heap.size 3 (eInt .i64) x24),true,fun A=>.any⟩::⟨_,true,[6],some (.vec w0.heap.size 3 (eInt .i64) x24),true,fun A=>.any⟩::[]) (by kernel_rfl) (by kernel_rfl) (Wf.mk' (by kernel_rfl) (UAll.cons zAA (UAll.cons zAA (UAll.cons zAA (UAll.cons zAG (UAll.cons zAG (UAll.nil)))))) (by kernel_rfl) (by kernel_rfl)) hO hA ?_ ?_
            · exact
                zA9.cons (OblR.plain rfl rfl rfl rfl fun A' R' w' ho hd=>by have a0:R' 5=ul_ul_u3:=(ho.old 5 rfl).trans h5;exact zA5 a0) <|
                zA9.cons (OblR.plain rfl rfl rfl rfl fun A' R' w' ho hd=>by have a0:R' 8=(.pointer (some ⟨b8_20,0,none⟩)):=(ho.old 8 rfl).trans h8;exact zAB a0 zDX Try.sizeOf3 (by decide) rfl) <|
                zA9.cons (OblR.plain rfl rfl rfl rfl fun A' R' w' ho hd=>by have a0:R' 42=(.pointer (some ⟨b8_20,1,none⟩)):=hd 0 _ _ _ rfl rfl rfl rfl rfl;exact OpF.int (zAD (ho.rd 2 _ rfl rfl) a0 zBH rfl Try.isAgg3 Try.sizeOf3)) <|
                zA9.cons (OblR.took 1 _ _ rfl rfl rfl rfl rfl fun A' R' w' ho hd u hok hav hin hop hds=>by have a0:R' 41=ul_ul_u3:=hd 0 _ _ _ rfl rfl rfl rfl rfl;have a1:R' 43 = .int .i64 ((gtD (gtD p0 y7) y13).2.1):=hd 1 _ _ _ rfl rfl rfl rfl rfl;have hu0:zAL R' (.tmp 41)=u:=a0.trans (hin _ rfl).symm;exact zGu Try.call64 hav (by simp only [List.map,hu0];exact zGA (q25 rfl) (ho.av.sub _) (fun b o h=>h.2) (Nat.le_trans hF.size ho.ch.size) (Vec.flat hok (fun _ _ _ _ _ h=>h)) a1)) <|
                zA9.cons (OblR.took 6 _ _ rfl rfl rfl rfl rfl fun A' R' w' ho hd u hok hav hin hop hds=>by exact zCA (hop _ _ rfl rfl rfl rfl).symm hok hav) <|
                zA9.nil
            intro done ρ σ A R w hdn hI
            replace h1:R 1 = .int .i64 p1:=(hI.reg rfl).trans h1
            replace h2:R 2=(.pointer (some ⟨b2_0,0,none⟩)):=(hI.reg rfl).trans h2
            replace h6:R 6 = .int .i64 y7:=(hI.reg rfl).trans h6
            replace h7:R 7 = .int .i64 y13:=(hI.reg rfl).trans h7
            have z26:=hI.inivR 0 rfl
            obtain ⟨u27,e_u27⟩:∃ u,ρ 7=u:=⟨_,rfl⟩
            have h5:R 5=u27:=(hI.opvR hdn 7 4 rfl rfl rfl rfl rfl).symm.trans e_u27
            have z28:=hI.inivR 2 rfl
            replace hAA:=hI.low' hAA hA0 (hO.ge (⟨rfl,⟨rfl,⟨rfl,trivial⟩⟩⟩))
            replace hF:Fr w0 w:=hF.tr hI.ch (hO.ge (⟨rfl,⟨rfl,⟨rfl,trivial⟩⟩⟩))
            replace hO:IniOK [ob (.pointer (some ⟨b2_0,0,none⟩)) (.box w0.heap.size 29 zA2 p0),ob u27 (.vec w0.heap.size 3 (eInt .i64) x24)] A w:=hI.left hdn [(0,ob (.pointer (some ⟨b2_0,0,none⟩)) (.box w0.heap.size 29 zA2 p0)),(7,ob u27 (.vec w0.heap.size 3 (eInt .i64) x24))] ⟨rfl,rfl,z26,rfl,rfl,⟨rfl,rfl,e_u27,rfl,rfl,trivial⟩⟩
            replace hA:=hI.avok
            clear hI
            obtain ⟨e29,hr⟩:=zAF hr
            refine HT.text (l:=⟨_,true,.raw (.int .i64 y13)⟩::⟨_,true,.raw (.int .i64 (y13+(1:Int)))⟩::⟨_,true,.raw (.int .i64 (y13+(1:Int)))⟩::[]) (tl:=[]) (by kernel_rfl) (by kernel_rfl) (by kernel_rfl) ?_ ?_
            · exact
                Obls.cons (Obl.plain rfl rfl fun R' w' hw hs hd=>by have a0:R' 7 = .int .i64 y13:=(hs 7 rfl).trans h7;exact zA5 a0) <|
                Obls.cons (Obl.plain rfl rfl fun R' w' hw hs hd=>by have a0:R' 26 = .int .i64 y13:=hd 0 _ _ _ rfl rfl rfl rfl rfl;exact zB8 a0 rfl e29) <|
                Obls.cons (Obl.plain rfl rfl fun R' w' hw hs hd=>by have a0:R' 27 = .int .i64 (y13+(1:Int)):=hd 0 _ _ _ rfl rfl rfl rfl rfl;exact zA6 a0) <|
                Obls.nil
            intro R w hw hs hF'
            replace h1:R 1 = .int .i64 p1:=(hs 1 rfl).trans h1
            replace h2:R 2=(.pointer (some ⟨b2_0,0,none⟩)):=(hs 2 rfl).trans h2
            replace h5:R 5=u27:=(hs 5 rfl).trans h5
            replace h6:R 6 = .int .i64 y7:=(hs 6 rfl).trans h6
            have h7:R 7 = .int .i64 (y13+(1:Int)):=hF' 2 _ _ rfl rfl rfl
            replace hO:=hO.fr hw
            replace hA:=hA.fr hw.size
            replace hF:=hF.trans hw
            clear hs hF' hw
            refine zA4 ?_
            exact Exists.intro k (And.intro (Nat.lt_succ_self k) ⟨_,_,_,u27,hr,hA,hF,hAA,hO,h1,h2,h5,h6,h7⟩)
          · have hr := zAp c23 hr
            refine HT.skip ?_
            obtain ⟨e30,hr⟩:=zAF hr
            refine HT.text (l:=⟨_,true,.raw (.int .i64 y13)⟩::⟨_,true,.raw (.int .i64 (y13+(1:Int)))⟩::⟨_,true,.raw (.int .i64 (y13+(1:Int)))⟩::[]) (tl:=[]) (by kernel_rfl) (by kernel_rfl) (by kernel_rfl) ?_ ?_
            · exact
                Obls.cons (Obl.plain rfl rfl fun R' w' hw hs hd=>by have a0:R' 7 = .int .i64 y13:=(hs 7 rfl).trans h7;exact zA5 a0) <|
                Obls.cons (Obl.plain rfl rfl fun R' w' hw hs hd=>by have a0:R' 26 = .int .i64 y13:=hd 0 _ _ _ rfl rfl rfl rfl rfl;exact zB8 a0 rfl e30) <|
                Obls.cons (Obl.plain rfl rfl fun R' w' hw hs hd=>by have a0:R' 27 = .int .i64 (y13+(1:Int)):=hd 0 _ _ _ rfl rfl rfl rfl rfl;exact zA6 a0) <|
                Obls.nil
            intro R w hw hs hF'
            replace h1:R 1 = .int .i64 p1:=(hs 1 rfl).trans h1
            replace h2:R 2=(.pointer (some ⟨b2_0,0,none⟩)):=(hs 2 rfl).trans h2
            replace h5:R 5=ul_ul_u3:=(hs 5 rfl).trans h5
            replace h6:R 6 = .int .i64 y7:=(hs 6 rfl).trans h6
            have h7:R 7 = .int .i64 (y13+(1:Int)):=hF' 2 _ _ rfl rfl rfl
            replace hO:=hO.fr hw
            replace hO:IniOK [ob (.pointer (some ⟨b2_0,0,none⟩)) (.box w0.heap.size 29 zA2 p0),ob ul_ul_u3 (.vec w0.heap.size 3 (eInt .i64) y14)] A w:=hO.sub [(0,ob (.pointer (some ⟨b2_0,0,none⟩)) (.box w0.heap.size 29 zA2 p0)),(1,ob ul_ul_u3 (.vec w0.heap.size 3 (eInt .i64) y14))] ⟨rfl,rfl,⟨rfl,rfl,trivial⟩⟩
            replace hA:=hA.fr hw.size
            replace hF:=hF.trans hw
            clear hs hF' hw
            refine zA4 ?_
            exact Exists.intro k (And.intro (Nat.lt_succ_self k) ⟨_,_,_,ul_ul_u3,hr,hA,hF,hAA,hO,h1,h2,h5,h6,h7⟩)
        · have hr := zAp c16 hr
          refine HT.exit ?_
          obtain rfl:=Option.some.inj hr
          exact Exists.intro _ ⟨_,ul_ul_u3,rfl,hA,hF,hAA,hO,h1,h2,h5,h6⟩
      rintro R w ⟨A,s12,uo_ul_u3,es,hA,hF,hAA,hO,h1,h2,h5,h6⟩
      obtain rfl:=es.symm
      obtain ⟨e31,hr⟩:=zAF hr
      refine HT.text (l:=⟨_,true,.raw (.int .i64 y7)⟩::⟨_,true,.raw (.int .i64 (y7+(1:Int)))⟩::⟨_,true,.raw (.int .i64 (y7+(1:Int)))⟩::[]) (tl:=[]) (by kernel_rfl) (by kernel_rfl) (by kernel_rfl) ?_ ?_
      · exact
          Obls.cons (Obl.plain rfl rfl fun R' w' hw hs hd=>by have a0:R' 6 = .int .i64 y7:=(hs 6 rfl).trans h6;exact zA5 a0) <|
          Obls.cons (Obl.plain rfl rfl fun R' w' hw hs hd=>by have a0:R' 15 = .int .i64 y7:=hd 0 _ _ _ rfl rfl rfl rfl rfl;exact zB8 a0 rfl e31) <|
          Obls.cons (Obl.plain rfl rfl fun R' w' hw hs hd=>by have a0:R' 16 = .int .i64 (y7+(1:Int)):=hd 0 _ _ _ rfl rfl rfl rfl rfl;exact zA6 a0) <|
          Obls.nil
      intro R w hw hs hF'
      replace h1:R 1 = .int .i64 p1:=(hs 1 rfl).trans h1
      replace h2:R 2=(.pointer (some ⟨b2_0,0,none⟩)):=(hs 2 rfl).trans h2
      replace h5:R 5=uo_ul_u3:=(hs 5 rfl).trans h5
      have h6:R 6 = .int .i64 (y7+(1:Int)):=hF' 2 _ _ rfl rfl rfl
      replace hO:=hO.fr hw
      replace hA:=hA.fr hw.size
      replace hF:=hF.trans hw
      clear hs hF' hw
      refine zA4 ?_
      exact Exists.intro k (And.intro (Nat.lt_succ_self k) ⟨_,_,_,uo_ul_u3,hr,hA,hF,hAA,hO,h1,h2,h5,h6⟩)
    · have hr := zAp c9 hr
      refine HT.exit ?_
      obtain rfl:=Option.some.inj hr
      replace hO:IniOK [ob ul_u3 (.vec w0.heap.size 3 (eInt .i64) y8)] A w:=hO.sub [(1,ob ul_u3 (.vec w0.heap.size 3 (eInt .i64) y8))] ⟨rfl,rfl,trivial⟩
      exact Exists.intro _ ⟨_,ul_u3,rfl,hA,hF,hAA,hO,h5⟩
  rintro R w ⟨A,s6,uo_u3,es,hA,hF,hAA,hO,h5⟩
  obtain rfl:=es.symm
  refine HT.seq ?_
  refine HT.text (l:=⟨_,true,.raw uo_u3⟩::⟨_,true,.raw uo_u3⟩::[]) (tl:=[]) (by kernel_rfl) (by kernel_rfl) (by kernel_rfl) ?_ ?_
  · exact
      Obls.cons (Obl.plain rfl rfl fun R' w' hw hs hd=>by have a0:R' 5=uo_u3:=(hs 5 rfl).trans h5;exact zA5 a0) <|
      Obls.cons (Obl.plain rfl rfl fun R' w' hw hs hd=>by have a0:R' 45=uo_u3:=hd 0 _ _ _ rfl rfl rfl rfl rfl;exact zA6 a0) <|
      Obls.nil
  intro R w hw hs hF'
  have h4:R 4=uo_u3:=hF' 1 _ _ rfl rfl rfl
  replace hO:=hO.fr hw
  replace hA:=hA.fr hw.size
  replace hF:=hF.trans hw
  clear hs hF' hw
  refine zA4 ?_
  refine HT.ret ?_
  obtain rfl:=Option.some.inj hr
  exact ⟨.inr rfl,[R 4],⟨rfl,trivial⟩,(zF1 (hO.ok 0 _ rfl) hAA h4),hF⟩
theorem zF3 {fu : Nat} {A0 : Av} {p0 : zAH} {p1 : Int} {r : List Int} (hr : zC4 fu p0 p1 = some r) {w : World} {v0 : Value} {v1 : Value} (hA : AvOK A0 w) (h0 : Rep zA2 A0 w v0 p0) (h1 : v1 = .int .i64 p1) :
    Calls Try.prog 37 #[v0,v1] w fun e w'=>∃ v,e = .returned v∧(Rep (eSl (eInt .i64)) A0 w' v r∧Fr w w'):=by
  refine Calls.mono (zFH hr hA h0 h1) ?_
  rintro e w' ⟨v,he,hv,hf⟩
  exact ⟨v,he,zIg hv (fun b o h=>.inl h) hA,hf⟩
end Go.Proofs.Ytmkgocdgkdglnaa
