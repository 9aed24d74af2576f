/- Own texts laid together. No statement of the seat is proved here. -/
import Derived.Test.YtmkgocdgkdglnaaZx6
import Derived.Sort.Walk0
import Derived.Lib.Bytealg
namespace Go.Proofs.Ytmkgocdgkdglnaa
open Go.RowKit
set_option linter.unusedVariables false
def zBO (fu : Nat) : Nat → Int → Int → (List zAO) → Option (Int × (List zAO))
  | 0,_,_,_=>none
  | k+1,y4,y5,y6=>
    bif (decide (y5 < (y6.length : Int))) then (
      ck (inR y5 y6.length) <|
      cl true (zCP fu (gtD y6 y5) y4) fun x11=>
      ck (i64B (y5+(1:Int))) <|
      zBO fu k x11.1 (y5+(1:Int)) (y6.set y5.toNat x11.2)
    ) else (
      some (y4,y6)
    )
def zCO (fu:Nat) (p0:List zAO) (p1:Int):Option (Int × List zAO):=
  cl true (zBO fu fu p1 (0:Int) p0) fun s3=>
  some (s3.1,s3.2)
set_option maxRecDepth 100000 in
set_option maxHeartbeats 4000000 in
theorem zFL {fu : Nat} {A0 : Av} {p0 : List zAO} {p1 : Int} {r : Int × List zAO} (hr : zCO fu p0 p1 = some r) {w : World} {v0 : Value} {v1 : Value} {S0 : Nat → Prop} (hA : AvOK A0 w) (hN : ∀ b o, A0 b o → ¬ S0 b) (h0 : (trP (oSl 79 (oBx (oSl 82 (oRd zA1)))) p0 []).P (addS A0 S0) w S0 v0) (h1 : v1 = .int .i64 p1) :
    Calls Try.prog 41 #[v0,v1] w fun e w'=>∃ v,e = .returned v∧(v = .int .i64 r.1∧Gave (oSl 79 (oBx (oSl 82 (oRd zA1)))) A0 S0 w v0 r.2 w'):=by
  unfold zCO at hr
  obtain ⟨w0,hw0⟩:∃ w0,w0=w:=⟨_,rfl⟩
  have hF:Ch S0 w0 w:=hw0 ▸ Ch.refl _ _
  have hA0:∀ b o,A0 b o→b<w0.heap.size:=fun b o h=>hw0 ▸ hA b o h
  have hA00:AvOK A0 w0:=hA0
  rw [show Gave (oSl 79 (oBx (oSl 82 (oRd zA1)))) A0 S0 w=Gave (oSl 79 (oBx (oSl 82 (oRd zA1)))) A0 S0 w0 from hw0 ▸ rfl]
  have hw0s:w.heap.size=w0.heap.size:=hw0 ▸ rfl
  clear hw0
  have hO:=IniOK.oneT h0
  have hA1:=hA.oneT h0
  rw [show w.heap.size=w0.heap.size from hw0s] at hO
  obtain ⟨A,hAe⟩:∃ A,A=addS A0 S0:=⟨_,rfl⟩
  have hAA:∀ b o,A0 b o→A b o:=fun b o h=>hAe ▸ .inl h
  replace hA:AvOK A w:=hAe ▸ hA1
  replace hO:IniOK [⟨v0,S0,trR (fun k=>w0.heap.size≤k∨S0 k) (oSl 79 (oBx (oSl 82 (oRd zA1)))) p0 []⟩] A w:=hAe ▸ hO
  refine zAI [.tmp 4] Try.func41 Try.ntmps41 (by decide) rfl rfl (Nat.le_of_ble_eq_true rfl) ?_
  intro R hR
  replace h0:R 0=v0:=hR 0 _ rfl
  replace h1:R 1 = .int .i64 p1:=(hR 1 _ rfl).trans h1
  clear hR hAe
  refine HT.seq ?_
  refine HT.text (l:=⟨_,true,.raw (.int .i64 (0:Int))⟩::[]) (tl:=[]) (by kernel_rfl) (by kernel_rfl) (by kernel_rfl) ?_ ?_
  · exact
      Obls.cons (Obl.plain rfl rfl fun R' w' hw hs hd=>by exact zA6 rfl) <|
      Obls.nil
  intro R w hw hs hF'
  replace h0:R 0=v0:=(hs 0 rfl).trans h0
  replace h1:R 1 = .int .i64 p1:=(hs 1 rfl).trans h1
  replace hO:=hO.fr hw
  replace hA:=hA.fr hw.size
  replace hF:=hF.tr (hw.ch noB) fun _ h=>False.elim h
  clear hs hF' hw
  refine zA4 ?_
  refine HT.seq ?_
  refine HT.seq ?_
  refine HT.text (l:=⟨_,true,.raw (.int .i64 (0:Int))⟩::[]) (tl:=[]) (by kernel_rfl) (by kernel_rfl) (by kernel_rfl) ?_ ?_
  · exact
      Obls.cons (Obl.plain rfl rfl fun R' w' hw hs hd=>by exact zA6 rfl) <|
      Obls.nil
  intro R w hw hs hF'
  replace h0:R 0=v0:=(hs 0 rfl).trans h0
  replace h1:R 1 = .int .i64 p1:=(hs 1 rfl).trans h1
  have h5:R 5 = .int .i64 (0:Int):=hF' 0 _ _ rfl rfl rfl
  replace hO:=hO.fr hw
  replace hA:=hA.fr hw.size
  replace hF:=hF.tr (hw.ch noB) fun _ h=>False.elim h
  clear hs hF' hw
  refine zA4 ?_
  obtain ⟨rl1,q2,hr⟩:=zAK hr
  replace q2:=q2 rfl
  refine HT.cut0 (fun R w=>∃ A:Av,∃ (s3:Int × (List zAO)) (So_v0:Nat→Prop),rl1=s3∧AvOK A w∧Ch S0 w0 w∧(∀ b o,A0 b o→A b o)∧IniOK [⟨v0,So_v0,trR (fun k=>w0.heap.size≤k∨S0 k) (oSl 79 (oBx (oSl 82 (oRd zA1)))) s3.2 []⟩] A w∧R 1 = .int .i64 s3.1) ?_ ?_
  · refine HT.block ?_
    refine HT.loop (fun k R w=>∃ A:Av,∃ (y4:Int) (y5:Int) (y6:List zAO) (Sl_v0:Nat→Prop),zBO fu k y4 y5 y6=some rl1∧AvOK A w∧Ch S0 w0 w∧(∀ b o,A0 b o→A b o)∧IniOK [⟨v0,Sl_v0,trR (fun k=>w0.heap.size≤k∨S0 k) (oSl 79 (oBx (oSl 82 (oRd zA1)))) y6 []⟩] A w∧R 0=v0∧R 1 = .int .i64 y4∧R 5 = .int .i64 y5) fu ⟨_,_,_,_,S0,q2,hA,hF,hAA,hO,h0,h1,h5⟩ ?_
    have hr0:=hr;clear hr q2
    rintro k R w ⟨A,y4,y5,y6,Sl_v0,hr,hA,hF,hAA,hO,h0,h1,h5⟩
    rcases k with _ | k
    · cases (show none=some _ from hr)
    rw [zBO] at hr
    refine HT.seq ?_
    refine HT.seq ?_
    refine HT.text (l:=⟨_,true,.raw (.int .i64 y5)⟩::⟨_,true,.raw v0⟩::⟨_,true,.raw (.int .i64 (y6.length:Int))⟩::⟨_,true,.raw (.bool (decide (y5<(y6.length:Int))))⟩::[]) (tl:=[]) (by kernel_rfl) (by kernel_rfl) (by kernel_rfl) ?_ ?_
    · exact
        Obls.cons (Obl.plain rfl rfl fun R' w' hw hs hd=>by have a0:R' 5 = .int .i64 y5:=(hs 5 rfl).trans h5;exact zA5 a0) <|
        Obls.cons (Obl.plain rfl rfl fun R' w' hw hs hd=>by have a0:R' 0=v0:=(hs 0 rfl).trans h0;exact zA5 a0) <|
        Obls.cons (Obl.plain rfl rfl fun R' w' hw hs hd=>by have a0:R' 7=v0:=hd 0 _ _ _ rfl rfl rfl rfl rfl;exact zFZ (zAJ (hO.own 0 _ rfl).2) a0 Try.underlying27) <|
        Obls.cons (Obl.plain rfl rfl fun R' w' hw hs hd=>by have a0:R' 6 = .int .i64 y5:=hd 0 _ _ _ rfl rfl rfl rfl rfl;have a1:R' 8 = .int .i64 (y6.length:Int):=hd 1 _ _ _ rfl rfl rfl rfl rfl;exact zBI a0 a1) <|
        Obls.nil
    intro R w hw hs hF'
    replace h0:R 0=v0:=(hs 0 rfl).trans h0
    replace h1:R 1 = .int .i64 y4:=(hs 1 rfl).trans h1
    replace h5:R 5 = .int .i64 y5:=(hs 5 rfl).trans h5
    have h9:R 9 = .bool (decide (y5<(y6.length:Int))):=hF' 3 _ _ rfl rfl rfl
    replace hO:=hO.fr hw
    replace hA:=hA.fr hw.size
    replace hF:=hF.tr (hw.ch noB) fun _ h=>False.elim h
    clear hs hF' hw
    refine zA4 ?_
    refine HT.cond (decide (y5<(y6.length:Int))) h9 (fun c7=>?_) (fun c7=>?_)
    · have hr := zAq c7 hr
      refine HT.skip ?_
      refine HT.seq ?_
      refine HT.block ?_
      obtain ⟨e8,hr⟩:=zAF hr
      obtain ⟨h9,p_h9⟩:=((((zAJ (hO.own 0 _ rfl).2).elem e8 rfl)).bx).open1 rfl
      replace hO:IniOK [⟨v0,Sl_v0,trR (fun k=>w0.heap.size≤k∨S0 k) (oSl 79 (oBx (oSl 82 (oRd zA1)))) y6 [((vptr v0 (y5.toNat*1)),[h9])]⟩] A w:=hO.repin 0 rfl (trP.pin p_h9)
      obtain ⟨x11,q12,hr⟩:=zAK hr
      refine HT.textR [⟨v0,Sl_v0,trR (fun k=>w0.heap.size≤k∨S0 k) (oSl 79 (oBx (oSl 82 (oRd zA1)))) y6 [((vptr v0 (y5.toNat*1)),[h9])]⟩] (⟨_,true,[],none,true,fun A=>.raw v0⟩::⟨_,true,[],none,true,fun A=>.raw (.int .i64 y5)⟩::⟨_,true,[],none,true,fun A=>.raw (vptr v0 (y5.toNat*1))⟩::⟨_,true,[],none,true,fun A=>.raw (vptr v0 (y5.toNat*1))⟩::⟨_,true,[],none,true,fun A=>.raw h9⟩::⟨_,true,[],none,true,fun A=>.raw (.int .i64 y4)⟩::⟨_,true,[0],some (trR (fun k=>w0.heap.size≤k∨S0 k) (oSl 79 (oBx (oSl 82 (oRd zA1)))) (y6.set y5.toNat x11.2) []),false,fun A=>.raw (.int .i64 x11.1)⟩::⟨_,true,[],none,true,fun A=>.raw (.int .i64 x11.1)⟩::[]) (by kernel_rfl) (by kernel_rfl) (Wf.mk' (by kernel_rfl) (UAll.cons zAA (UAll.cons zAA (UAll.cons zAA (UAll.cons zAA (UAll.cons zAA (UAll.cons zAA (UAll.cons zAA (UAll.cons zAA (UAll.nil))))))))) (by kernel_rfl) (by kernel_rfl)) hO hA ?_ ?_
      · exact
          zA9.cons (OblR.plain rfl rfl rfl rfl fun A' R' w' ho hd=>by have a0:R' 0=v0:=(ho.old 0 rfl).trans h0;exact zA5 a0) <|
          zA9.cons (OblR.plain rfl rfl rfl rfl fun A' R' w' ho hd=>by have a0:R' 5 = .int .i64 y5:=(ho.old 5 rfl).trans h5;exact zA5 a0) <|
          zA9.cons (OblR.plain rfl rfl rfl rfl fun A' R' w' ho hd=>by have a0:R' 12=v0:=hd 0 _ _ _ rfl rfl rfl rfl rfl;have a1:R' 13 = .int .i64 y5:=hd 1 _ _ _ rfl rfl rfl rfl rfl;exact zCT (zAJ (hO.own 0 _ rfl).2) a0 a1 Try.underlying27 Try.sizeOf79 e8 rfl) <|
          zA9.cons (OblR.plain rfl rfl rfl rfl fun A' R' w' ho hd=>by have a0:R' 14=(vptr v0 (y5.toNat*1)):=hd 0 _ _ _ rfl rfl rfl rfl rfl;exact zAb (((zAJ (hO.own 0 _ rfl).2).elem e8 rfl)).ad a0 zDV Try.sizeOf65 (by decide) (zEf (((zAJ (hO.own 0 _ rfl).2).elem e8 rfl)).ad)) <|
          zA9.cons (OblR.plain rfl rfl rfl rfl fun A' R' w' ho hd=>by have a0:R' 15=(vptr v0 (y5.toNat*1)):=hd 0 _ _ _ rfl rfl rfl rfl rfl;exact zBv ((ho.rdo 0 _ rfl rfl).2.2 _ (.head _)) a0 Try.isAgg65 Try.sizeOf65) <|
          zA9.cons (OblR.plain rfl rfl rfl rfl fun A' R' w' ho hd=>by have a0:R' 1 = .int .i64 y4:=(ho.old 1 rfl).trans h1;exact zA5 a0) <|
          zA9.cons (OblR.tookS 0 _ _ rfl rfl rfl rfl rfl fun A' R' w' ho hd u S hok hown hav hin hop hds=>by have a0:R' 16=h9:=hd 0 _ _ _ rfl rfl rfl rfl rfl;have a1:R' 17 = .int .i64 y4:=hd 1 _ _ _ rfl rfl rfl rfl rfl;have e0:=(hin _ rfl).1;rw [e0] at hown ⊢;have hu0:zAL R' (.tmp 16)=h9:=a0;exact zCH Try.call70 (((((zAJ hown.2).elem e8 rfl)).bx).pin (hown.2.2 _ (.head _)) rfl) hav hown.1 (fun k hk=>.inl (Nat.le_trans (Nat.le_trans hF.size ho.ch.size) hk)) (fun k hk=>SP.lt _ hown.2 hk) (fun S1 hS1 hP=>by simp only [List.map,hu0];exact Calls.mono (zFK (q12 rfl) (ho.av.subS _) (fun b o h hb=>h.2 ((zGJ (fun _ _ _ _ _ h=>h) hP) ▸ hb)) (zGf (fun _ _ _ _ _ h=>h) hP).1 a1) (fun _ _ ⟨v,h1,h2⟩=>⟨v,h1,zGm (fun _ _ _ _ _ h=>h) hP h2 (zGJ (fun _ _ _ _ _ h=>h) hP)⟩)) (fun _ _ _ h=>h)) <|
          zA9.cons (OblR.plain rfl rfl rfl rfl fun A' R' w' ho hd=>by have a0:R' 18 = .int .i64 x11.1:=hd 0 _ _ _ rfl rfl rfl rfl rfl;exact zA6 a0) <|
          zA9.nil
      intro done ρ σ A R w hdn hI
      replace h0:R 0=v0:=(hI.reg rfl).trans h0
      replace h5:R 5 = .int .i64 y5:=(hI.reg rfl).trans h5
      have z13:=hI.inivR 0 rfl
      have z14:=(hI.opnR hdn 7 6 rfl rfl rfl rfl rfl).trans z13
      obtain ⟨S15,eS_v0⟩:∃ S,σ 7=S:=⟨_,rfl⟩
      have h1:R 1 = .int .i64 x11.1:=hI.fact hdn (i:=7) rfl rfl rfl
      replace hAA:=hI.lowK hAA hA0 hN (hO.geK (⟨fun _ h=>h,trivial⟩))
      replace hF:Ch S0 w0 w:=hF.tr hI.ch (hO.geK (⟨fun _ h=>h,trivial⟩))
      replace hO:IniOK [⟨v0,S15,trR (fun k=>w0.heap.size≤k∨S0 k) (oSl 79 (oBx (oSl 82 (oRd zA1)))) (y6.set y5.toNat x11.2) []⟩] A w:=hI.left hdn [(7,⟨v0,S15,trR (fun k=>w0.heap.size≤k∨S0 k) (oSl 79 (oBx (oSl 82 (oRd zA1)))) (y6.set y5.toNat x11.2) []⟩)] ⟨rfl,rfl,z14,eS_v0,rfl,trivial⟩
      replace hA:=hI.avok
      clear hI
      obtain ⟨e16,hr⟩:=zAF hr
      refine HT.text (l:=⟨_,true,.raw (.int .i64 y5)⟩::⟨_,true,.raw (.int .i64 (y5+(1:Int)))⟩::⟨_,true,.raw (.int .i64 (y5+(1:Int)))⟩::[]) (tl:=[]) (by kernel_rfl) (by kernel_rfl) (by kernel_rfl) ?_ ?_
      · exact
          Obls.cons (Obl.plain rfl rfl fun R' w' hw hs hd=>by have a0:R' 5 = .int .i64 y5:=(hs 5 rfl).trans h5;exact zA5 a0) <|
          Obls.cons (Obl.plain rfl rfl fun R' w' hw hs hd=>by have a0:R' 10 = .int .i64 y5:=hd 0 _ _ _ rfl rfl rfl rfl rfl;exact zB8 a0 rfl e16) <|
          Obls.cons (Obl.plain rfl rfl fun R' w' hw hs hd=>by have a0:R' 11 = .int .i64 (y5+(1:Int)):=hd 0 _ _ _ rfl rfl rfl rfl rfl;exact zA6 a0) <|
          Obls.nil
      intro R w hw hs hF'
      replace h0:R 0=v0:=(hs 0 rfl).trans h0
      replace h1:R 1 = .int .i64 x11.1:=(hs 1 rfl).trans h1
      have h5:R 5 = .int .i64 (y5+(1:Int)):=hF' 2 _ _ rfl rfl rfl
      replace hO:=hO.fr hw
      replace hA:=hA.fr hw.size
      replace hF:=hF.tr (hw.ch noB) fun _ h=>False.elim h
      clear hs hF' hw
      refine zA4 ?_
      exact Exists.intro k (And.intro (Nat.lt_succ_self k) ⟨_,_,_,_,S15,hr,hA,hF,hAA,hO,h0,h1,h5⟩)
    · have hr := zAp c7 hr
      refine HT.exit ?_
      obtain rfl:=Option.some.inj hr
      exact Exists.intro _ ⟨_,Sl_v0,rfl,hA,hF,hAA,hO,h1⟩
  rintro R w ⟨A,s3,So_v0,es,hA,hF,hAA,hO,h1⟩
  obtain rfl:=es.symm
  refine HT.seq ?_
  refine HT.text (l:=⟨_,true,.raw (.int .i64 s3.1)⟩::⟨_,true,.raw (.int .i64 s3.1)⟩::[]) (tl:=[]) (by kernel_rfl) (by kernel_rfl) (by kernel_rfl) ?_ ?_
  · exact
      Obls.cons (Obl.plain rfl rfl fun R' w' hw hs hd=>by have a0:R' 1 = .int .i64 s3.1:=(hs 1 rfl).trans h1;exact zA5 a0) <|
      Obls.cons (Obl.plain rfl rfl fun R' w' hw hs hd=>by have a0:R' 19 = .int .i64 s3.1:=hd 0 _ _ _ rfl rfl rfl rfl rfl;exact zA6 a0) <|
      Obls.nil
  intro R w hw hs hF'
  have h4:R 4 = .int .i64 s3.1:=hF' 1 _ _ rfl rfl rfl
  replace hO:=hO.fr hw
  replace hA:=hA.fr hw.size
  replace hF:=hF.tr (hw.ch noB) fun _ h=>False.elim h
  clear hs hF' hw
  refine zA4 ?_
  refine HT.ret ?_
  obtain rfl:=Option.some.inj hr
  exact ⟨.inr rfl,[R 4],⟨rfl,trivial⟩,h4,zCx rfl (hO.own 0 _ rfl) (hO.ok 0 _ rfl).2 hAA hF⟩
def zBt (fu:Nat) (p0:zAH) (p1:Int):Option (Int × zAH):=
  cl true (zCO fu p0 p1) fun x5=>
  some (x5.1,x5.2)
set_option maxRecDepth 100000 in
set_option maxHeartbeats 4000000 in
theorem zEg {fu : Nat} {A0 : Av} {p0 : zAH} {p1 : Int} {r : Int × zAH} (hr : zBt fu p0 p1 = some r) {w : World} {v0 : Value} {v1 : Value} {S0 : Nat → Prop} (hA : AvOK A0 w) (hN : ∀ b o, A0 b o → ¬ S0 b) (h0 : (trP (oBx (oSl 79 (oBx (oSl 82 (oRd zA1))))) p0 []).P (addS A0 S0) w S0 v0) (h1 : v1 = .int .i64 p1) :
    Calls Try.prog 15 #[v0,v1] w fun e w'=>∃ v,e = .returned v∧(v = .int .i64 r.1∧Gave (oBx (oSl 79 (oBx (oSl 82 (oRd zA1))))) A0 S0 w v0 r.2 w'):=by
  unfold zBt at hr
  obtain ⟨w0,hw0⟩:∃ w0,w0=w:=⟨_,rfl⟩
  have hF:Ch S0 w0 w:=hw0 ▸ Ch.refl _ _
  have hA0:∀ b o,A0 b o→b<w0.heap.size:=fun b o h=>hw0 ▸ hA b o h
  have hA00:AvOK A0 w0:=hA0
  rw [show Gave (oBx (oSl 79 (oBx (oSl 82 (oRd zA1))))) A0 S0 w=Gave (oBx (oSl 79 (oBx (oSl 82 (oRd zA1))))) A0 S0 w0 from hw0 ▸ rfl]
  have hw0s:w.heap.size=w0.heap.size:=hw0 ▸ rfl
  obtain ⟨cs_0,ecs_0,lcs_0,ocs_0⟩:=zIr h0
  clear hw0
  have hO:=IniOK.oneT h0
  have hA1:=hA.oneT h0
  rw [show w.heap.size=w0.heap.size from hw0s] at hO
  obtain ⟨A,hAe⟩:∃ A,A=addS A0 S0:=⟨_,rfl⟩
  have hAA:∀ b o,A0 b o→A b o:=fun b o h=>hAe ▸ .inl h
  replace hA:AvOK A w:=hAe ▸ hA1
  replace hO:IniOK [⟨v0,S0,trR (fun k=>w0.heap.size≤k∨S0 k) (oBx (oSl 79 (oBx (oSl 82 (oRd zA1))))) p0 []⟩] A w:=hAe ▸ hO
  refine zAI [.tmp 4] Try.func15 Try.ntmps15 (by decide) rfl rfl (Nat.le_of_ble_eq_true rfl) ?_
  intro R hR
  replace h0:R 0=v0:=hR 0 _ rfl
  replace h1:R 1 = .int .i64 p1:=(hR 1 _ rfl).trans h1
  clear hR hAe
  refine HT.seq ?_
  refine HT.textR [⟨v0,S0,trR (fun k=>w0.heap.size≤k∨S0 k) (oBx (oSl 79 (oBx (oSl 82 (oRd zA1))))) p0 []⟩] (⟨_,true,[0],some (.gen (fun k=>w0.heap.size≤k∨S0 k) (trB 29 (oBx (oSl 79 (oBx (oSl 82 (oRd zA1))))) p0 cs_0)),true,fun A=>.any⟩::⟨_,true,[],none,true,fun A=>.raw (.int .i64 (0:Int))⟩::[]) (by kernel_rfl) (by kernel_rfl) (Wf.mk' (by kernel_rfl) (UAll.cons zAG (UAll.cons zAA (UAll.nil))) (by kernel_rfl) (by kernel_rfl)) hO hA ?_ ?_
  · exact
      zA9.cons (OblR.tookS 0 _ _ rfl rfl rfl rfl rfl fun A' R' w' ho hd u S hok hown hav hin hop hds=>by have a0:R' 0=v0:=(ho.old 0 rfl).trans h0;have e0:=(hin _ rfl).1;rw [e0] at hown ⊢;exact zI7 hown.2 ecs_0 lcs_0 ocs_0 a0 hav hown.1 (fun k hk=>.inl (Nat.le_trans (Nat.le_trans hF.size ho.ch.size) hk))) <|
      zA9.cons (OblR.plain rfl rfl rfl rfl fun A' R' w' ho hd=>by exact zA6 rfl) <|
      zA9.nil
  intro done ρ σ A R w hdn hI
  replace h1:R 1 = .int .i64 p1:=(hI.reg rfl).trans h1
  obtain ⟨u1,e_u1⟩:∃ u,ρ 1=u:=⟨_,rfl⟩
  have h2:R 2=u1:=(hI.opvR hdn 1 0 rfl rfl rfl rfl rfl).symm.trans e_u1
  obtain ⟨S2,eS_u1⟩:∃ S,σ 1=S:=⟨_,rfl⟩
  replace hAA:=hI.lowK hAA hA0 hN (hO.geK (⟨fun _ h=>h,trivial⟩))
  replace hF:Ch S0 w0 w:=hF.tr hI.ch (hO.geK (⟨fun _ h=>h,trivial⟩))
  replace hO:IniOK [⟨u1,S2,.gen (fun k=>w0.heap.size≤k∨S0 k) (trB 29 (oBx (oSl 79 (oBx (oSl 82 (oRd zA1))))) p0 cs_0)⟩] A w:=hI.left hdn [(1,⟨u1,S2,.gen (fun k=>w0.heap.size≤k∨S0 k) (trB 29 (oBx (oSl 79 (oBx (oSl 82 (oRd zA1))))) p0 cs_0)⟩)] ⟨rfl,rfl,e_u1,eS_u1,rfl,trivial⟩
  replace hA:=hI.avok
  clear hI
  replace hO:IniOK [⟨u1,S2,trR (fun k=>w0.heap.size≤k∨S0 k) (oPt 29 (oBx (oSl 79 (oBx (oSl 82 (oRd zA1)))))) p0 [(u1,cs_0)]⟩] A w:=hO.repin 0 rfl (fun h=>trP.pin h.2 h.1)
  refine HT.seq ?_
  obtain ⟨h3,p_h3⟩:=(((zAJ (hO.own 0 _ rfl).2).ptr).bx).open1 rfl
  replace hO:IniOK [⟨u1,S2,trR (fun k=>w0.heap.size≤k∨S0 k) (oPt 29 (oBx (oSl 79 (oBx (oSl 82 (oRd zA1)))))) p0 [(u1,[h3]),(u1,cs_0)]⟩] A w:=hO.repin 0 rfl (trP.pin p_h3)
  obtain ⟨x5,q6,hr⟩:=zAK hr
  refine HT.textR [⟨u1,S2,trR (fun k=>w0.heap.size≤k∨S0 k) (oPt 29 (oBx (oSl 79 (oBx (oSl 82 (oRd zA1)))))) p0 [(u1,[h3]),(u1,cs_0)]⟩] (⟨_,true,[],none,true,fun A=>.raw u1⟩::⟨_,true,[],none,true,fun A=>.raw h3⟩::⟨_,true,[],none,true,fun A=>.raw (.int .i64 p1)⟩::⟨_,true,[0],some (trR (fun k=>w0.heap.size≤k∨S0 k) (oPt 29 (oBx (oSl 79 (oBx (oSl 82 (oRd zA1)))))) x5.2 [(u1,cs_0)]),false,fun A=>.raw (.int .i64 x5.1)⟩::⟨_,true,[],none,true,fun A=>.raw (.int .i64 x5.1)⟩::[]) (by kernel_rfl) (by kernel_rfl) (Wf.mk' (by kernel_rfl) (UAll.cons zAA (UAll.cons zAA (UAll.cons zAA (UAll.cons zAA (UAll.cons zAA (UAll.nil)))))) (by kernel_rfl) (by kernel_rfl)) hO hA ?_ ?_
  · exact
      zA9.cons (OblR.plain rfl rfl rfl rfl fun A' R' w' ho hd=>by have a0:R' 2=u1:=(ho.old 2 rfl).trans h2;exact zAb ((zAJ (hO.own 0 _ rfl).2).ptr).ad a0 zCl Try.sizeOf27 (by decide) (zEf ((zAJ (hO.own 0 _ rfl).2).ptr).ad)) <|
      zA9.cons (OblR.plain rfl rfl rfl rfl fun A' R' w' ho hd=>by have a0:R' 5=u1:=hd 0 _ _ _ rfl rfl rfl rfl rfl;exact zBv ((ho.rdo 0 _ rfl rfl).2.2 _ (.head _)) a0 Try.isAgg27 Try.sizeOf27) <|
      zA9.cons (OblR.plain rfl rfl rfl rfl fun A' R' w' ho hd=>by have a0:R' 1 = .int .i64 p1:=(ho.old 1 rfl).trans h1;exact zA5 a0) <|
      zA9.cons (OblR.tookS 0 _ _ rfl rfl rfl rfl rfl fun A' R' w' ho hd u S hok hown hav hin hop hds=>by have a0:R' 6=h3:=hd 0 _ _ _ rfl rfl rfl rfl rfl;have a1:R' 7 = .int .i64 p1:=hd 1 _ _ _ rfl rfl rfl rfl rfl;have e0:=(hin _ rfl).1;rw [e0] at hown ⊢;have hu0:zAL R' (.tmp 6)=h3:=a0;exact zCH Try.call41 ((((zAJ hown.2).ptr).bx).pinK (hown.2.2 _ (.head _)) rfl (hown.2.2 _ (.tail _ (.head _))) (zJk (zAJ hown.2).ptr.ad)) hav hown.1 (fun k hk=>.inl (Nat.le_trans (Nat.le_trans hF.size ho.ch.size) hk)) (fun k hk=>SP.lt _ hown.2 hk) (fun S1 hS1 hP=>by simp only [List.map,hu0];exact zFL (q6 rfl) (ho.av.subS _) (fun b o h=>h.2) hP a1) (fun _ _ _ h=>trP.pin h.2 h.1)) <|
      zA9.cons (OblR.plain rfl rfl rfl rfl fun A' R' w' ho hd=>by have a0:R' 8 = .int .i64 x5.1:=hd 0 _ _ _ rfl rfl rfl rfl rfl;exact zA6 a0) <|
      zA9.nil
  intro done ρ σ A R w hdn hI
  have z7:=hI.inivR 0 rfl
  have z8:=(hI.opnR hdn 4 3 rfl rfl rfl rfl rfl).trans z7
  obtain ⟨S9,eS_u1⟩:∃ S,σ 4=S:=⟨_,rfl⟩
  have h1:R 1 = .int .i64 x5.1:=hI.fact hdn (i:=4) rfl rfl rfl
  replace hAA:=hI.lowK hAA hA0 hN (hO.geK (⟨fun _ h=>h,trivial⟩))
  replace hF:Ch S0 w0 w:=hF.tr hI.ch (hO.geK (⟨fun _ h=>h,trivial⟩))
  replace hO:IniOK [⟨u1,S9,trR (fun k=>w0.heap.size≤k∨S0 k) (oPt 29 (oBx (oSl 79 (oBx (oSl 82 (oRd zA1)))))) x5.2 [(u1,cs_0)]⟩] A w:=hI.left hdn [(4,⟨u1,S9,trR (fun k=>w0.heap.size≤k∨S0 k) (oPt 29 (oBx (oSl 79 (oBx (oSl 82 (oRd zA1)))))) x5.2 [(u1,cs_0)]⟩)] ⟨rfl,rfl,z8,eS_u1,rfl,trivial⟩
  replace hA:=hI.avok
  clear hI
  refine HT.seq ?_
  refine HT.text (l:=⟨_,true,.raw (.int .i64 x5.1)⟩::⟨_,true,.raw (.int .i64 x5.1)⟩::[]) (tl:=[]) (by kernel_rfl) (by kernel_rfl) (by kernel_rfl) ?_ ?_
  · exact
      Obls.cons (Obl.plain rfl rfl fun R' w' hw hs hd=>by have a0:R' 1 = .int .i64 x5.1:=(hs 1 rfl).trans h1;exact zA5 a0) <|
      Obls.cons (Obl.plain rfl rfl fun R' w' hw hs hd=>by have a0:R' 9 = .int .i64 x5.1:=hd 0 _ _ _ rfl rfl rfl rfl rfl;exact zA6 a0) <|
      Obls.nil
  intro R w hw hs hF'
  have h4:R 4 = .int .i64 x5.1:=hF' 1 _ _ rfl rfl rfl
  replace hO:=hO.fr hw
  replace hA:=hA.fr hw.size
  replace hF:=hF.tr (hw.ch noB) fun _ h=>False.elim h
  clear hs hF' hw
  refine zA4 ?_
  refine HT.ret ?_
  obtain rfl:=Option.some.inj hr
  exact ⟨.inr rfl,[R 4],⟨rfl,trivial⟩,h4,zFY rfl (hO.own 0 _ rfl) (hO.ok 0 _ rfl).2 hAA ecs_0 lcs_0 hF⟩
def zB1 (fu : Nat) : Nat → Int → Int → (List zA3) → Option (Int × (List zA3))
  | 0,_,_,_=>none
  | k+1,y4,y5,y6=>
    bif (decide (y5 < (y6.length : Int))) then (
      ck (inR y5 y6.length) <|
      ck (i64B (y4+(1:Int))) <|
      ck (inR y5 (y6.set y5.toNat (y4,(gtD y6 y5).2.1,(gtD y6 y5).2.2.1,(gtD y6 y5).2.2.2)).length) <|
      ck (i64B ((y4+(1:Int))+(1:Int))) <|
      ck (inR y5 ((y6.set y5.toNat (y4,(gtD y6 y5).2.1,(gtD y6 y5).2.2.1,(gtD y6 y5).2.2.2)).set y5.toNat ((gtD (y6.set y5.toNat (y4,(gtD y6 y5).2.1,(gtD y6 y5).2.2.1,(gtD y6 y5).2.2.2)) y5).1,(y4+(1:Int)),(gtD (y6.set y5.toNat (y4,(gtD y6 y5).2.1,(gtD y6 y5).2.2.1,(gtD y6 y5).2.2.2)) y5).2.2.1,(gtD (y6.set y5.toNat (y4,(gtD y6 y5).2.1,(gtD y6 y5).2.2.1,(gtD y6 y5).2.2.2)) y5).2.2.2)).length) <|
      ck (i64B (((y4+(1:Int))+(1:Int))+(1:Int))) <|
      ck (inR y5 (((y6.set y5.toNat (y4,(gtD y6 y5).2.1,(gtD y6 y5).2.2.1,(gtD y6 y5).2.2.2)).set y5.toNat ((gtD (y6.set y5.toNat (y4,(gtD y6 y5).2.1,(gtD y6 y5).2.2.1,(gtD y6 y5).2.2.2)) y5).1,(y4+(1:Int)),(gtD (y6.set y5.toNat (y4,(gtD y6 y5).2.1,(gtD y6 y5).2.2.1,(gtD y6 y5).2.2.2)) y5).2.2.1,(gtD (y6.set y5.toNat (y4,(gtD y6 y5).2.1,(gtD y6 y5).2.2.1,(gtD y6 y5).2.2.2)) y5).2.2.2)).set y5.toNat ((gtD ((y6.set y5.toNat (y4,(gtD y6 y5).2.1,(gtD y6 y5).2.2.1,(gtD y6 y5).2.2.2)).set y5.toNat ((gtD (y6.set y5.toNat (y4,(gtD y6 y5).2.1,(gtD y6 y5).2.2.1,(gtD y6 y5).2.2.2)) y5).1,(y4+(1:Int)),(gtD (y6.set y5.toNat (y4,(gtD y6 y5).2.1,(gtD y6 y5).2.2.1,(gtD y6 y5).2.2.2)) y5).2.2.1,(gtD (y6.set y5.toNat (y4,(gtD y6 y5).2.1,(gtD y6 y5).2.2.1,(gtD y6 y5).2.2.2)) y5).2.2.2)) y5).1,(gtD ((y6.set y5.toNat (y4,(gtD y6 y5).2.1,(gtD y6 y5).2.2.1,(gtD y6 y5).2.2.2)).set y5.toNat ((gtD (y6.set y5.toNat (y4,(gtD y6 y5).2.1,(gtD y6 y5).2.2.1,(gtD y6 y5).2.2.2)) y5).1,(y4+(1:Int)),(gtD (y6.set y5.toNat (y4,(gtD y6 y5).2.1,(gtD y6 y5).2.2.1,(gtD y6 y5).2.2.2)) y5).2.2.1,(gtD (y6.set y5.toNat (y4,(gtD y6 y5).2.1,(gtD y6 y5).2.2.1,(gtD y6 y5).2.2.2)) y5).2.2.2)) y5).2.1,((y4+(1:Int))+(1:Int)),(gtD ((y6.set y5.toNat (y4,(gtD y6 y5).2.1,(gtD y6 y5).2.2.1,(gtD y6 y5).2.2.2)).set y5.toNat ((gtD (y6.set y5.toNat (y4,(gtD y6 y5).2.1,(gtD y6 y5).2.2.1,(gtD y6 y5).2.2.2)) y5).1,(y4+(1:Int)),(gtD (y6.set y5.toNat (y4,(gtD y6 y5).2.1,(gtD y6 y5).2.2.1,(gtD y6 y5).2.2.2)) y5).2.2.1,(gtD (y6.set y5.toNat (y4,(gtD y6 y5).2.1,(gtD y6 y5).2.2.1,(gtD y6 y5).2.2.2)) y5).2.2.2)) y5).2.2.2)).length) <|
      ck (i64B ((((y4+(1:Int))+(1:Int))+(1:Int))+(1:Int))) <|
      ck (i64B (y5+(1:Int))) <|
      zB1 fu k ((((y4+(1:Int))+(1:Int))+(1:Int))+(1:Int)) (y5+(1:Int)) ((((y6.set y5.toNat (y4,(gtD y6 y5).2.1,(gtD y6 y5).2.2.1,(gtD y6 y5).2.2.2)).set y5.toNat ((gtD (y6.set y5.toNat (y4,(gtD y6 y5).2.1,(gtD y6 y5).2.2.1,(gtD y6 y5).2.2.2)) y5).1,(y4+(1:Int)),(gtD (y6.set y5.toNat (y4,(gtD y6 y5).2.1,(gtD y6 y5).2.2.1,(gtD y6 y5).2.2.2)) y5).2.2.1,(gtD (y6.set y5.toNat (y4,(gtD y6 y5).2.1,(gtD y6 y5).2.2.1,(gtD y6 y5).2.2.2)) y5).2.2.2)).set y5.toNat ((gtD ((y6.set y5.toNat (y4,(gtD y6 y5).2.1,(gtD y6 y5).2.2.1,(gtD y6 y5).2.2.2)).set y5.toNat ((gtD (y6.set y5.toNat (y4,(gtD y6 y5).2.1,(gtD y6 y5).2.2.1,(gtD y6 y5).2.2.2)) y5).1,(y4+(1:Int)),(gtD (y6.set y5.toNat (y4,(gtD y6 y5).2.1,(gtD y6 y5).2.2.1,(gtD y6 y5).2.2.2)) y5).2.2.1,(gtD (y6.set y5.toNat (y4,(gtD y6 y5).2.1,(gtD y6 y5).2.2.1,(gtD y6 y5).2.2.2)) y5).2.2.2)) y5).1,(gtD ((y6.set y5.toNat (y4,(gtD y6 y5).2.1,(gtD y6 y5).2.2.1,(gtD y6 y5).2.2.2)).set y5.toNat ((gtD (y6.set y5.toNat (y4,(gtD y6 y5).2.1,(gtD y6 y5).2.2.1,(gtD y6 y5).2.2.2)) y5).1,(y4+(1:Int)),(gtD (y6.set y5.toNat (y4,(gtD y6 y5).2.1,(gtD y6 y5).2.2.1,(gtD y6 y5).2.2.2)) y5).2.2.1,(gtD (y6.set y5.toNat (y4,(gtD y6 y5).2.1,(gtD y6 y5).2.2.1,(gtD y6 y5).2.2.2)) y5).2.2.2)) y5).2.1,((y4+(1:Int))+(1:Int)),(gtD ((y6.set y5.toNat (y4,(gtD y6 y5).2.1,(gtD y6 y5).2.2.1,(gtD y6 y5).2.2.2)).set y5.toNat ((gtD (y6.set y5.toNat (y4,(gtD y6 y5).2.1,(gtD y6 y5).2.2.1,(gtD y6 y5).2.2.2)) y5).1,(y4+(1:Int)),(gtD (y6.set y5.toNat (y4,(gtD y6 y5).2.1,(gtD y6 y5).2.2.1,(gtD y6 y5).2.2.2)) y5).2.2.1,(gtD (y6.set y5.toNat (y4,(gtD y6 y5).2.1,(gtD y6 y5).2.2.1,(gtD y6 y5).2.2.2)) y5).2.2.2)) y5).2.2.2)).set y5.toNat ((gtD (((y6.set y5.toNat (y4,(gtD y6 y5).2.1,(gtD y6 y5).2.2.1,(gtD y6 y5).2.2.2)).set y5.toNat ((gtD (y6.set y5.toNat (y4,(gtD y6 y5).2.1,(gtD y6 y5).2.2.1,(gtD y6 y5).2.2.2)) y5).1,(y4+(1:Int)),(gtD (y6.set y5.toNat (y4,(gtD y6 y5).2.1,(gtD y6 y5).2.2.1,(gtD y6 y5).2.2.2)) y5).2.2.1,(gtD (y6.set y5.toNat (y4,(gtD y6 y5).2.1,(gtD y6 y5).2.2.1,(gtD y6 y5).2.2.2)) y5).2.2.2)).set y5.toNat ((gtD ((y6.set y5.toNat (y4,(gtD y6 y5).2.1,(gtD y6 y5).2.2.1,(gtD y6 y5).2.2.2)).set y5.toNat ((gtD (y6.set y5.toNat (y4,(gtD y6 y5).2.1,(gtD y6 y5).2.2.1,(gtD y6 y5).2.2.2)) y5).1,(y4+(1:Int)),(gtD (y6.set y5.toNat (y4,(gtD y6 y5).2.1,(gtD y6 y5).2.2.1,(gtD y6 y5).2.2.2)) y5).2.2.1,(gtD (y6.set y5.toNat (y4,(gtD y6 y5).2.1,(gtD y6 y5).2.2.1,(gtD y6 y5).2.2.2)) y5).2.2.2)) y5).1,(gtD ((y6.set y5.toNat (y4,(gtD y6 y5).2.1,(gtD y6 y5).2.2.1,(gtD y6 y5).2.2.2)).set y5.toNat ((gtD (y6.set y5.toNat (y4,(gtD y6 y5).2.1,(gtD y6 y5).2.2.1,(gtD y6 y5).2.2.2)) y5).1,(y4+(1:Int)),(gtD (y6.set y5.toNat (y4,(gtD y6 y5).2.1,(gtD y6 y5).2.2.1,(gtD y6 y5).2.2.2)) y5).2.2.1,(gtD (y6.set y5.toNat (y4,(gtD y6 y5).2.1,(gtD y6 y5).2.2.1,(gtD y6 y5).2.2.2)) y5).2.2.2)) y5).2.1,((y4+(1:Int))+(1:Int)),(gtD ((y6.set y5.toNat (y4,(gtD y6 y5).2.1,(gtD y6 y5).2.2.1,(gtD y6 y5).2.2.2)).set y5.toNat ((gtD (y6.set y5.toNat (y4,(gtD y6 y5).2.1,(gtD y6 y5).2.2.1,(gtD y6 y5).2.2.2)) y5).1,(y4+(1:Int)),(gtD (y6.set y5.toNat (y4,(gtD y6 y5).2.1,(gtD y6 y5).2.2.1,(gtD y6 y5).2.2.2)) y5).2.2.1,(gtD (y6.set y5.toNat (y4,(gtD y6 y5).2.1,(gtD y6 y5).2.2.1,(gtD y6 y5).2.2.2)) y5).2.2.2)) y5).2.2.2)) y5).1,(gtD (((y6.set y5.toNat (y4,(gtD y6 y5).2.1,(gtD y6 y5).2.2.1,(gtD y6 y5).2.2.2)).set y5.toNat ((gtD (y6.set y5.toNat (y4,(gtD y6 y5).2.1,(gtD y6 y5).2.2.1,(gtD y6 y5).2.2.2)) y5).1,(y4+(1:Int)),(gtD (y6.set y5.toNat (y4,(gtD y6 y5).2.1,(gtD y6 y5).2.2.1,(gtD y6 y5).2.2.2)) y5).2.2.1,(gtD (y6.set y5.toNat (y4,(gtD y6 y5).2.1,(gtD y6 y5).2.2.1,(gtD y6 y5).2.2.2)) y5).2.2.2)).set y5.toNat ((gtD ((y6.set y5.toNat (y4,(gtD y6 y5).2.1,(gtD y6 y5).2.2.1,(gtD y6 y5).2.2.2)).set y5.toNat ((gtD (y6.set y5.toNat (y4,(gtD y6 y5).2.1,(gtD y6 y5).2.2.1,(gtD y6 y5).2.2.2)) y5).1,(y4+(1:Int)),(gtD (y6.set y5.toNat (y4,(gtD y6 y5).2.1,(gtD y6 y5).2.2.1,(gtD y6 y5).2.2.2)) y5).2.2.1,(gtD (y6.set y5.toNat (y4,(gtD y6 y5).2.1,(gtD y6 y5).2.2.1,(gtD y6 y5).2.2.2)) y5).2.2.2)) y5).1,(gtD ((y6.set y5.toNat (y4,(gtD y6 y5).2.1,(gtD y6 y5).2.2.1,(gtD y6 y5).2.2.2)).set y5.toNat ((gtD (y6.set y5.toNat (y4,(gtD y6 y5).2.1,(gtD y6 y5).2.2.1,(gtD y6 y5).2.2.2)) y5).1,(y4+(1:Int)),(gtD (y6.set y5.toNat (y4,(gtD y6 y5).2.1,(gtD y6 y5).2.2.1,(gtD y6 y5).2.2.2)) y5).2.2.1,(gtD (y6.set y5.toNat (y4,(gtD y6 y5).2.1,(gtD y6 y5).2.2.1,(gtD y6 y5).2.2.2)) y5).2.2.2)) y5).2.1,((y4+(1:Int))+(1:Int)),(gtD ((y6.set y5.toNat (y4,(gtD y6 y5).2.1,(gtD y6 y5).2.2.1,(gtD y6 y5).2.2.2)).set y5.toNat ((gtD (y6.set y5.toNat (y4,(gtD y6 y5).2.1,(gtD y6 y5).2.2.1,(gtD y6 y5).2.2.2)) y5).1,(y4+(1:Int)),(gtD (y6.set y5.toNat (y4,(gtD y6 y5).2.1,(gtD y6 y5).2.2.1,(gtD y6 y5).2.2.2)) y5).2.2.1,(gtD (y6.set y5.toNat (y4,(gtD y6 y5).2.1,(gtD y6 y5).2.2.1,(gtD y6 y5).2.2.2)) y5).2.2.2)) y5).2.2.2)) y5).2.1,(gtD (((y6.set y5.toNat (y4,(gtD y6 y5).2.1,(gtD y6 y5).2.2.1,(gtD y6 y5).2.2.2)).set y5.toNat ((gtD (y6.set y5.toNat (y4,(gtD y6 y5).2.1,(gtD y6 y5).2.2.1,(gtD y6 y5).2.2.2)) y5).1,(y4+(1:Int)),(gtD (y6.set y5.toNat (y4,(gtD y6 y5).2.1,(gtD y6 y5).2.2.1,(gtD y6 y5).2.2.2)) y5).2.2.1,(gtD (y6.set y5.toNat (y4,(gtD y6 y5).2.1,(gtD y6 y5).2.2.1,(gtD y6 y5).2.2.2)) y5).2.2.2)).set y5.toNat ((gtD ((y6.set y5.toNat (y4,(gtD y6 y5).2.1,(gtD y6 y5).2.2.1,(gtD y6 y5).2.2.2)).set y5.toNat ((gtD (y6.set y5.toNat (y4,(gtD y6 y5).2.1,(gtD y6 y5).2.2.1,(gtD y6 y5).2.2.2)) y5).1,(y4+(1:Int)),(gtD (y6.set y5.toNat (y4,(gtD y6 y5).2.1,(gtD y6 y5).2.2.1,(gtD y6 y5).2.2.2)) y5).2.2.1,(gtD (y6.set y5.toNat (y4,(gtD y6 y5).2.1,(gtD y6 y5).2.2.1,(gtD y6 y5).2.2.2)) y5).2.2.2)) y5).1,(gtD ((y6.set y5.toNat (y4,(gtD y6 y5).2.1,(gtD y6 y5).2.2.1,(gtD y6 y5).2.2.2)).set y5.toNat ((gtD (y6.set y5.toNat (y4,(gtD y6 y5).2.1,(gtD y6 y5).2.2.1,(gtD y6 y5).2.2.2)) y5).1,(y4+(1:Int)),(gtD (y6.set y5.toNat (y4,(gtD y6 y5).2.1,(gtD y6 y5).2.2.1,(gtD y6 y5).2.2.2)) y5).2.2.1,(gtD (y6.set y5.toNat (y4,(gtD y6 y5).2.1,(gtD y6 y5).2.2.1,(gtD y6 y5).2.2.2)) y5).2.2.2)) y5).2.1,((y4+(1:Int))+(1:Int)),(gtD ((y6.set y5.toNat (y4,(gtD y6 y5).2.1,(gtD y6 y5).2.2.1,(gtD y6 y5).2.2.2)).set y5.toNat ((gtD (y6.set y5.toNat (y4,(gtD y6 y5).2.1,(gtD y6 y5).2.2.1,(gtD y6 y5).2.2.2)) y5).1,(y4+(1:Int)),(gtD (y6.set y5.toNat (y4,(gtD y6 y5).2.1,(gtD y6 y5).2.2.1,(gtD y6 y5).2.2.2)) y5).2.2.1,(gtD (y6.set y5.toNat (y4,(gtD y6 y5).2.1,(gtD y6 y5).2.2.1,(gtD y6 y5).2.2.2)) y5).2.2.2)) y5).2.2.2)) y5).2.2.1,(((y4+(1:Int))+(1:Int))+(1:Int))))
    ) else (
      some (y4,y6)
    )
def zBW (fu:Nat) (p0:List zA3) (p1:Int):Option (Int × List zA3):=
  cl true (zB1 fu fu p1 (0:Int) p0) fun s3=>
  some (s3.1,s3.2)
set_option maxRecDepth 100000 in
set_option maxHeartbeats 4000000 in
theorem zDy {fu : Nat} {A0 : Av} {p0 : List zA3} {p1 : Int} {r : Int × List zA3} (hr : zBW fu p0 p1 = some r) {w : World} {v0 : Value} {v1 : Value} {B0 : Nat} (hA : AvOK A0 w) (hN : ∀ b o, A0 b o → ¬ zAV v0 b) (h0 : (Res.vec B0 99 zA0 p0).ok A0 v0 w) (h1 : v1 = .int .i64 p1) :
    Calls Try.prog 47 #[v0,v1] w fun e w'=>∃ v,e = .returned v∧(v = .int .i64 r.1∧(Res.vec B0 99 zA0 r.2).ok A0 v0 w'∧Ch (zAV v0) w w'):=by
  unfold zBW at hr
  obtain ⟨w0,hw0⟩:∃ w0,w0=w:=⟨_,rfl⟩
  have hF:Ch (zAV v0) w0 w:=hw0 ▸ Ch.refl _ _
  have hA0:∀ b o,A0 b o→b<w0.heap.size:=fun b o h=>hw0 ▸ hA b o h
  have hA00:AvOK A0 w0:=hA0
  rw [show Ch (zAV v0) w=Ch (zAV v0) w0 from hw0 ▸ rfl]
  clear hw0
  obtain ⟨A,hAe⟩:∃ A,A=addA A0 v0:=⟨_,rfl⟩
  have hAA:∀ b o,A0 b o→A b o:=fun b o h=>hAe ▸ .inl h
  replace hA:AvOK A w:=hAe ▸ hA.one h0
  have hO:IniOK [ob v0 (.vec B0 99 zA0 p0)] A w:=hAe ▸ IniOK.one h0 (fun _ _ _ _ _ h=>h)
  refine zAI [.tmp 4] Try.func47 Try.ntmps47 (by decide) rfl rfl (Nat.le_of_ble_eq_true rfl) ?_
  intro R hR
  replace h0:R 0=v0:=hR 0 _ rfl
  replace h1:R 1 = .int .i64 p1:=(hR 1 _ rfl).trans h1
  clear hR hAe
  refine HT.seq ?_
  refine HT.text (l:=⟨_,true,.raw (.int .i64 (0:Int))⟩::[]) (tl:=[]) (by kernel_rfl) (by kernel_rfl) (by kernel_rfl) ?_ ?_
  · exact
      Obls.cons (Obl.plain rfl rfl fun R' w' hw hs hd=>by exact zA6 rfl) <|
      Obls.nil
  intro R w hw hs hF'
  replace h0:R 0=v0:=(hs 0 rfl).trans h0
  replace h1:R 1 = .int .i64 p1:=(hs 1 rfl).trans h1
  replace hO:=hO.fr hw
  replace hA:=hA.fr hw.size
  replace hF:=hF.tr (hw.ch noB) fun _ h=>False.elim h
  clear hs hF' hw
  refine zA4 ?_
  refine HT.seq ?_
  refine HT.seq ?_
  refine HT.text (l:=⟨_,true,.raw (.int .i64 (0:Int))⟩::[]) (tl:=[]) (by kernel_rfl) (by kernel_rfl) (by kernel_rfl) ?_ ?_
  · exact
      Obls.cons (Obl.plain rfl rfl fun R' w' hw hs hd=>by exact zA6 rfl) <|
      Obls.nil
  intro R w hw hs hF'
  replace h0:R 0=v0:=(hs 0 rfl).trans h0
  replace h1:R 1 = .int .i64 p1:=(hs 1 rfl).trans h1
  have h5:R 5 = .int .i64 (0:Int):=hF' 0 _ _ rfl rfl rfl
  replace hO:=hO.fr hw
  replace hA:=hA.fr hw.size
  replace hF:=hF.tr (hw.ch noB) fun _ h=>False.elim h
  clear hs hF' hw
  refine zA4 ?_
  obtain ⟨rl1,q2,hr⟩:=zAK hr
  replace q2:=q2 rfl
  refine HT.cut0 (fun R w=>∃ A:Av,∃ (s3:Int × (List zA3)),rl1=s3∧AvOK A w∧Ch (zAV v0) w0 w∧(∀ b o,A0 b o→A b o)∧IniOK [ob v0 (.vec B0 99 zA0 s3.2)] A w∧R 1 = .int .i64 s3.1) ?_ ?_
  · refine HT.block ?_
    refine HT.loop (fun k R w=>∃ A:Av,∃ (y4:Int) (y5:Int) (y6:List zA3),zB1 fu k y4 y5 y6=some rl1∧AvOK A w∧Ch (zAV v0) w0 w∧(∀ b o,A0 b o→A b o)∧IniOK [ob v0 (.vec B0 99 zA0 y6)] A w∧R 0=v0∧R 1 = .int .i64 y4∧R 5 = .int .i64 y5) fu ⟨_,_,_,_,q2,hA,hF,hAA,hO,h0,h1,h5⟩ ?_
    have hr0:=hr;clear hr q2
    rintro k R w ⟨A,y4,y5,y6,hr,hA,hF,hAA,hO,h0,h1,h5⟩
    rcases k with _ | k
    · cases (show none=some _ from hr)
    rw [zB1] at hr
    refine HT.seq ?_
    refine HT.seq ?_
    refine HT.text (l:=⟨_,true,.raw (.int .i64 y5)⟩::⟨_,true,.raw v0⟩::⟨_,true,.raw (.int .i64 (y6.length:Int))⟩::⟨_,true,.raw (.bool (decide (y5<(y6.length:Int))))⟩::[]) (tl:=[]) (by kernel_rfl) (by kernel_rfl) (by kernel_rfl) ?_ ?_
    · exact
        Obls.cons (Obl.plain rfl rfl fun R' w' hw hs hd=>by have a0:R' 5 = .int .i64 y5:=(hs 5 rfl).trans h5;exact zA5 a0) <|
        Obls.cons (Obl.plain rfl rfl fun R' w' hw hs hd=>by have a0:R' 0=v0:=(hs 0 rfl).trans h0;exact zA5 a0) <|
        Obls.cons (Obl.plain rfl rfl fun R' w' hw hs hd=>by have a0:R' 7=v0:=hd 0 _ _ _ rfl rfl rfl rfl rfl;exact zDR (hO.ok 0 _ rfl).1 a0 Try.underlying39) <|
        Obls.cons (Obl.plain rfl rfl fun R' w' hw hs hd=>by have a0:R' 6 = .int .i64 y5:=hd 0 _ _ _ rfl rfl rfl rfl rfl;have a1:R' 8 = .int .i64 (y6.length:Int):=hd 1 _ _ _ rfl rfl rfl rfl rfl;exact zBI a0 a1) <|
        Obls.nil
    intro R w hw hs hF'
    replace h0:R 0=v0:=(hs 0 rfl).trans h0
    replace h1:R 1 = .int .i64 y4:=(hs 1 rfl).trans h1
    replace h5:R 5 = .int .i64 y5:=(hs 5 rfl).trans h5
    have h9:R 9 = .bool (decide (y5<(y6.length:Int))):=hF' 3 _ _ rfl rfl rfl
    replace hO:=hO.fr hw
    replace hA:=hA.fr hw.size
    replace hF:=hF.tr (hw.ch noB) fun _ h=>False.elim h
    clear hs hF' hw
    refine zA4 ?_
    refine HT.cond (decide (y5<(y6.length:Int))) h9 (fun c7=>?_) (fun c7=>?_)
    · have hr := zAq c7 hr
      refine HT.skip ?_
      refine HT.seq ?_
      refine HT.block ?_
      refine HT.seq ?_
      obtain ⟨e8,hr⟩:=zAF hr
      refine HT.textR [ob v0 (.vec B0 99 zA0 y6)] (⟨_,true,[],none,true,fun A=>.raw v0⟩::⟨_,true,[],none,true,fun A=>.raw (.int .i64 y5)⟩::⟨_,true,[],none,true,fun A=>.raw (.int .i64 y4)⟩::⟨_,true,[],none,true,fun A=>.raw (vptr v0 (y5.toNat*4))⟩::⟨_,true,[],none,true,fun A=>.raw (vptr v0 (y5.toNat*4+0))⟩::⟨_,true,[0],some (.vec B0 99 zA0 (y6.set y5.toNat (y4,(gtD y6 y5).2.1,(gtD y6 y5).2.2.1,(gtD y6 y5).2.2.2))),false,fun A=>.any⟩::[]) (by kernel_rfl) (by kernel_rfl) (Wf.mk' (by kernel_rfl) (UAll.cons zAA (UAll.cons zAA (UAll.cons zAA (UAll.cons zAA (UAll.cons zAA (UAll.cons zAG (UAll.nil))))))) (by kernel_rfl) (by kernel_rfl)) hO hA ?_ ?_
      · exact
          zA9.cons (OblR.plain rfl rfl rfl rfl fun A' R' w' ho hd=>by have a0:R' 0=v0:=(ho.old 0 rfl).trans h0;exact zA5 a0) <|
          zA9.cons (OblR.plain rfl rfl rfl rfl fun A' R' w' ho hd=>by have a0:R' 5 = .int .i64 y5:=(ho.old 5 rfl).trans h5;exact zA5 a0) <|
          zA9.cons (OblR.plain rfl rfl rfl rfl fun A' R' w' ho hd=>by have a0:R' 1 = .int .i64 y4:=(ho.old 1 rfl).trans h1;exact zA5 a0) <|
          zA9.cons (OblR.plain rfl rfl rfl rfl fun A' R' w' ho hd=>by have a0:R' 12=v0:=hd 0 _ _ _ rfl rfl rfl rfl rfl;have a1:R' 13 = .int .i64 y5:=hd 1 _ _ _ rfl rfl rfl rfl rfl;exact zAr (hO.ok 0 _ rfl).1 a0 a1 Try.underlying39 Try.sizeOf99 e8 rfl) <|
          zA9.cons (OblR.plain rfl rfl rfl rfl fun A' R' w' ho hd=>by have a0:R' 15=(vptr v0 (y5.toNat*4)):=hd 0 _ _ _ rfl rfl rfl rfl rfl;exact zBZ (ho.rd 0 _ rfl rfl) (zFy e8) a0 zHa Try.sizeOf3 (by decide) rfl) <|
          zA9.cons (OblR.took 0 _ _ rfl rfl rfl rfl rfl fun A' R' w' ho hd u hok hav hin hop hds=>by have a0:R' 16=(vptr v0 (y5.toNat*4+0)):=hd 0 _ _ _ rfl rfl rfl rfl rfl;have a1:R' 14 = .int .i64 y4:=hd 1 _ _ _ rfl rfl rfl rfl rfl;obtain rfl:=hin _ rfl;exact zC8 (zDU.eq a1) hok hav a0 e8 rfl zEk Try.sizeOf3 rfl) <|
          zA9.nil
      intro done ρ σ A R w hdn hI
      replace h0:R 0=v0:=(hI.reg rfl).trans h0
      replace h1:R 1 = .int .i64 y4:=(hI.reg rfl).trans h1
      replace h5:R 5 = .int .i64 y5:=(hI.reg rfl).trans h5
      have z9:=hI.inivR 0 rfl
      have z10:=(hI.opnR hdn 6 5 rfl rfl rfl rfl rfl).trans z9
      replace hAA:=hI.lowK hAA hA0 hN (hO.geK (⟨.inr (fun k h=>.inr h),trivial⟩))
      replace hF:Ch (zAV v0) w0 w:=hF.tr hI.ch (hO.geK (⟨.inr (fun k h=>.inr h),trivial⟩))
      replace hO:IniOK [ob v0 (.vec B0 99 zA0 (y6.set y5.toNat (y4,(gtD y6 y5).2.1,(gtD y6 y5).2.2.1,(gtD y6 y5).2.2.2)))] A w:=hI.left hdn [(6,ob v0 (.vec B0 99 zA0 (y6.set y5.toNat (y4,(gtD y6 y5).2.1,(gtD y6 y5).2.2.1,(gtD y6 y5).2.2.2))))] ⟨rfl,rfl,z10,rfl,rfl,trivial⟩
      replace hA:=hI.avok
      clear hI
      refine HT.seq ?_
      obtain ⟨e11,hr⟩:=zAF hr
      refine HT.text (l:=⟨_,true,.raw (.int .i64 y4)⟩::⟨_,true,.raw (.int .i64 (y4+(1:Int)))⟩::⟨_,true,.raw (.int .i64 (y4+(1:Int)))⟩::[]) (tl:=[]) (by kernel_rfl) (by kernel_rfl) (by kernel_rfl) ?_ ?_
      · exact
          Obls.cons (Obl.plain rfl rfl fun R' w' hw hs hd=>by have a0:R' 1 = .int .i64 y4:=(hs 1 rfl).trans h1;exact zA5 a0) <|
          Obls.cons (Obl.plain rfl rfl fun R' w' hw hs hd=>by have a0:R' 17 = .int .i64 y4:=hd 0 _ _ _ rfl rfl rfl rfl rfl;exact zB8 a0 rfl e11) <|
          Obls.cons (Obl.plain rfl rfl fun R' w' hw hs hd=>by have a0:R' 18 = .int .i64 (y4+(1:Int)):=hd 0 _ _ _ rfl rfl rfl rfl rfl;exact zA6 a0) <|
          Obls.nil
      intro R w hw hs hF'
      replace h0:R 0=v0:=(hs 0 rfl).trans h0
      replace h5:R 5 = .int .i64 y5:=(hs 5 rfl).trans h5
      have h1:R 1 = .int .i64 (y4+(1:Int)):=hF' 2 _ _ rfl rfl rfl
      replace hO:=hO.fr hw
      replace hA:=hA.fr hw.size
      replace hF:=hF.tr (hw.ch noB) fun _ h=>False.elim h
      clear hs hF' hw
      refine zA4 ?_
      refine HT.seq ?_
      obtain ⟨e12,hr⟩:=zAF hr
      refine HT.textR [ob v0 (.vec B0 99 zA0 (y6.set y5.toNat (y4,(gtD y6 y5).2.1,(gtD y6 y5).2.2.1,(gtD y6 y5).2.2.2)))] (⟨_,true,[],none,true,fun A=>.raw v0⟩::⟨_,true,[],none,true,fun A=>.raw (.int .i64 y5)⟩::⟨_,true,[],none,true,fun A=>.raw (.int .i64 (y4+(1:Int)))⟩::⟨_,true,[],none,true,fun A=>.raw (vptr v0 (y5.toNat*4))⟩::⟨_,true,[],none,true,fun A=>.raw (vptr v0 (y5.toNat*4+1))⟩::⟨_,true,[0],some (.vec B0 99 zA0 ((y6.set y5.toNat (y4,(gtD y6 y5).2.1,(gtD y6 y5).2.2.1,(gtD y6 y5).2.2.2)).set y5.toNat ((gtD (y6.set y5.toNat (y4,(gtD y6 y5).2.1,(gtD y6 y5).2.2.1,(gtD y6 y5).2.2.2)) y5).1,(y4+(1:Int)),(gtD (y6.set y5.toNat (y4,(gtD y6 y5).2.1,(gtD y6 y5).2.2.1,(gtD y6 y5).2.2.2)) y5).2.2.1,(gtD (y6.set y5.toNat (y4,(gtD y6 y5).2.1,(gtD y6 y5).2.2.1,(gtD y6 y5).2.2.2)) y5).2.2.2))),false,fun A=>.any⟩::[]) (by kernel_rfl) (by kernel_rfl) (Wf.mk' (by kernel_rfl) (UAll.cons zAA (UAll.cons zAA (UAll.cons zAA (UAll.cons zAA (UAll.cons zAA (UAll.cons zAG (UAll.nil))))))) (by kernel_rfl) (by kernel_rfl)) hO hA ?_ ?_
      · exact
          zA9.cons (OblR.plain rfl rfl rfl rfl fun A' R' w' ho hd=>by have a0:R' 0=v0:=(ho.old 0 rfl).trans h0;exact zA5 a0) <|
          zA9.cons (OblR.plain rfl rfl rfl rfl fun A' R' w' ho hd=>by have a0:R' 5 = .int .i64 y5:=(ho.old 5 rfl).trans h5;exact zA5 a0) <|
          zA9.cons (OblR.plain rfl rfl rfl rfl fun A' R' w' ho hd=>by have a0:R' 1 = .int .i64 (y4+(1:Int)):=(ho.old 1 rfl).trans h1;exact zA5 a0) <|
          zA9.cons (OblR.plain rfl rfl rfl rfl fun A' R' w' ho hd=>by have a0:R' 19=v0:=hd 0 _ _ _ rfl rfl rfl rfl rfl;have a1:R' 20 = .int .i64 y5:=hd 1 _ _ _ rfl rfl rfl rfl rfl;exact zAr (hO.ok 0 _ rfl).1 a0 a1 Try.underlying39 Try.sizeOf99 e12 rfl) <|
          zA9.cons (OblR.plain rfl rfl rfl rfl fun A' R' w' ho hd=>by have a0:R' 22=(vptr v0 (y5.toNat*4)):=hd 0 _ _ _ rfl rfl rfl rfl rfl;exact zBZ (ho.rd 0 _ rfl rfl) (zFy e12) a0 zHA Try.sizeOf3 (by decide) rfl) <|
          zA9.cons (OblR.took 0 _ _ rfl rfl rfl rfl rfl fun A' R' w' ho hd u hok hav hin hop hds=>by have a0:R' 23=(vptr v0 (y5.toNat*4+1)):=hd 0 _ _ _ rfl rfl rfl rfl rfl;have a1:R' 21 = .int .i64 (y4+(1:Int)):=hd 1 _ _ _ rfl rfl rfl rfl rfl;obtain rfl:=hin _ rfl;exact zC8 (zDU.eq a1) hok hav a0 e12 rfl zEl Try.sizeOf3 rfl) <|
          zA9.nil
      intro done ρ σ A R w hdn hI
      replace h0:R 0=v0:=(hI.reg rfl).trans h0
      replace h1:R 1 = .int .i64 (y4+(1:Int)):=(hI.reg rfl).trans h1
      replace h5:R 5 = .int .i64 y5:=(hI.reg rfl).trans h5
      have z13:=hI.inivR 0 rfl
      have z14:=(hI.opnR hdn 6 5 rfl rfl rfl rfl rfl).trans z13
      replace hAA:=hI.lowK hAA hA0 hN (hO.geK (⟨.inr (fun k h=>.inr h),trivial⟩))
      replace hF:Ch (zAV v0) w0 w:=hF.tr hI.ch (hO.geK (⟨.inr (fun k h=>.inr h),trivial⟩))
      replace hO:IniOK [ob v0 (.vec B0 99 zA0 ((y6.set y5.toNat (y4,(gtD y6 y5).2.1,(gtD y6 y5).2.2.1,(gtD y6 y5).2.2.2)).set y5.toNat ((gtD (y6.set y5.toNat (y4,(gtD y6 y5).2.1,(gtD y6 y5).2.2.1,(gtD y6 y5).2.2.2)) y5).1,(y4+(1:Int)),(gtD (y6.set y5.toNat (y4,(gtD y6 y5).2.1,(gtD y6 y5).2.2.1,(gtD y6 y5).2.2.2)) y5).2.2.1,(gtD (y6.set y5.toNat (y4,(gtD y6 y5).2.1,(gtD y6 y5).2.2.1,(gtD y6 y5).2.2.2)) y5).2.2.2)))] A w:=hI.left hdn [(6,ob v0 (.vec B0 99 zA0 ((y6.set y5.toNat (y4,(gtD y6 y5).2.1,(gtD y6 y5).2.2.1,(gtD y6 y5).2.2.2)).set y5.toNat ((gtD (y6.set y5.toNat (y4,(gtD y6 y5).2.1,(gtD y6 y5).2.2.1,(gtD y6 y5).2.2.2)) y5).1,(y4+(1:Int)),(gtD (y6.set y5.toNat (y4,(gtD y6 y5).2.1,(gtD y6 y5).2.2.1,(gtD y6 y5).2.2.2)) y5).2.2.1,(gtD (y6.set y5.toNat (y4,(gtD y6 y5).2.1,(gtD y6 y5).2.2.1,(gtD y6 y5).2.2.2)) y5).2.2.2))))] ⟨rfl,rfl,z14,rfl,rfl,trivial⟩
      replace hA:=hI.avok
      clear hI
      refine HT.seq ?_
      obtain ⟨e15,hr⟩:=zAF hr
      refine HT.text (l:=⟨_,true,.raw (.int .i64 (y4+(1:Int)))⟩::⟨_,true,.raw (.int .i64 ((y4+(1:Int))+(1:Int)))⟩::⟨_,true,.raw (.int .i64 ((y4+(1:Int))+(1:Int)))⟩::[]) (tl:=[]) (by kernel_rfl) (by kernel_rfl) (by kernel_rfl) ?_ ?_
      · exact
          Obls.cons (Obl.plain rfl rfl fun R' w' hw hs hd=>by have a0:R' 1 = .int .i64 (y4+(1:Int)):=(hs 1 rfl).trans h1;exact zA5 a0) <|
          Obls.cons (Obl.plain rfl rfl fun R' w' hw hs hd=>by have a0:R' 24 = .int .i64 (y4+(1:Int)):=hd 0 _ _ _ rfl rfl rfl rfl rfl;exact zB8 a0 rfl e15) <|
          Obls.cons (Obl.plain rfl rfl fun R' w' hw hs hd=>by have a0:R' 25 = .int .i64 ((y4+(1:Int))+(1:Int)):=hd 0 _ _ _ rfl rfl rfl rfl rfl;exact zA6 a0) <|
          Obls.nil
      intro R w hw hs hF'
      replace h0:R 0=v0:=(hs 0 rfl).trans h0
      replace h5:R 5 = .int .i64 y5:=(hs 5 rfl).trans h5
      have h1:R 1 = .int .i64 ((y4+(1:Int))+(1:Int)):=hF' 2 _ _ rfl rfl rfl
      replace hO:=hO.fr hw
      replace hA:=hA.fr hw.size
      replace hF:=hF.tr (hw.ch noB) fun _ h=>False.elim h
      clear hs hF' hw
      refine zA4 ?_
      refine HT.seq ?_
      obtain ⟨e16,hr⟩:=zAF hr
      refine HT.textR [ob v0 (.vec B0 99 zA0 ((y6.set y5.toNat (y4,(gtD y6 y5).2.1,(gtD y6 y5).2.2.1,(gtD y6 y5).2.2.2)).set y5.toNat ((gtD (y6.set y5.toNat (y4,(gtD y6 y5).2.1,(gtD y6 y5).2.2.1,(gtD y6 y5).2.2.2)) y5).1,(y4+(1:Int)),(gtD (y6.set y5.toNat (y4,(gtD y6 y5).2.1,(gtD y6 y5).2.2.1,(gtD y6 y5).2.2.2)) y5).2.2.1,(gtD (y6.set y5.toNat (y4,(gtD y6 y5).2.1,(gtD y6 y5).2.2.1,(gtD y6 y5).2.2.2)) y5).2.2.2)))] (⟨_,true,[],none,true,fun A=>.raw v0⟩::⟨_,true,[],none,true,fun A=>.raw (.int .i64 y5)⟩::⟨_,true,[],none,true,fun A=>.raw (.int .i64 ((y4+(1:Int))+(1:Int)))⟩::⟨_,true,[],none,true,fun A=>.raw (vptr v0 (y5.toNat*4))⟩::⟨_,true,[],none,true,fun A=>.raw (vptr v0 (y5.toNat*4+2))⟩::⟨_,true,[0],some (.vec B0 99 zA0 (((y6.set y5.toNat (y4,(gtD y6 y5).2.1,(gtD y6 y5).2.2.1,(gtD y6 y5).2.2.2)).set y5.toNat ((gtD (y6.set y5.toNat (y4,(gtD y6 y5).2.1,(gtD y6 y5).2.2.1,(gtD y6 y5).2.2.2)) y5).1,(y4+(1:Int)),(gtD (y6.set y5.toNat (y4,(gtD y6 y5).2.1,(gtD y6 y5).2.2.1,(gtD y6 y5).2.2.2)) y5).2.2.1,(gtD (y6.set y5.toNat (y4,(gtD y6 y5).2.1,(gtD y6 y5).2.2.1,(gtD y6 y5).2.2.2)) y5).2.2.2)).set y5.toNat ((gtD ((y6.set y5.toNat (y4,(gtD y6 y5).2.1,(gtD y6 y5).2.2.1,(gtD y6 y5).2.2.2)).set y5.toNat ((gtD (y6.set y5.toNat (y4,(gtD y6 y5).2.1,(gtD y6 y5).2.2.1,(gtD y6 y5).2.2.2)) y5).1,(y4+(1:Int)),(gtD (y6.set y5.toNat (y4,(gtD y6 y5).2.1,(gtD y6 y5).2.2.1,(gtD y6 y5).2.2.2)) y5).2.2.1,(gtD (y6.set y5.toNat (y4,(gtD y6 y5).2.1,(gtD y6 y5).2.2.1,(gtD y6 y5).2.2.2)) y5).2.2.2)) y5).1,(gtD ((y6.set y5.toNat (y4,(gtD y6 y5).2.1,(gtD y6 y5).2.2.1,(gtD y6 y5).2.2.2)).set y5.toNat ((gtD (y6.set y5.toNat (y4,(gtD y6 y5).2.1,(gtD y6 y5).2.2.1,(gtD y6 y5).2.2.2)) y5).1,(y4+(1:Int)),(gtD (y6.set y5.toNat (y4,(gtD y6 y5).2.1,(gtD y6 y5).2.2.1,(gtD y6 y5).2.2.2)) y5).2.2.1,(gtD (y6.set y5.toNat (y4,(gtD y6 y5).2.1,(gtD y6 y5).2.2.1,(gtD y6 y5).2.2.2)) y5).2.2.2)) y5).2.1,((y4+(1:Int))+(1:Int)),(gtD ((y6.set y5.toNat (y4,(gtD y6 y5).2.1,(gtD y6 y5).2.2.1,(gtD y6 y5).2.2.2)).set y5.toNat ((gtD (y6.set y5.toNat (y4,(gtD y6 y5).2.1,(gtD y6 y5).2.2.1,(gtD y6 y5).2.2.2)) y5).1,(y4+(1:Int)),(gtD (y6.set y5.toNat (y4,(gtD y6 y5).2.1,(gtD y6 y5).2.2.1,(gtD y6 y5).2.2.2)) y5).2.2.1,(gtD (y6.set y5.toNat (y4,(gtD y6 y5).2.1,(gtD y6 y5).2.2.1,(gtD y6 y5).2.2.2)) y5).2.2.2)) y5).2.2.2))),false,fun A=>.any⟩::[]) (by kernel_rfl) (by kernel_rfl) (Wf.mk' (by kernel_rfl) (UAll.cons zAA (UAll.cons zAA (UAll.cons zAA (UAll.cons zAA (UAll.cons zAA (UAll.cons zAG (UAll.nil))))))) (by kernel_rfl) (by kernel_rfl)) hO hA ?_ ?_
      · exact
          zA9.cons (OblR.plain rfl rfl rfl rfl fun A' R' w' ho hd=>by have a0:R' 0=v0:=(ho.old 0 rfl).trans h0;exact zA5 a0) <|
          zA9.cons (OblR.plain rfl rfl rfl rfl fun A' R' w' ho hd=>by have a0:R' 5 = .int .i64 y5:=(ho.old 5 rfl).trans h5;exact zA5 a0) <|
          zA9.cons (OblR.plain rfl rfl rfl rfl fun A' R' w' ho hd=>by have a0:R' 1 = .int .i64 ((y4+(1:Int))+(1:Int)):=(ho.old 1 rfl).trans h1;exact zA5 a0) <|
          zA9.cons (OblR.plain rfl rfl rfl rfl fun A' R' w' ho hd=>by have a0:R' 26=v0:=hd 0 _ _ _ rfl rfl rfl rfl rfl;have a1:R' 27 = .int .i64 y5:=hd 1 _ _ _ rfl rfl rfl rfl rfl;exact zAr (hO.ok 0 _ rfl).1 a0 a1 Try.underlying39 Try.sizeOf99 e16 rfl) <|
          zA9.cons (OblR.plain rfl rfl rfl rfl fun A' R' w' ho hd=>by have a0:R' 29=(vptr v0 (y5.toNat*4)):=hd 0 _ _ _ rfl rfl rfl rfl rfl;exact zBZ (ho.rd 0 _ rfl rfl) (zFy e16) a0 zHO Try.sizeOf3 (by decide) rfl) <|
          zA9.cons (OblR.took 0 _ _ rfl rfl rfl rfl rfl fun A' R' w' ho hd u hok hav hin hop hds=>by have a0:R' 30=(vptr v0 (y5.toNat*4+2)):=hd 0 _ _ _ rfl rfl rfl rfl rfl;have a1:R' 28 = .int .i64 ((y4+(1:Int))+(1:Int)):=hd 1 _ _ _ rfl rfl rfl rfl rfl;obtain rfl:=hin _ rfl;exact zC8 (zDU.eq a1) hok hav a0 e16 rfl zEj Try.sizeOf3 rfl) <|
          zA9.nil
      intro done ρ σ A R w hdn hI
      replace h0:R 0=v0:=(hI.reg rfl).trans h0
      replace h1:R 1 = .int .i64 ((y4+(1:Int))+(1:Int)):=(hI.reg rfl).trans h1
      replace h5:R 5 = .int .i64 y5:=(hI.reg rfl).trans h5
      have z17:=hI.inivR 0 rfl
      have z18:=(hI.opnR hdn 6 5 rfl rfl rfl rfl rfl).trans z17
      replace hAA:=hI.lowK hAA hA0 hN (hO.geK (⟨.inr (fun k h=>.inr h),trivial⟩))
      replace hF:Ch (zAV v0) w0 w:=hF.tr hI.ch (hO.geK (⟨.inr (fun k h=>.inr h),trivial⟩))
      replace hO:IniOK [ob v0 (.vec B0 99 zA0 (((y6.set y5.toNat (y4,(gtD y6 y5).2.1,(gtD y6 y5).2.2.1,(gtD y6 y5).2.2.2)).set y5.toNat ((gtD (y6.set y5.toNat (y4,(gtD y6 y5).2.1,(gtD y6 y5).2.2.1,(gtD y6 y5).2.2.2)) y5).1,(y4+(1:Int)),(gtD (y6.set y5.toNat (y4,(gtD y6 y5).2.1,(gtD y6 y5).2.2.1,(gtD y6 y5).2.2.2)) y5).2.2.1,(gtD (y6.set y5.toNat (y4,(gtD y6 y5).2.1,(gtD y6 y5).2.2.1,(gtD y6 y5).2.2.2)) y5).2.2.2)).set y5.toNat ((gtD ((y6.set y5.toNat (y4,(gtD y6 y5).2.1,(gtD y6 y5).2.2.1,(gtD y6 y5).2.2.2)).set y5.toNat ((gtD (y6.set y5.toNat (y4,(gtD y6 y5).2.1,(gtD y6 y5).2.2.1,(gtD y6 y5).2.2.2)) y5).1,(y4+(1:Int)),(gtD (y6.set y5.toNat (y4,(gtD y6 y5).2.1,(gtD y6 y5).2.2.1,(gtD y6 y5).2.2.2)) y5).2.2.1,(gtD (y6.set y5.toNat (y4,(gtD y6 y5).2.1,(gtD y6 y5).2.2.1,(gtD y6 y5).2.2.2)) y5).2.2.2)) y5).1,(gtD ((y6.set y5.toNat (y4,(gtD y6 y5).2.1,(gtD y6 y5).2.2.1,(gtD y6 y5).2.2.2)).set y5.toNat ((gtD (y6.set y5.toNat (y4,(gtD y6 y5).2.1,(gtD y6 y5).2.2.1,(gtD y6 y5).2.2.2)) y5).1,(y4+(1:Int)),(gtD (y6.set y5.toNat (y4,(gtD y6 y5).2.1,(gtD y6 y5).2.2.1,(gtD y6 y5).2.2.2)) y5).2.2.1,(gtD (y6.set y5.toNat (y4,(gtD y6 y5).2.1,(gtD y6 y5).2.2.1,(gtD y6 y5).2.2.2)) y5).2.2.2)) y5).2.1,((y4+(1:Int))+(1:Int)),(gtD ((y6.set y5.toNat (y4,(gtD y6 y5).2.1,(gtD y6 y5).2.2.1,(gtD y6 y5).2.2.2)).set y5.toNat ((gtD (y6.set y5.toNat (y4,(gtD y6 y5).2.1,(gtD y6 y5).2.2.1,(gtD y6 y5).2.2.2)) y5).1,(y4+(1:Int)),(gtD (y6.set y5.toNat (y4,(gtD y6 y5).2.1,(gtD y6 y5).2.2.1,(gtD y6 y5).2.2.2)) y5).2.2.1,(gtD (y6.set y5.toNat (y4,(gtD y6 y5).2.1,(gtD y6 y5).2.2.1,(gtD y6 y5).2.2.2)) y5).2.2.2)) y5).2.2.2)))] A w:=hI.left hdn [(6,ob v0 (.vec B0 99 zA0 (((y6.set y5.toNat (y4,(gtD y6 y5).2.1,(gtD y6 y5).2.2.1,(gtD y6 y5).2.2.2)).set y5.toNat ((gtD (y6.set y5.toNat (y4,(gtD y6 y5).2.1,(gtD y6 y5).2.2.1,(gtD y6 y5).2.2.2)) y5).1,(y4+(1:Int)),(gtD (y6.set y5.toNat (y4,(gtD y6 y5).2.1,(gtD y6 y5).2.2.1,(gtD y6 y5).2.2.2)) y5).2.2.1,(gtD (y6.set y5.toNat (y4,(gtD y6 y5).2.1,(gtD y6 y5).2.2.1,(gtD y6 y5).2.2.2)) y5).2.2.2)).set y5.toNat ((gtD ((y6.set y5.toNat (y4,(gtD y6 y5).2.1,(gtD y6 y5).2.2.1,(gtD y6 y5).2.2.2)).set y5.toNat ((gtD (y6.set y5.toNat (y4,(gtD y6 y5).2.1,(gtD y6 y5).2.2.1,(gtD y6 y5).2.2.2)) y5).1,(y4+(1:Int)),(gtD (y6.set y5.toNat (y4,(gtD y6 y5).2.1,(gtD y6 y5).2.2.1,(gtD y6 y5).2.2.2)) y5).2.2.1,(gtD (y6.set y5.toNat (y4,(gtD y6 y5).2.1,(gtD y6 y5).2.2.1,(gtD y6 y5).2.2.2)) y5).2.2.2)) y5).1,(gtD ((y6.set y5.toNat (y4,(gtD y6 y5).2.1,(gtD y6 y5).2.2.1,(gtD y6 y5).2.2.2)).set y5.toNat ((gtD (y6.set y5.toNat (y4,(gtD y6 y5).2.1,(gtD y6 y5).2.2.1,(gtD y6 y5).2.2.2)) y5).1,(y4+(1:Int)),(gtD (y6.set y5.toNat (y4,(gtD y6 y5).2.1,(gtD y6 y5).2.2.1,(gtD y6 y5).2.2.2)) y5).2.2.1,(gtD (y6.set y5.toNat (y4,(gtD y6 y5).2.1,(gtD y6 y5).2.2.1,(gtD y6 y5).2.2.2)) y5).2.2.2)) y5).2.1,((y4+(1:Int))+(1:Int)),(gtD ((y6.set y5.toNat (y4,(gtD y6 y5).2.1,(gtD y6 y5).2.2.1,(gtD y6 y5).2.2.2)).set y5.toNat ((gtD (y6.set y5.toNat (y4,(gtD y6 y5).2.1,(gtD y6 y5).2.2.1,(gtD y6 y5).2.2.2)) y5).1,(y4+(1:Int)),(gtD (y6.set y5.toNat (y4,(gtD y6 y5).2.1,(gtD y6 y5).2.2.1,(gtD y6 y5).2.2.2)) y5).2.2.1,(gtD (y6.set y5.toNat (y4,(gtD y6 y5).2.1,(gtD y6 y5).2.2.1,(gtD y6 y5).2.2.2)) y5).2.2.2)) y5).2.2.2))))] ⟨rfl,rfl,z18,rfl,rfl,trivial⟩
      replace hA:=hI.avok
      clear hI
      refine HT.seq ?_
      obtain ⟨e19,hr⟩:=zAF hr
      refine HT.text (l:=⟨_,true,.raw (.int .i64 ((y4+(1:Int))+(1:Int)))⟩::⟨_,true,.raw (.int .i64 (((y4+(1:Int))+(1:Int))+(1:Int)))⟩::⟨_,true,.raw (.int .i64 (((y4+(1:Int))+(1:Int))+(1:Int)))⟩::[]) (tl:=[]) (by kernel_rfl) (by kernel_rfl) (by kernel_rfl) ?_ ?_
      · exact
          Obls.cons (Obl.plain rfl rfl fun R' w' hw hs hd=>by have a0:R' 1 = .int .i64 ((y4+(1:Int))+(1:Int)):=(hs 1 rfl).trans h1;exact zA5 a0) <|
          Obls.cons (Obl.plain rfl rfl fun R' w' hw hs hd=>by have a0:R' 31 = .int .i64 ((y4+(1:Int))+(1:Int)):=hd 0 _ _ _ rfl rfl rfl rfl rfl;exact zB8 a0 rfl e19) <|
          Obls.cons (Obl.plain rfl rfl fun R' w' hw hs hd=>by have a0:R' 32 = .int .i64 (((y4+(1:Int))+(1:Int))+(1:Int)):=hd 0 _ _ _ rfl rfl rfl rfl rfl;exact zA6 a0) <|
          Obls.nil
      intro R w hw hs hF'
      replace h0:R 0=v0:=(hs 0 rfl).trans h0
      replace h5:R 5 = .int .i64 y5:=(hs 5 rfl).trans h5
      have h1:R 1 = .int .i64 (((y4+(1:Int))+(1:Int))+(1:Int)):=hF' 2 _ _ rfl rfl rfl
      replace hO:=hO.fr hw
      replace hA:=hA.fr hw.size
      replace hF:=hF.tr (hw.ch noB) fun _ h=>False.elim h
      clear hs hF' hw
      refine zA4 ?_
      refine HT.seq ?_
      obtain ⟨e20,hr⟩:=zAF hr
      refine HT.textR [ob v0 (.vec B0 99 zA0 (((y6.set y5.toNat (y4,(gtD y6 y5).2.1,(gtD y6 y5).2.2.1,(gtD y6 y5).2.2.2)).set y5.toNat ((gtD (y6.set y5.toNat (y4,(gtD y6 y5).2.1,(gtD y6 y5).2.2.1,(gtD y6 y5).2.2.2)) y5).1,(y4+(1:Int)),(gtD (y6.set y5.toNat (y4,(gtD y6 y5).2.1,(gtD y6 y5).2.2.1,(gtD y6 y5).2.2.2)) y5).2.2.1,(gtD (y6.set y5.toNat (y4,(gtD y6 y5).2.1,(gtD y6 y5).2.2.1,(gtD y6 y5).2.2.2)) y5).2.2.2)).set y5.toNat ((gtD ((y6.set y5.toNat (y4,(gtD y6 y5).2.1,(gtD y6 y5).2.2.1,(gtD y6 y5).2.2.2)).set y5.toNat ((gtD (y6.set y5.toNat (y4,(gtD y6 y5).2.1,(gtD y6 y5).2.2.1,(gtD y6 y5).2.2.2)) y5).1,(y4+(1:Int)),(gtD (y6.set y5.toNat (y4,(gtD y6 y5).2.1,(gtD y6 y5).2.2.1,(gtD y6 y5).2.2.2)) y5).2.2.1,(gtD (y6.set y5.toNat (y4,(gtD y6 y5).2.1,(gtD y6 y5).2.2.1,(gtD y6 y5).2.2.2)) y5).2.2.2)) y5).1,(gtD ((y6.set y5.toNat (y4,(gtD y6 y5).2.1,(gtD y6 y5).2.2.1,(gtD y6 y5).2.2.2)).set y5.toNat ((gtD (y6.set y5.toNat (y4,(gtD y6 y5).2.1,(gtD y6 y5).2.2.1,(gtD y6 y5).2.2.2)) y5).1,(y4+(1:Int)),(gtD (y6.set y5.toNat (y4,(gtD y6 y5).2.1,(gtD y6 y5).2.2.1,(gtD y6 y5).2.2.2)) y5).2.2.1,(gtD (y6.set y5.toNat (y4,(gtD y6 y5).2.1,(gtD y6 y5).2.2.1,(gtD y6 y5).2.2.2)) y5).2.2.2)) y5).2.1,((y4+(1:Int))+(1:Int)),(gtD ((y6.set y5.toNat (y4,(gtD y6 y5).2.1,(gtD y6 y5).2.2.1,(gtD y6 y5).2.2.2)).set y5.toNat ((gtD (y6.set y5.toNat (y4,(gtD y6 y5).2.1,(gtD y6 y5).2.2.1,(gtD y6 y5).2.2.2)) y5).1,(y4+(1:Int)),(gtD (y6.set y5.toNat (y4,(gtD y6 y5).2.1,(gtD y6 y5).2.2.1,(gtD y6 y5).2.2.2)) y5).2.2.1,(gtD (y6.set y5.toNat (y4,(gtD y6 y5).2.1,(gtD y6 y5).2.2.1,(gtD y6 y5).2.2.2)) y5).2.2.2)) y5).2.2.2)))] (⟨_,true,[],none,true,fun A=>.raw v0⟩::⟨_,true,[],none,true,fun A=>.raw (.int .i64 y5)⟩::⟨_,true,[],none,true,fun A=>.raw (.int .i64 (((y4+(1:Int))+(1:Int))+(1:Int)))⟩::⟨_,true,[],none,true,fun A=>.raw (vptr v0 (y5.toNat*4))⟩::⟨_,true,[],none,true,fun A=>.raw (vptr v0 (y5.toNat*4+3))⟩::⟨_,true,[0],some (.vec B0 99 zA0 ((((y6.set y5.toNat (y4,(gtD y6 y5).2.1,(gtD y6 y5).2.2.1,(gtD y6 y5).2.2.2)).set y5.toNat ((gtD (y6.set y5.toNat (y4,(gtD y6 y5).2.1,(gtD y6 y5).2.2.1,(gtD y6 y5).2.2.2)) y5).1,(y4+(1:Int)),(gtD (y6.set y5.toNat (y4,(gtD y6 y5).2.1,(gtD y6 y5).2.2.1,(gtD y6 y5).2.2.2)) y5).2.2.1,(gtD (y6.set y5.toNat (y4,(gtD y6 y5).2.1,(gtD y6 y5).2.2.1,(gtD y6 y5).2.2.2)) y5).2.2.2)).set y5.toNat ((gtD ((y6.set y5.toNat (y4,(gtD y6 y5).2.1,(gtD y6 y5).2.2.1,(gtD y6 y5).2.2.2)).set y5.toNat ((gtD (y6.set y5.toNat (y4,(gtD y6 y5).2.1,(gtD y6 y5).2.2.1,(gtD y6 y5).2.2.2)) y5).1,(y4+(1:Int)),(gtD (y6.set y5.toNat (y4,(gtD y6 y5).2.1,(gtD y6 y5).2.2.1,(gtD y6 y5).2.2.2)) y5).2.2.1,(gtD (y6.set y5.toNat (y4,(gtD y6 y5).2.1,(gtD y6 y5).2.2.1,(gtD y6 y5).2.2.2)) y5).2.2.2)) y5).1,(gtD ((y6.set y5.toNat (y4,(gtD y6 y5).2.1,(gtD y6 y5).2.2.1,(gtD y6 y5).2.2.2)).set y5.toNat ((gtD (y6.set y5.toNat (y4,(gtD y6 y5).2.1,(gtD y6 y5).2.2.1,(gtD y6 y5).2.2.2)) y5).1,(y4+(1:Int)),(gtD (y6.set y5.toNat (y4,(gtD y6 y5).2.1,(gtD y6 y5).2.2.1,(gtD y6 y5).2.2.2)) y5).2.2.1,(gtD (y6.set y5.toNat (y4,(gtD y6 y5).2.1,(gtD y6 y5).2.2.1,(gtD y6 y5).2.2.2)) y5).2.2.2)) y5).2.1,((y4+(1:Int))+(1:Int)),(gtD ((y6.set y5.toNat (y4,(gtD y6 y5).2.1,(gtD y6 y5).2.2.1,(gtD y6 y5).2.2.2)).set y5.toNat ((gtD (y6.set y5.toNat (y4,(gtD y6 y5).2.1,(gtD y6 y5).2.2.1,(gtD y6 y5).2.2.2)) y5).1,(y4+(1:Int)),(gtD (y6.set y5.toNat (y4,(gtD y6 y5).2.1,(gtD y6 y5).2.2.1,(gtD y6 y5).2.2.2)) y5).2.2.1,(gtD (y6.set y5.toNat (y4,(gtD y6 y5).2.1,(gtD y6 y5).2.2.1,(gtD y6 y5).2.2.2)) y5).2.2.2)) y5).2.2.2)).set y5.toNat ((gtD (((y6.set y5.toNat (y4,(gtD y6 y5).2.1,(gtD y6 y5).2.2.1,(gtD y6 y5).2.2.2)).set y5.toNat ((gtD (y6.set y5.toNat (y4,(gtD y6 y5).2.1,(gtD y6 y5).2.2.1,(gtD y6 y5).2.2.2)) y5).1,(y4+(1:Int)),(gtD (y6.set y5.toNat (y4,(gtD y6 y5).2.1,(gtD y6 y5).2.2.1,(gtD y6 y5).2.2.2)) y5).2.2.1,(gtD (y6.set y5.toNat (y4,(gtD y6 y5).2.1,(gtD y6 y5).2.2.1,(gtD y6 y5).2.2.2)) y5).2.2.2)).set y5.toNat ((gtD ((y6.set y5.toNat (y4,(gtD y6 y5).2.1,(gtD y6 y5).2.2.1,(gtD y6 y5).2.2.2)).set y5.toNat ((gtD (y6.set y5.toNat (y4,(gtD y6 y5).2.1,(gtD y6 y5).2.2.1,(gtD y6 y5).2.2.2)) y5).1,(y4+(1:Int)),(gtD (y6.set y5.toNat (y4,(gtD y6 y5).2.1,(gtD y6 y5).2.2.1,(gtD y6 y5).2.2.2)) y5).2.2.1,(gtD (y6.set y5.toNat (y4,(gtD y6 y5).2.1,(gtD y6 y5).2.2.1,(gtD y6 y5).2.2.2)) y5).2.2.2)) y5).1,(gtD ((y6.set y5.toNat (y4,(gtD y6 y5).2.1,(gtD y6 y5).2.2.1,(gtD y6 y5).2.2.2)).set y5.toNat ((gtD (y6.set y5.toNat (y4,(gtD y6 y5).2.1,(gtD y6 y5).2.2.1,(gtD y6 y5).2.2.2)) y5).1,(y4+(1:Int)),(gtD (y6.set y5.toNat (y4,(gtD y6 y5).2.1,(gtD y6 y5).2.2.1,(gtD y6 y5).2.2.2)) y5).2.2.1,(gtD (y6.set y5.toNat (y4,(gtD y6 y5).2.1,(gtD y6 y5).2.2.1,(gtD y6 y5).2.2.2)) y5).2.2.2)) y5).2.1,((y4+(1:Int))+(1:Int)),(gtD ((y6.set y5.toNat (y4,(gtD y6 y5).2.1,(gtD y6 y5).2.2.1,(gtD y6 y5).2.2.2)).set y5.toNat ((gtD (y6.set y5.toNat (y4,(gtD y6 y5).2.1,(gtD y6 y5).2.2.1,(gtD y6 y5).2.2.2)) y5).1,(y4+(1:Int)),(gtD (y6.set y5.toNat (y4,(gtD y6 y5).2.1,(gtD y6 y5).2.2.1,(gtD y6 y5).2.2.2)) y5).2.2.1,(gtD (y6.set y5.toNat (y4,(gtD y6 y5).2.1,(gtD y6 y5).2.2.1,(gtD y6 y5).2.2.2)) y5).2.2.2)) y5).2.2.2)) y5).1,(gtD (((y6.set y5.toNat (y4,(gtD y6 y5).2.1,(gtD y6 y5).2.2.1,(gtD y6 y5).2.2.2)).set y5.toNat ((gtD (y6.set y5.toNat (y4,(gtD y6 y5).2.1,(gtD y6 y5).2.2.1,(gtD y6 y5).2.2.2)) y5).1,(y4+(1:Int)),(gtD (y6.set y5.toNat (y4,(gtD y6 y5).2.1,(gtD y6 y5).2.2.1,(gtD y6 y5).2.2.2)) y5).2.2.1,(gtD (y6.set y5.toNat (y4,(gtD y6 y5).2.1,(gtD y6 y5).2.2.1,(gtD y6 y5).2.2.2)) y5).2.2.2)).set y5.toNat ((gtD ((y6.set y5.toNat (y4,(gtD y6 y5).2.1,(gtD y6 y5).2.2.1,(gtD y6 y5).2.2.2)).set y5.toNat ((gtD (y6.set y5.toNat (y4,(gtD y6 y5).2.1,(gtD y6 y5).2.2.1,(gtD y6 y5).2.2.2)) y5).1,(y4+(1:Int)),(gtD (y6.set y5.toNat (y4,(gtD y6 y5).2.1,(gtD y6 y5).2.2.1,(gtD y6 y5).2.2.2)) y5).2.2.1,(gtD (y6.set y5.toNat (y4,(gtD y6 y5).2.1,(gtD y6 y5).2.2.1,(gtD y6 y5).2.2.2)) y5).2.2.2)) y5).1,(gtD ((y6.set y5.toNat (y4,(gtD y6 y5).2.1,(gtD y6 y5).2.2.1,(gtD y6 y5).2.2.2)).set y5.toNat ((gtD (y6.set y5.toNat (y4,(gtD y6 y5).2.1,(gtD y6 y5).2.2.1,(gtD y6 y5).2.2.2)) y5).1,(y4+(1:Int)),(gtD (y6.set y5.toNat (y4,(gtD y6 y5).2.1,(gtD y6 y5).2.2.1,(gtD y6 y5).2.2.2)) y5).2.2.1,(gtD (y6.set y5.toNat (y4,(gtD y6 y5).2.1,(gtD y6 y5).2.2.1,(gtD y6 y5).2.2.2)) y5).2.2.2)) y5).2.1,((y4+(1:Int))+(1:Int)),(gtD ((y6.set y5.toNat (y4,(gtD y6 y5).2.1,(gtD y6 y5).2.2.1,(gtD y6 y5).2.2.2)).set y5.toNat ((gtD (y6.set y5.toNat (y4,(gtD y6 y5).2.1,(gtD y6 y5).2.2.1,(gtD y6 y5).2.2.2)) y5).1,(y4+(1:Int)),(gtD (y6.set y5.toNat (y4,(gtD y6 y5).2.1,(gtD y6 y5).2.2.1,(gtD y6 y5).2.2.2)) y5).2.2.1,(gtD (y6.set y5.toNat (y4,(gtD y6 y5).2.1,(gtD y6 y5).2.2.1,(gtD y6 y5).2.2.2)) y5).2.2.2)) y5).2.2.2)) y5).2.1,(gtD (((y6.set y5.toNat (y4,(gtD y6 y5).2.1,(gtD y6 y5).2.2.1,(gtD y6 y5).2.2.2)).set y5.toNat ((gtD (y6.set y5.toNat (y4,(gtD y6 y5).2.1,(gtD y6 y5).2.2.1,(gtD y6 y5).2.2.2)) y5).1,(y4+(1:Int)),(gtD (y6.set y5.toNat (y4,(gtD y6 y5).2.1,(gtD y6 y5).2.2.1,(gtD y6 y5).2.2.2)) y5).2.2.1,(gtD (y6.set y5.toNat (y4,(gtD y6 y5).2.1,(gtD y6 y5).2.2.1,(gtD y6 y5).2.2.2)) y5).2.2.2)).set y5.toNat ((gtD ((y6.set y5.toNat (y4,(gtD y6 y5).2.1,(gtD y6 y5).2.2.1,(gtD y6 y5).2.2.2)).set y5.toNat ((gtD (y6.set y5.toNat (y4,(gtD y6 y5).2.1,(gtD y6 y5).2.2.1,(gtD y6 y5).2.2.2)) y5).1,(y4+(1:Int)),(gtD (y6.set y5.toNat (y4,(gtD y6 y5).2.1,(gtD y6 y5).2.2.1,(gtD y6 y5).2.2.2)) y5).2.2.1,(gtD (y6.set y5.toNat (y4,(gtD y6 y5).2.1,(gtD y6 y5).2.2.1,(gtD y6 y5).2.2.2)) y5).2.2.2)) y5).1,(gtD ((y6.set y5.toNat (y4,(gtD y6 y5).2.1,(gtD y6 y5).2.2.1,(gtD y6 y5).2.2.2)).set y5.toNat ((gtD (y6.set y5.toNat (y4,(gtD y6 y5).2.1,(gtD y6 y5).2.2.1,(gtD y6 y5).2.2.2)) y5).1,(y4+(1:Int)),(gtD (y6.set y5.toNat (y4,(gtD y6 y5).2.1,(gtD y6 y5).2.2.1,(gtD y6 y5).2.2.2)) y5).2.2.1,(gtD (y6.set y5.toNat (y4,(gtD y6 y5).2.1,(gtD y6 y5).2.2.1,(gtD y6 y5).2.2.2)) y5).2.2.2)) y5).2.1,((y4+(1:Int))+(1:Int)),(gtD ((y6.set y5.toNat (y4,(gtD y6 y5).2.1,(gtD y6 y5).2.2.1,(gtD y6 y5).2.2.2)).set y5.toNat ((gtD (y6.set y5.toNat (y4,(gtD y6 y5).2.1,(gtD y6 y5).2.2.1,(gtD y6 y5).2.2.2)) y5).1,(y4+(1:Int)),(gtD (y6.set y5.toNat (y4,(gtD y6 y5).2.1,(gtD y6 y5).2.2.1,(gtD y6 y5).2.2.2)) y5).2.2.1,(gtD (y6.set y5.toNat (y4,(gtD y6 y5).2.1,(gtD y6 y5).2.2.1,(gtD y6 y5).2.2.2)) y5).2.2.2)) y5).2.2.2)) y5).2.2.1,(((y4+(1:Int))+(1:Int))+(1:Int))))),false,fun A=>.any⟩::[]) (by kernel_rfl) (by kernel_rfl) (Wf.mk' (by kernel_rfl) (UAll.cons zAA (UAll.cons zAA (UAll.cons zAA (UAll.cons zAA (UAll.cons zAA (UAll.cons zAG (UAll.nil))))))) (by kernel_rfl) (by kernel_rfl)) hO hA ?_ ?_
      · exact
          zA9.cons (OblR.plain rfl rfl rfl rfl fun A' R' w' ho hd=>by have a0:R' 0=v0:=(ho.old 0 rfl).trans h0;exact zA5 a0) <|
          zA9.cons (OblR.plain rfl rfl rfl rfl fun A' R' w' ho hd=>by have a0:R' 5 = .int .i64 y5:=(ho.old 5 rfl).trans h5;exact zA5 a0) <|
          zA9.cons (OblR.plain rfl rfl rfl rfl fun A' R' w' ho hd=>by have a0:R' 1 = .int .i64 (((y4+(1:Int))+(1:Int))+(1:Int)):=(ho.old 1 rfl).trans h1;exact zA5 a0) <|
          zA9.cons (OblR.plain rfl rfl rfl rfl fun A' R' w' ho hd=>by have a0:R' 33=v0:=hd 0 _ _ _ rfl rfl rfl rfl rfl;have a1:R' 34 = .int .i64 y5:=hd 1 _ _ _ rfl rfl rfl rfl rfl;exact zAr (hO.ok 0 _ rfl).1 a0 a1 Try.underlying39 Try.sizeOf99 e20 rfl) <|
          zA9.cons (OblR.plain rfl rfl rfl rfl fun A' R' w' ho hd=>by have a0:R' 36=(vptr v0 (y5.toNat*4)):=hd 0 _ _ _ rfl rfl rfl rfl rfl;exact zBZ (ho.rd 0 _ rfl rfl) (zFy e20) a0 zHB Try.sizeOf3 (by decide) rfl) <|
          zA9.cons (OblR.took 0 _ _ rfl rfl rfl rfl rfl fun A' R' w' ho hd u hok hav hin hop hds=>by have a0:R' 37=(vptr v0 (y5.toNat*4+3)):=hd 0 _ _ _ rfl rfl rfl rfl rfl;have a1:R' 35 = .int .i64 (((y4+(1:Int))+(1:Int))+(1:Int)):=hd 1 _ _ _ rfl rfl rfl rfl rfl;obtain rfl:=hin _ rfl;exact zC8 (zDU.eq a1) hok hav a0 e20 rfl zEh Try.sizeOf3 rfl) <|
          zA9.nil
      intro done ρ σ A R w hdn hI
      replace h0:R 0=v0:=(hI.reg rfl).trans h0
      replace h1:R 1 = .int .i64 (((y4+(1:Int))+(1:Int))+(1:Int)):=(hI.reg rfl).trans h1
      replace h5:R 5 = .int .i64 y5:=(hI.reg rfl).trans h5
      have z21:=hI.inivR 0 rfl
      have z22:=(hI.opnR hdn 6 5 rfl rfl rfl rfl rfl).trans z21
      replace hAA:=hI.lowK hAA hA0 hN (hO.geK (⟨.inr (fun k h=>.inr h),trivial⟩))
      replace hF:Ch (zAV v0) w0 w:=hF.tr hI.ch (hO.geK (⟨.inr (fun k h=>.inr h),trivial⟩))
      replace hO:IniOK [ob v0 (.vec B0 99 zA0 ((((y6.set y5.toNat (y4,(gtD y6 y5).2.1,(gtD y6 y5).2.2.1,(gtD y6 y5).2.2.2)).set y5.toNat ((gtD (y6.set y5.toNat (y4,(gtD y6 y5).2.1,(gtD y6 y5).2.2.1,(gtD y6 y5).2.2.2)) y5).1,(y4+(1:Int)),(gtD (y6.set y5.toNat (y4,(gtD y6 y5).2.1,(gtD y6 y5).2.2.1,(gtD y6 y5).2.2.2)) y5).2.2.1,(gtD (y6.set y5.toNat (y4,(gtD y6 y5).2.1,(gtD y6 y5).2.2.1,(gtD y6 y5).2.2.2)) y5).2.2.2)).set y5.toNat ((gtD ((y6.set y5.toNat (y4,(gtD y6 y5).2.1,(gtD y6 y5).2.2.1,(gtD y6 y5).2.2.2)).set y5.toNat ((gtD (y6.set y5.toNat (y4,(gtD y6 y5).2.1,(gtD y6 y5).2.2.1,(gtD y6 y5).2.2.2)) y5).1,(y4+(1:Int)),(gtD (y6.set y5.toNat (y4,(gtD y6 y5).2.1,(gtD y6 y5).2.2.1,(gtD y6 y5).2.2.2)) y5).2.2.1,(gtD (y6.set y5.toNat (y4,(gtD y6 y5).2.1,(gtD y6 y5).2.2.1,(gtD y6 y5).2.2.2)) y5).2.2.2)) y5).1,(gtD ((y6.set y5.toNat (y4,(gtD y6 y5).2.1,(gtD y6 y5).2.2.1,(gtD y6 y5).2.2.2)).set y5.toNat ((gtD (y6.set y5.toNat (y4,(gtD y6 y5).2.1,(gtD y6 y5).2.2.1,(gtD y6 y5).2.2.2)) y5).1,(y4+(1:Int)),(gtD (y6.set y5.toNat (y4,(gtD y6 y5).2.1,(gtD y6 y5).2.2.1,(gtD y6 y5).2.2.2)) y5).2.2.1,(gtD (y6.set y5.toNat (y4,(gtD y6 y5).2.1,(gtD y6 y5).2.2.1,(gtD y6 y5).2.2.2)) y5).2.2.2)) y5).2.1,((y4+(1:Int))+(1:Int)),(gtD ((y6.set y5.toNat (y4,(gtD y6 y5).2.1,(gtD y6 y5).2.2.1,(gtD y6 y5).2.2.2)).set y5.toNat ((gtD (y6.set y5.toNat (y4,(gtD y6 y5).2.1,(gtD y6 y5).2.2.1,(gtD y6 y5).2.2.2)) y5).1,(y4+(1:Int)),(gtD (y6.set y5.toNat (y4,(gtD y6 y5).2.1,(gtD y6 y5).2.2.1,(gtD y6 y5).2.2.2)) y5).2.2.1,(gtD (y6.set y5.toNat (y4,(gtD y6 y5).2.1,(gtD y6 y5).2.2.1,(gtD y6 y5).2.2.2)) y5).2.2.2)) y5).2.2.2)).set y5.toNat ((gtD (((y6.set y5.toNat (y4,(gtD y6 y5).2.1,(gtD y6 y5).2.2.1,(gtD y6 y5).2.2.2)).set y5.toNat ((gtD (y6.set y5.toNat (y4,(gtD y6 y5).2.1,(gtD y6 y5).2.2.1,(gtD y6 y5).2.2.2)) y5).1,(y4+(1:Int)),(gtD (y6.set y5.toNat (y4,(gtD y6 y5).2.1,(gtD y6 y5).2.2.1,(gtD y6 y5).2.2.2)) y5).2.2.1,(gtD (y6.set y5.toNat (y4,(gtD y6 y5).2.1,(gtD y6 y5).2.2.1,(gtD y6 y5).2.2.2)) y5).2.2.2)).set y5.toNat ((gtD ((y6.set y5.toNat (y4,(gtD y6 y5).2.1,(gtD y6 y5).2.2.1,(gtD y6 y5).2.2.2)).set y5.toNat ((gtD (y6.set y5.toNat (y4,(gtD y6 y5).2.1,(gtD y6 y5).2.2.1,(gtD y6 y5).2.2.2)) y5).1,(y4+(1:Int)),(gtD (y6.set y5.toNat (y4,(gtD y6 y5).2.1,(gtD y6 y5).2.2.1,(gtD y6 y5).2.2.2)) y5).2.2.1,(gtD (y6.set y5.toNat (y4,(gtD y6 y5).2.1,(gtD y6 y5).2.2.1,(gtD y6 y5).2.2.2)) y5).2.2.2)) y5).1,(gtD ((y6.set y5.toNat (y4,(gtD y6 y5).2.1,(gtD y6 y5).2.2.1,(gtD y6 y5).2.2.2)).set y5.toNat ((gtD (y6.set y5.toNat (y4,(gtD y6 y5).2.1,(gtD y6 y5).2.2.1,(gtD y6 y5).2.2.2)) y5).1,(y4+(1:Int)),(gtD (y6.set y5.toNat (y4,(gtD y6 y5).2.1,(gtD y6 y5).2.2.1,(gtD y6 y5).2.2.2)) y5).2.2.1,(gtD (y6.set y5.toNat (y4,(gtD y6 y5).2.1,(gtD y6 y5).2.2.1,(gtD y6 y5).2.2.2)) y5).2.2.2)) y5).2.1,((y4+(1:Int))+(1:Int)),(gtD ((y6.set y5.toNat (y4,(gtD y6 y5).2.1,(gtD y6 y5).2.2.1,(gtD y6 y5).2.2.2)).set y5.toNat ((gtD (y6.set y5.toNat (y4,(gtD y6 y5).2.1,(gtD y6 y5).2.2.1,(gtD y6 y5).2.2.2)) y5).1,(y4+(1:Int)),(gtD (y6.set y5.toNat (y4,(gtD y6 y5).2.1,(gtD y6 y5).2.2.1,(gtD y6 y5).2.2.2)) y5).2.2.1,(gtD (y6.set y5.toNat (y4,(gtD y6 y5).2.1,(gtD y6 y5).2.2.1,(gtD y6 y5).2.2.2)) y5).2.2.2)) y5).2.2.2)) y5).1,(gtD (((y6.set y5.toNat (y4,(gtD y6 y5).2.1,(gtD y6 y5).2.2.1,(gtD y6 y5).2.2.2)).set y5.toNat ((gtD (y6.set y5.toNat (y4,(gtD y6 y5).2.1,(gtD y6 y5).2.2.1,(gtD y6 y5).2.2.2)) y5).1,(y4+(1:Int)),(gtD (y6.set y5.toNat (y4,(gtD y6 y5).2.1,(gtD y6 y5).2.2.1,(gtD y6 y5).2.2.2)) y5).2.2.1,(gtD (y6.set y5.toNat (y4,(gtD y6 y5).2.1,(gtD y6 y5).2.2.1,(gtD y6 y5).2.2.2)) y5).2.2.2)).set y5.toNat ((gtD ((y6.set y5.toNat (y4,(gtD y6 y5).2.1,(gtD y6 y5).2.2.1,(gtD y6 y5).2.2.2)).set y5.toNat ((gtD (y6.set y5.toNat (y4,(gtD y6 y5).2.1,(gtD y6 y5).2.2.1,(gtD y6 y5).2.2.2)) y5).1,(y4+(1:Int)),(gtD (y6.set y5.toNat (y4,(gtD y6 y5).2.1,(gtD y6 y5).2.2.1,(gtD y6 y5).2.2.2)) y5).2.2.1,(gtD (y6.set y5.toNat (y4,(gtD y6 y5).2.1,(gtD y6 y5).2.2.1,(gtD y6 y5).2.2.2)) y5).2.2.2)) y5).1,(gtD ((y6.set y5.toNat (y4,(gtD y6 y5).2.1,(gtD y6 y5).2.2.1,(gtD y6 y5).2.2.2)).set y5.toNat ((gtD (y6.set y5.toNat (y4,(gtD y6 y5).2.1,(gtD y6 y5).2.2.1,(gtD y6 y5).2.2.2)) y5).1,(y4+(1:Int)),(gtD (y6.set y5.toNat (y4,(gtD y6 y5).2.1,(gtD y6 y5).2.2.1,(gtD y6 y5).2.2.2)) y5).2.2.1,(gtD (y6.set y5.toNat (y4,(gtD y6 y5).2.1,(gtD y6 y5).2.2.1,(gtD y6 y5).2.2.2)) y5).2.2.2)) y5).2.1,((y4+(1:Int))+(1:Int)),(gtD ((y6.set y5.toNat (y4,(gtD y6 y5).2.1,(gtD y6 y5).2.2.1,(gtD y6 y5).2.2.2)).set y5.toNat ((gtD (y6.set y5.toNat (y4,(gtD y6 y5).2.1,(gtD y6 y5).2.2.1,(gtD y6 y5).2.2.2)) y5).1,(y4+(1:Int)),(gtD (y6.set y5.toNat (y4,(gtD y6 y5).2.1,(gtD y6 y5).2.2.1,(gtD y6 y5).2.2.2)) y5).2.2.1,(gtD (y6.set y5.toNat (y4,(gtD y6 y5).2.1,(gtD y6 y5).2.2.1,(gtD y6 y5).2.2.2)) y5).2.2.2)) y5).2.2.2)) y5).2.1,(gtD (((y6.set y5.toNat (y4,(gtD y6 y5).2.1,(gtD y6 y5).2.2.1,(gtD y6 y5).2.2.2)).set y5.toNat ((gtD (y6.set y5.toNat (y4,(gtD y6 y5).2.1,(gtD y6 y5).2.2.1,(gtD y6 y5).2.2.2)) y5).1,(y4+(1:Int)),(gtD (y6.set y5.toNat (y4,(gtD y6 y5).2.1,(gtD y6 y5).2.2.1,(gtD y6 y5).2.2.2)) y5).2.2.1,(gtD (y6.set y5.toNat (y4,(gtD y6 y5).2.1,(gtD y6 y5).2.2.1,(gtD y6 y5).2.2.2)) y5).2.2.2)).set y5.toNat ((gtD ((y6.set y5.toNat (y4,(gtD y6 y5).2.1,(gtD y6 y5).2.2.1,(gtD y6 y5).2.2.2)).set y5.toNat ((gtD (y6.set y5.toNat (y4,(gtD y6 y5).2.1,(gtD y6 y5).2.2.1,(gtD y6 y5).2.2.2)) y5).1,(y4+(1:Int)),(gtD (y6.set y5.toNat (y4,(gtD y6 y5).2.1,(gtD y6 y5).2.2.1,(gtD y6 y5).2.2.2)) y5).2.2.1,(gtD (y6.set y5.toNat (y4,(gtD y6 y5).2.1,(gtD y6 y5).2.2.1,(gtD y6 y5).2.2.2)) y5).2.2.2)) y5).1,(gtD ((y6.set y5.toNat (y4,(gtD y6 y5).2.1,(gtD y6 y5).2.2.1,(gtD y6 y5).2.2.2)).set y5.toNat ((gtD (y6.set y5.toNat (y4,(gtD y6 y5).2.1,(gtD y6 y5).2.2.1,(gtD y6 y5).2.2.2)) y5).1,(y4+(1:Int)),(gtD (y6.set y5.toNat (y4,(gtD y6 y5).2.1,(gtD y6 y5).2.2.1,(gtD y6 y5).2.2.2)) y5).2.2.1,(gtD (y6.set y5.toNat (y4,(gtD y6 y5).2.1,(gtD y6 y5).2.2.1,(gtD y6 y5).2.2.2)) y5).2.2.2)) y5).2.1,((y4+(1:Int))+(1:Int)),(gtD ((y6.set y5.toNat (y4,(gtD y6 y5).2.1,(gtD y6 y5).2.2.1,(gtD y6 y5).2.2.2)).set y5.toNat ((gtD (y6.set y5.toNat (y4,(gtD y6 y5).2.1,(gtD y6 y5).2.2.1,(gtD y6 y5).2.2.2)) y5).1,(y4+(1:Int)),(gtD (y6.set y5.toNat (y4,(gtD y6 y5).2.1,(gtD y6 y5).2.2.1,(gtD y6 y5).2.2.2)) y5).2.2.1,(gtD (y6.set y5.toNat (y4,(gtD y6 y5).2.1,(gtD y6 y5).2.2.1,(gtD y6 y5).2.2.2)) y5).2.2.2)) y5).2.2.2)) y5).2.2.1,(((y4+(1:Int))+(1:Int))+(1:Int)))))] A w:=hI.left hdn [(6,ob v0 (.vec B0 99 zA0 ((((y6.set y5.toNat (y4,(gtD y6 y5).2.1,(gtD y6 y5).2.2.1,(gtD y6 y5).2.2.2)).set y5.toNat ((gtD (y6.set y5.toNat (y4,(gtD y6 y5).2.1,(gtD y6 y5).2.2.1,(gtD y6 y5).2.2.2)) y5).1,(y4+(1:Int)),(gtD (y6.set y5.toNat (y4,(gtD y6 y5).2.1,(gtD y6 y5).2.2.1,(gtD y6 y5).2.2.2)) y5).2.2.1,(gtD (y6.set y5.toNat (y4,(gtD y6 y5).2.1,(gtD y6 y5).2.2.1,(gtD y6 y5).2.2.2)) y5).2.2.2)).set y5.toNat ((gtD ((y6.set y5.toNat (y4,(gtD y6 y5).2.1,(gtD y6 y5).2.2.1,(gtD y6 y5).2.2.2)).set y5.toNat ((gtD (y6.set y5.toNat (y4,(gtD y6 y5).2.1,(gtD y6 y5).2.2.1,(gtD y6 y5).2.2.2)) y5).1,(y4+(1:Int)),(gtD (y6.set y5.toNat (y4,(gtD y6 y5).2.1,(gtD y6 y5).2.2.1,(gtD y6 y5).2.2.2)) y5).2.2.1,(gtD (y6.set y5.toNat (y4,(gtD y6 y5).2.1,(gtD y6 y5).2.2.1,(gtD y6 y5).2.2.2)) y5).2.2.2)) y5).1,(gtD ((y6.set y5.toNat (y4,(gtD y6 y5).2.1,(gtD y6 y5).2.2.1,(gtD y6 y5).2.2.2)).set y5.toNat ((gtD (y6.set y5.toNat (y4,(gtD y6 y5).2.1,(gtD y6 y5).2.2.1,(gtD y6 y5).2.2.2)) y5).1,(y4+(1:Int)),(gtD (y6.set y5.toNat (y4,(gtD y6 y5).2.1,(gtD y6 y5).2.2.1,(gtD y6 y5).2.2.2)) y5).2.2.1,(gtD (y6.set y5.toNat (y4,(gtD y6 y5).2.1,(gtD y6 y5).2.2.1,(gtD y6 y5).2.2.2)) y5).2.2.2)) y5).2.1,((y4+(1:Int))+(1:Int)),(gtD ((y6.set y5.toNat (y4,(gtD y6 y5).2.1,(gtD y6 y5).2.2.1,(gtD y6 y5).2.2.2)).set y5.toNat ((gtD (y6.set y5.toNat (y4,(gtD y6 y5).2.1,(gtD y6 y5).2.2.1,(gtD y6 y5).2.2.2)) y5).1,(y4+(1:Int)),(gtD (y6.set y5.toNat (y4,(gtD y6 y5).2.1,(gtD y6 y5).2.2.1,(gtD y6 y5).2.2.2)) y5).2.2.1,(gtD (y6.set y5.toNat (y4,(gtD y6 y5).2.1,(gtD y6 y5).2.2.1,(gtD y6 y5).2.2.2)) y5).2.2.2)) y5).2.2.2)).set y5.toNat ((gtD (((y6.set y5.toNat (y4,(gtD y6 y5).2.1,(gtD y6 y5).2.2.1,(gtD y6 y5).2.2.2)).set y5.toNat ((gtD (y6.set y5.toNat (y4,(gtD y6 y5).2.1,(gtD y6 y5).2.2.1,(gtD y6 y5).2.2.2)) y5).1,(y4+(1:Int)),(gtD (y6.set y5.toNat (y4,(gtD y6 y5).2.1,(gtD y6 y5).2.2.1,(gtD y6 y5).2.2.2)) y5).2.2.1,(gtD (y6.set y5.toNat (y4,(gtD y6 y5).2.1,(gtD y6 y5).2.2.1,(gtD y6 y5).2.2.2)) y5).2.2.2)).set y5.toNat ((gtD ((y6.set y5.toNat (y4,(gtD y6 y5).2.1,(gtD y6 y5).2.2.1,(gtD y6 y5).2.2.2)).set y5.toNat ((gtD (y6.set y5.toNat (y4,(gtD y6 y5).2.1,(gtD y6 y5).2.2.1,(gtD y6 y5).2.2.2)) y5).1,(y4+(1:Int)),(gtD (y6.set y5.toNat (y4,(gtD y6 y5).2.1,(gtD y6 y5).2.2.1,(gtD y6 y5).2.2.2)) y5).2.2.1,(gtD (y6.set y5.toNat (y4,(gtD y6 y5).2.1,(gtD y6 y5).2.2.1,(gtD y6 y5).2.2.2)) y5).2.2.2)) y5).1,(gtD ((y6.set y5.toNat (y4,(gtD y6 y5).2.1,(gtD y6 y5).2.2.1,(gtD y6 y5).2.2.2)).set y5.toNat ((gtD (y6.set y5.toNat (y4,(gtD y6 y5).2.1,(gtD y6 y5).2.2.1,(gtD y6 y5).2.2.2)) y5).1,(y4+(1:Int)),(gtD (y6.set y5.toNat (y4,(gtD y6 y5).2.1,(gtD y6 y5).2.2.1,(gtD y6 y5).2.2.2)) y5).2.2.1,(gtD (y6.set y5.toNat (y4,(gtD y6 y5).2.1,(gtD y6 y5).2.2.1,(gtD y6 y5).2.2.2)) y5).2.2.2)) y5).2.1,((y4+(1:Int))+(1:Int)),(gtD ((y6.set y5.toNat (y4,(gtD y6 y5).2.1,(gtD y6 y5).2.2.1,(gtD y6 y5).2.2.2)).set y5.toNat ((gtD (y6.set y5.toNat (y4,(gtD y6 y5).2.1,(gtD y6 y5).2.2.1,(gtD y6 y5).2.2.2)) y5).1,(y4+(1:Int)),(gtD (y6.set y5.toNat (y4,(gtD y6 y5).2.1,(gtD y6 y5).2.2.1,(gtD y6 y5).2.2.2)) y5).2.2.1,(gtD (y6.set y5.toNat (y4,(gtD y6 y5).2.1,(gtD y6 y5).2.2.1,(gtD y6 y5).2.2.2)) y5).2.2.2)) y5).2.2.2)) y5).1,(gtD (((y6.set y5.toNat (y4,(gtD y6 y5).2.1,(gtD y6 y5).2.2.1,(gtD y6 y5).2.2.2)).set y5.toNat ((gtD (y6.set y5.toNat (y4,(gtD y6 y5).2.1,(gtD y6 y5).2.2.1,(gtD y6 y5).2.2.2)) y5).1,(y4+(1:Int)),(gtD (y6.set y5.toNat (y4,(gtD y6 y5).2.1,(gtD y6 y5).2.2.1,(gtD y6 y5).2.2.2)) y5).2.2.1,(gtD (y6.set y5.toNat (y4,(gtD y6 y5).2.1,(gtD y6 y5).2.2.1,(gtD y6 y5).2.2.2)) y5).2.2.2)).set y5.toNat ((gtD ((y6.set y5.toNat (y4,(gtD y6 y5).2.1,(gtD y6 y5).2.2.1,(gtD y6 y5).2.2.2)).set y5.toNat ((gtD (y6.set y5.toNat (y4,(gtD y6 y5).2.1,(gtD y6 y5).2.2.1,(gtD y6 y5).2.2.2)) y5).1,(y4+(1:Int)),(gtD (y6.set y5.toNat (y4,(gtD y6 y5).2.1,(gtD y6 y5).2.2.1,(gtD y6 y5).2.2.2)) y5).2.2.1,(gtD (y6.set y5.toNat (y4,(gtD y6 y5).2.1,(gtD y6 y5).2.2.1,(gtD y6 y5).2.2.2)) y5).2.2.2)) y5).1,(gtD ((y6.set y5.toNat (y4,(gtD y6 y5).2.1,(gtD y6 y5).2.2.1,(gtD y6 y5).2.2.2)).set y5.toNat ((gtD (y6.set y5.toNat (y4,(gtD y6 y5).2.1,(gtD y6 y5).2.2.1,(gtD y6 y5).2.2.2)) y5).1,(y4+(1:Int)),(gtD (y6.set y5.toNat (y4,(gtD y6 y5).2.1,(gtD y6 y5).2.2.1,(gtD y6 y5).2.2.2)) y5).2.2.1,(gtD (y6.set y5.toNat (y4,(gtD y6 y5).2.1,(gtD y6 y5).2.2.1,(gtD y6 y5).2.2.2)) y5).2.2.2)) y5).2.1,((y4+(1:Int))+(1:Int)),(gtD ((y6.set y5.toNat (y4,(gtD y6 y5).2.1,(gtD y6 y5).2.2.1,(gtD y6 y5).2.2.2)).set y5.toNat ((gtD (y6.set y5.toNat (y4,(gtD y6 y5).2.1,(gtD y6 y5).2.2.1,(gtD y6 y5).2.2.2)) y5).1,(y4+(1:Int)),(gtD (y6.set y5.toNat (y4,(gtD y6 y5).2.1,(gtD y6 y5).2.2.1,(gtD y6 y5).2.2.2)) y5).2.2.1,(gtD (y6.set y5.toNat (y4,(gtD y6 y5).2.1,(gtD y6 y5).2.2.1,(gtD y6 y5).2.2.2)) y5).2.2.2)) y5).2.2.2)) y5).2.1,(gtD (((y6.set y5.toNat (y4,(gtD y6 y5).2.1,(gtD y6 y5).2.2.1,(gtD y6 y5).2.2.2)).set y5.toNat ((gtD (y6.set y5.toNat (y4,(gtD y6 y5).2.1,(gtD y6 y5).2.2.1,(gtD y6 y5).2.2.2)) y5).1,(y4+(1:Int)),(gtD (y6.set y5.toNat (y4,(gtD y6 y5).2.1,(gtD y6 y5).2.2.1,(gtD y6 y5).2.2.2)) y5).2.2.1,(gtD (y6.set y5.toNat (y4,(gtD y6 y5).2.1,(gtD y6 y5).2.2.1,(gtD y6 y5).2.2.2)) y5).2.2.2)).set y5.toNat ((gtD ((y6.set y5.toNat (y4,(gtD y6 y5).2.1,(gtD y6 y5).2.2.1,(gtD y6 y5).2.2.2)).set y5.toNat ((gtD (y6.set y5.toNat (y4,(gtD y6 y5).2.1,(gtD y6 y5).2.2.1,(gtD y6 y5).2.2.2)) y5).1,(y4+(1:Int)),(gtD (y6.set y5.toNat (y4,(gtD y6 y5).2.1,(gtD y6 y5).2.2.1,(gtD y6 y5).2.2.2)) y5).2.2.1,(gtD (y6.set y5.toNat (y4,(gtD y6 y5).2.1,(gtD y6 y5).2.2.1,(gtD y6 y5).2.2.2)) y5).2.2.2)) y5).1,(gtD ((y6.set y5.toNat (y4,(gtD y6 y5).2.1,(gtD y6 y5).2.2.1,(gtD y6 y5).2.2.2)).set y5.toNat ((gtD (y6.set y5.toNat (y4,(gtD y6 y5).2.1,(gtD y6 y5).2.2.1,(gtD y6 y5).2.2.2)) y5).1,(y4+(1:Int)),(gtD (y6.set y5.toNat (y4,(gtD y6 y5).2.1,(gtD y6 y5).2.2.1,(gtD y6 y5).2.2.2)) y5).2.2.1,(gtD (y6.set y5.toNat (y4,(gtD y6 y5).2.1,(gtD y6 y5).2.2.1,(gtD y6 y5).2.2.2)) y5).2.2.2)) y5).2.1,((y4+(1:Int))+(1:Int)),(gtD ((y6.set y5.toNat (y4,(gtD y6 y5).2.1,(gtD y6 y5).2.2.1,(gtD y6 y5).2.2.2)).set y5.toNat ((gtD (y6.set y5.toNat (y4,(gtD y6 y5).2.1,(gtD y6 y5).2.2.1,(gtD y6 y5).2.2.2)) y5).1,(y4+(1:Int)),(gtD (y6.set y5.toNat (y4,(gtD y6 y5).2.1,(gtD y6 y5).2.2.1,(gtD y6 y5).2.2.2)) y5).2.2.1,(gtD (y6.set y5.toNat (y4,(gtD y6 y5).2.1,(gtD y6 y5).2.2.1,(gtD y6 y5).2.2.2)) y5).2.2.2)) y5).2.2.2)) y5).2.2.1,(((y4+(1:Int))+(1:Int))+(1:Int))))))] ⟨rfl,rfl,z22,rfl,rfl,trivial⟩
      replace hA:=hI.avok
      clear hI
      obtain ⟨e23,hr⟩:=zAF hr
      refine HT.text (l:=⟨_,true,.raw (.int .i64 (((y4+(1:Int))+(1:Int))+(1:Int)))⟩::⟨_,true,.raw (.int .i64 ((((y4+(1:Int))+(1:Int))+(1:Int))+(1:Int)))⟩::⟨_,true,.raw (.int .i64 ((((y4+(1:Int))+(1:Int))+(1:Int))+(1:Int)))⟩::[]) (tl:=[]) (by kernel_rfl) (by kernel_rfl) (by kernel_rfl) ?_ ?_
      · exact
          Obls.cons (Obl.plain rfl rfl fun R' w' hw hs hd=>by have a0:R' 1 = .int .i64 (((y4+(1:Int))+(1:Int))+(1:Int)):=(hs 1 rfl).trans h1;exact zA5 a0) <|
          Obls.cons (Obl.plain rfl rfl fun R' w' hw hs hd=>by have a0:R' 38 = .int .i64 (((y4+(1:Int))+(1:Int))+(1:Int)):=hd 0 _ _ _ rfl rfl rfl rfl rfl;exact zB8 a0 rfl e23) <|
          Obls.cons (Obl.plain rfl rfl fun R' w' hw hs hd=>by have a0:R' 39 = .int .i64 ((((y4+(1:Int))+(1:Int))+(1:Int))+(1:Int)):=hd 0 _ _ _ rfl rfl rfl rfl rfl;exact zA6 a0) <|
          Obls.nil
      intro R w hw hs hF'
      replace h0:R 0=v0:=(hs 0 rfl).trans h0
      replace h5:R 5 = .int .i64 y5:=(hs 5 rfl).trans h5
      have h1:R 1 = .int .i64 ((((y4+(1:Int))+(1:Int))+(1:Int))+(1:Int)):=hF' 2 _ _ rfl rfl rfl
      replace hO:=hO.fr hw
      replace hA:=hA.fr hw.size
      replace hF:=hF.tr (hw.ch noB) fun _ h=>False.elim h
      clear hs hF' hw
      refine zA4 ?_
      obtain ⟨e24,hr⟩:=zAF hr
      refine HT.text (l:=⟨_,true,.raw (.int .i64 y5)⟩::⟨_,true,.raw (.int .i64 (y5+(1:Int)))⟩::⟨_,true,.raw (.int .i64 (y5+(1:Int)))⟩::[]) (tl:=[]) (by kernel_rfl) (by kernel_rfl) (by kernel_rfl) ?_ ?_
      · exact
          Obls.cons (Obl.plain rfl rfl fun R' w' hw hs hd=>by have a0:R' 5 = .int .i64 y5:=(hs 5 rfl).trans h5;exact zA5 a0) <|
          Obls.cons (Obl.plain rfl rfl fun R' w' hw hs hd=>by have a0:R' 10 = .int .i64 y5:=hd 0 _ _ _ rfl rfl rfl rfl rfl;exact zB8 a0 rfl e24) <|
          Obls.cons (Obl.plain rfl rfl fun R' w' hw hs hd=>by have a0:R' 11 = .int .i64 (y5+(1:Int)):=hd 0 _ _ _ rfl rfl rfl rfl rfl;exact zA6 a0) <|
          Obls.nil
      intro R w hw hs hF'
      replace h0:R 0=v0:=(hs 0 rfl).trans h0
      replace h1:R 1 = .int .i64 ((((y4+(1:Int))+(1:Int))+(1:Int))+(1:Int)):=(hs 1 rfl).trans h1
      have h5:R 5 = .int .i64 (y5+(1:Int)):=hF' 2 _ _ rfl rfl rfl
      replace hO:=hO.fr hw
      replace hA:=hA.fr hw.size
      replace hF:=hF.tr (hw.ch noB) fun _ h=>False.elim h
      clear hs hF' hw
      refine zA4 ?_
      exact Exists.intro k (And.intro (Nat.lt_succ_self k) ⟨_,_,_,_,hr,hA,hF,hAA,hO,h0,h1,h5⟩)
    · have hr := zAp c7 hr
      refine HT.exit ?_
      obtain rfl:=Option.some.inj hr
      exact Exists.intro _ ⟨_,rfl,hA,hF,hAA,hO,h1⟩
  rintro R w ⟨A,s3,es,hA,hF,hAA,hO,h1⟩
  obtain rfl:=es.symm
  refine HT.seq ?_
  refine HT.text (l:=⟨_,true,.raw (.int .i64 s3.1)⟩::⟨_,true,.raw (.int .i64 s3.1)⟩::[]) (tl:=[]) (by kernel_rfl) (by kernel_rfl) (by kernel_rfl) ?_ ?_
  · exact
      Obls.cons (Obl.plain rfl rfl fun R' w' hw hs hd=>by have a0:R' 1 = .int .i64 s3.1:=(hs 1 rfl).trans h1;exact zA5 a0) <|
      Obls.cons (Obl.plain rfl rfl fun R' w' hw hs hd=>by have a0:R' 40 = .int .i64 s3.1:=hd 0 _ _ _ rfl rfl rfl rfl rfl;exact zA6 a0) <|
      Obls.nil
  intro R w hw hs hF'
  have h4:R 4 = .int .i64 s3.1:=hF' 1 _ _ rfl rfl rfl
  replace hO:=hO.fr hw
  replace hA:=hA.fr hw.size
  replace hF:=hF.tr (hw.ch noB) fun _ h=>False.elim h
  clear hs hF' hw
  refine zA4 ?_
  refine HT.ret ?_
  obtain rfl:=Option.some.inj hr
  exact ⟨.inr rfl,[R 4],⟨rfl,trivial⟩,h4,Vec.flat (hO.ok 0 _ rfl).1 (fun _ _ _ _ _ h=>h),hF⟩
def zBs (fu:Nat) (p0:zAR) (p1:Int):Option (Int × zAR):=
  cl true (zBW fu p0.2 p1) fun x5=>
  some (x5.1,(p0.1,x5.2))
set_option maxRecDepth 100000 in
set_option maxHeartbeats 4000000 in
theorem zEd {fu : Nat} {A0 : Av} {p0 : zAR} {p1 : Int} {r : Int × zAR} (hr : zBs fu p0 p1 = some r) {w : World} {v0 : Value} {v1 : Value} {S0 : Nat → Prop} (hA : AvOK A0 w) (hN : ∀ b o, A0 b o → ¬ S0 b) (h0 : (trP (oPr (oRd (eInt .i64)) (oSl 99 (oRd zA0))) p0 []).P (addS A0 S0) w S0 v0) (h1 : v1 = .int .i64 p1) :
    Calls Try.prog 21 #[v0,v1] w fun e w'=>∃ v,e = .returned v∧(v = .int .i64 r.1∧Gave (oPr (oRd (eInt .i64)) (oSl 99 (oRd zA0))) A0 S0 w v0 r.2 w'):=by
  unfold zBs at hr
  obtain ⟨w0,hw0⟩:∃ w0,w0=w:=⟨_,rfl⟩
  have hF:Ch S0 w0 w:=hw0 ▸ Ch.refl _ _
  have hA0:∀ b o,A0 b o→b<w0.heap.size:=fun b o h=>hw0 ▸ hA b o h
  have hA00:AvOK A0 w0:=hA0
  rw [show Gave (oPr (oRd (eInt .i64)) (oSl 99 (oRd zA0))) A0 S0 w=Gave (oPr (oRd (eInt .i64)) (oSl 99 (oRd zA0))) A0 S0 w0 from hw0 ▸ rfl]
  have hw0s:w.heap.size=w0.heap.size:=hw0 ▸ rfl
  obtain ⟨cs_0,ecs_0,lcs_0,ocs_0⟩:=zIr h0
  clear hw0
  have hO:=IniOK.oneT h0
  have hA1:=hA.oneT h0
  rw [show w.heap.size=w0.heap.size from hw0s] at hO
  obtain ⟨A,hAe⟩:∃ A,A=addS A0 S0:=⟨_,rfl⟩
  have hAA:∀ b o,A0 b o→A b o:=fun b o h=>hAe ▸ .inl h
  replace hA:AvOK A w:=hAe ▸ hA1
  replace hO:IniOK [⟨v0,S0,trR (fun k=>w0.heap.size≤k∨S0 k) (oPr (oRd (eInt .i64)) (oSl 99 (oRd zA0))) p0 []⟩] A w:=hAe ▸ hO
  refine zAI [.tmp 4] Try.func21 Try.ntmps21 (by decide) rfl rfl (Nat.le_of_ble_eq_true rfl) ?_
  intro R hR
  replace h0:R 0=v0:=hR 0 _ rfl
  replace h1:R 1 = .int .i64 p1:=(hR 1 _ rfl).trans h1
  clear hR hAe
  refine HT.seq ?_
  refine HT.textR [⟨v0,S0,trR (fun k=>w0.heap.size≤k∨S0 k) (oPr (oRd (eInt .i64)) (oSl 99 (oRd zA0))) p0 []⟩] (⟨_,true,[0],some (.gen (fun k=>w0.heap.size≤k∨S0 k) (trB 41 (oPr (oRd (eInt .i64)) (oSl 99 (oRd zA0))) p0 cs_0)),true,fun A=>.any⟩::⟨_,true,[],none,true,fun A=>.raw (.int .i64 (0:Int))⟩::[]) (by kernel_rfl) (by kernel_rfl) (Wf.mk' (by kernel_rfl) (UAll.cons zAG (UAll.cons zAA (UAll.nil))) (by kernel_rfl) (by kernel_rfl)) hO hA ?_ ?_
  · exact
      zA9.cons (OblR.tookS 0 _ _ rfl rfl rfl rfl rfl fun A' R' w' ho hd u S hok hown hav hin hop hds=>by have a0:R' 0=v0:=(ho.old 0 rfl).trans h0;have e0:=(hin _ rfl).1;rw [e0] at hown ⊢;exact zI7 hown.2 ecs_0 lcs_0 ocs_0 a0 hav hown.1 (fun k hk=>.inl (Nat.le_trans (Nat.le_trans hF.size ho.ch.size) hk))) <|
      zA9.cons (OblR.plain rfl rfl rfl rfl fun A' R' w' ho hd=>by exact zA6 rfl) <|
      zA9.nil
  intro done ρ σ A R w hdn hI
  replace h1:R 1 = .int .i64 p1:=(hI.reg rfl).trans h1
  obtain ⟨u1,e_u1⟩:∃ u,ρ 1=u:=⟨_,rfl⟩
  have h2:R 2=u1:=(hI.opvR hdn 1 0 rfl rfl rfl rfl rfl).symm.trans e_u1
  obtain ⟨S2,eS_u1⟩:∃ S,σ 1=S:=⟨_,rfl⟩
  replace hAA:=hI.lowK hAA hA0 hN (hO.geK (⟨fun _ h=>h,trivial⟩))
  replace hF:Ch S0 w0 w:=hF.tr hI.ch (hO.geK (⟨fun _ h=>h,trivial⟩))
  replace hO:IniOK [⟨u1,S2,.gen (fun k=>w0.heap.size≤k∨S0 k) (trB 41 (oPr (oRd (eInt .i64)) (oSl 99 (oRd zA0))) p0 cs_0)⟩] A w:=hI.left hdn [(1,⟨u1,S2,.gen (fun k=>w0.heap.size≤k∨S0 k) (trB 41 (oPr (oRd (eInt .i64)) (oSl 99 (oRd zA0))) p0 cs_0)⟩)] ⟨rfl,rfl,e_u1,eS_u1,rfl,trivial⟩
  replace hA:=hI.avok
  clear hI
  replace hO:IniOK [⟨u1,S2,trR (fun k=>w0.heap.size≤k∨S0 k) (oPt 41 (oPr (oRd (eInt .i64)) (oSl 99 (oRd zA0)))) p0 [(u1,cs_0)]⟩] A w:=hO.repin 0 rfl (fun h=>trP.pin h.2 h.1)
  refine HT.seq ?_
  obtain ⟨h3,p_h3⟩:=((((zAJ (hO.own 0 _ rfl).2).ptr).snd rfl)).open1 rfl
  replace hO:IniOK [⟨u1,S2,trR (fun k=>w0.heap.size≤k∨S0 k) (oPt 41 (oPr (oRd (eInt .i64)) (oSl 99 (oRd zA0)))) p0 [((padd u1 1),[h3]),(u1,cs_0)]⟩] A w:=hO.repin 0 rfl (trP.pin p_h3)
  obtain ⟨x5,q6,hr⟩:=zAK hr
  refine HT.textR [⟨u1,S2,trR (fun k=>w0.heap.size≤k∨S0 k) (oPt 41 (oPr (oRd (eInt .i64)) (oSl 99 (oRd zA0)))) p0 [((padd u1 1),[h3]),(u1,cs_0)]⟩] (⟨_,true,[],none,true,fun A=>.raw (padd u1 1)⟩::⟨_,true,[],none,true,fun A=>.raw h3⟩::⟨_,true,[],none,true,fun A=>.raw (.int .i64 p1)⟩::⟨_,true,[0],some (trR (fun k=>w0.heap.size≤k∨S0 k) (oPt 41 (oPr (oRd (eInt .i64)) (oSl 99 (oRd zA0)))) (p0.1,x5.2) [(u1,cs_0)]),false,fun A=>.raw (.int .i64 x5.1)⟩::⟨_,true,[],none,true,fun A=>.raw (.int .i64 x5.1)⟩::[]) (by kernel_rfl) (by kernel_rfl) (Wf.mk' (by kernel_rfl) (UAll.cons zAA (UAll.cons zAA (UAll.cons zAA (UAll.cons zAA (UAll.cons zAA (UAll.nil)))))) (by kernel_rfl) (by kernel_rfl)) hO hA ?_ ?_
  · exact
      zA9.cons (OblR.plain rfl rfl rfl rfl fun A' R' w' ho hd=>by have a0:R' 2=u1:=(ho.old 2 rfl).trans h2;exact zAb ((zAJ (hO.own 0 _ rfl).2).ptr).ad a0 zEU Try.sizeOf39 (by decide) rfl) <|
      zA9.cons (OblR.plain rfl rfl rfl rfl fun A' R' w' ho hd=>by have a0:R' 5=(padd u1 1):=hd 0 _ _ _ rfl rfl rfl rfl rfl;exact zBv ((ho.rdo 0 _ rfl rfl).2.2 _ (.head _)) a0 Try.isAgg39 Try.sizeOf39) <|
      zA9.cons (OblR.plain rfl rfl rfl rfl fun A' R' w' ho hd=>by have a0:R' 1 = .int .i64 p1:=(ho.old 1 rfl).trans h1;exact zA5 a0) <|
      zA9.cons (OblR.tookS 0 _ _ rfl rfl rfl rfl rfl fun A' R' w' ho hd u S hok hown hav hin hop hds=>by have a0:R' 6=h3:=hd 0 _ _ _ rfl rfl rfl rfl rfl;have a1:R' 7 = .int .i64 p1:=hd 1 _ _ _ rfl rfl rfl rfl rfl;have e0:=(hin _ rfl).1;rw [e0] at hown ⊢;have hu0:zAL R' (.tmp 6)=h3:=a0;exact zCH Try.call47 (((((zAJ hown.2).ptr).snd rfl)).pinK (hown.2.2 _ (.head _)) rfl (hown.2.2 _ (.tail _ (.head _))) (zKr (zAJ hown.2).ptr.ad 1)) hav hown.1 (fun k hk=>.inl (Nat.le_trans (Nat.le_trans hF.size ho.ch.size) hk)) (fun k hk=>SP.lt _ hown.2 hk) (fun S1 hS1 hP=>by simp only [List.map,hu0];exact Calls.mono (zDy (q6 rfl) (ho.av.subS _) (fun b o h hb=>h.2 ((zGJ (fun _ _ _ _ _ h=>h) hP) ▸ hb)) (zGf (fun _ _ _ _ _ h=>h) hP).1 a1) (fun _ _ ⟨v,h1,h2⟩=>⟨v,h1,zGm (fun _ _ _ _ _ h=>h) hP h2 (zGJ (fun _ _ _ _ _ h=>h) hP)⟩)) (fun _ _ _ h=>trP.pin h.2 h.1)) <|
      zA9.cons (OblR.plain rfl rfl rfl rfl fun A' R' w' ho hd=>by have a0:R' 8 = .int .i64 x5.1:=hd 0 _ _ _ rfl rfl rfl rfl rfl;exact zA6 a0) <|
      zA9.nil
  intro done ρ σ A R w hdn hI
  have z7:=hI.inivR 0 rfl
  have z8:=(hI.opnR hdn 4 3 rfl rfl rfl rfl rfl).trans z7
  obtain ⟨S9,eS_u1⟩:∃ S,σ 4=S:=⟨_,rfl⟩
  have h1:R 1 = .int .i64 x5.1:=hI.fact hdn (i:=4) rfl rfl rfl
  replace hAA:=hI.lowK hAA hA0 hN (hO.geK (⟨fun _ h=>h,trivial⟩))
  replace hF:Ch S0 w0 w:=hF.tr hI.ch (hO.geK (⟨fun _ h=>h,trivial⟩))
  replace hO:IniOK [⟨u1,S9,trR (fun k=>w0.heap.size≤k∨S0 k) (oPt 41 (oPr (oRd (eInt .i64)) (oSl 99 (oRd zA0)))) (p0.1,x5.2) [(u1,cs_0)]⟩] A w:=hI.left hdn [(4,⟨u1,S9,trR (fun k=>w0.heap.size≤k∨S0 k) (oPt 41 (oPr (oRd (eInt .i64)) (oSl 99 (oRd zA0)))) (p0.1,x5.2) [(u1,cs_0)]⟩)] ⟨rfl,rfl,z8,eS_u1,rfl,trivial⟩
  replace hA:=hI.avok
  clear hI
  refine HT.seq ?_
  refine HT.text (l:=⟨_,true,.raw (.int .i64 x5.1)⟩::⟨_,true,.raw (.int .i64 x5.1)⟩::[]) (tl:=[]) (by kernel_rfl) (by kernel_rfl) (by kernel_rfl) ?_ ?_
  · exact
      Obls.cons (Obl.plain rfl rfl fun R' w' hw hs hd=>by have a0:R' 1 = .int .i64 x5.1:=(hs 1 rfl).trans h1;exact zA5 a0) <|
      Obls.cons (Obl.plain rfl rfl fun R' w' hw hs hd=>by have a0:R' 9 = .int .i64 x5.1:=hd 0 _ _ _ rfl rfl rfl rfl rfl;exact zA6 a0) <|
      Obls.nil
  intro R w hw hs hF'
  have h4:R 4 = .int .i64 x5.1:=hF' 1 _ _ rfl rfl rfl
  replace hO:=hO.fr hw
  replace hA:=hA.fr hw.size
  replace hF:=hF.tr (hw.ch noB) fun _ h=>False.elim h
  clear hs hF' hw
  refine zA4 ?_
  refine HT.ret ?_
  obtain rfl:=Option.some.inj hr
  exact ⟨.inr rfl,[R 4],⟨rfl,trivial⟩,h4,zFY rfl (hO.own 0 _ rfl) (hO.ok 0 _ rfl).2 hAA ecs_0 lcs_0 hF⟩
def zB0 (fu : Nat) (p0 : List zA3) : Nat → Int → Int → Option (Ex Int Int)
  | 0,_,_=>none
  | k+1,y4,y5=>
    bif (decide (y5 < (p0.length : Int))) then (
      ck (inR y5 p0.length) <|
      bif (((gtD p0 y5).1) != y4) then (
        some (Ex.ret (-1:Int))
      ) else (
        ck (i64B (y4+(1:Int))) <|
        ck (inR y5 p0.length) <|
        bif (((gtD p0 y5).2.1) != (y4 + (1 : Int))) then (
          some (Ex.ret (-1:Int))
        ) else (
          ck (i64B ((y4+(1:Int))+(1:Int))) <|
          ck (inR y5 p0.length) <|
          bif (((gtD p0 y5).2.2.1) != ((y4 + (1 : Int)) + (1 : Int))) then (
            some (Ex.ret (-1:Int))
          ) else (
            ck (i64B (((y4+(1:Int))+(1:Int))+(1:Int))) <|
            ck (inR y5 p0.length) <|
            bif (((gtD p0 y5).2.2.2) != (((y4 + (1 : Int)) + (1 : Int)) + (1 : Int))) then (
              some (Ex.ret (-1:Int))
            ) else (
              ck (i64B ((((y4+(1:Int))+(1:Int))+(1:Int))+(1:Int))) <|
              ck (i64B (y5+(1:Int))) <|
              zB0 fu p0 k ((((y4+(1:Int))+(1:Int))+(1:Int))+(1:Int)) (y5+(1:Int))
            )
          )
        )
      )
    ) else (
      some (Ex.go y4)
    )
def zBU (fu:Nat) (p0:List zA3) (p1:Int):Option Int:=
  cl true (zB0 fu p0 fu p1 (0:Int)) fun rl1=>
  exM rl1 (fun r=>some r) fun s3=>
  some s3
set_option maxRecDepth 100000 in
set_option maxHeartbeats 4000000 in
theorem zE1 {fu : Nat} {A : Av} {p0 : List zA3} {p1 : Int} {r : Int} (hr : zBU fu p0 p1 = some r) {w : World} {v0 : Value} {v1 : Value} (hA : AvOK A w) (h0 : Rep (eSl zA0) A w v0 p0) (h1 : v1 = .int .i64 p1) :
    Calls Try.prog 48 #[v0,v1] w fun e w'=>∃ v,e = .returned v∧(v = .int .i64 r∧Fr w w'):=by
  unfold zBU at hr
  obtain ⟨w0,hw0⟩:∃ w0,w0=w:=⟨_,rfl⟩
  have hF:Fr w0 w:=hw0 ▸ Fr.refl _
  rw [show Fr w=Fr w0 from hw0 ▸ rfl]
  clear hw0
  refine zAI [.tmp 4] Try.func48 Try.ntmps48 (by decide) rfl rfl (Nat.le_of_ble_eq_true rfl) ?_
  intro R hR
  have f_v0:=h0
  replace h0:R 0=v0:=hR 0 _ rfl
  replace h1:R 1 = .int .i64 p1:=(hR 1 _ rfl).trans h1
  clear hR
  refine HT.seq ?_
  refine HT.text (l:=⟨_,true,.raw (.int .i64 (0:Int))⟩::[]) (tl:=[]) (by kernel_rfl) (by kernel_rfl) (by kernel_rfl) ?_ ?_
  · exact
      Obls.cons (Obl.plain rfl rfl fun R' w' hw hs hd=>by exact zA6 rfl) <|
      Obls.nil
  intro R w hw hs hF'
  replace h0:R 0=v0:=(hs 0 rfl).trans h0
  replace h1:R 1 = .int .i64 p1:=(hs 1 rfl).trans h1
  replace f_v0:=f_v0.fr hw
  replace hA:=hA.fr hw.size
  replace hF:=hF.trans hw
  clear hs hF' hw
  refine zA4 ?_
  refine HT.seq ?_
  refine HT.seq ?_
  refine HT.text (l:=⟨_,true,.raw (.int .i64 (0:Int))⟩::[]) (tl:=[]) (by kernel_rfl) (by kernel_rfl) (by kernel_rfl) ?_ ?_
  · exact
      Obls.cons (Obl.plain rfl rfl fun R' w' hw hs hd=>by exact zA6 rfl) <|
      Obls.nil
  intro R w hw hs hF'
  replace h0:R 0=v0:=(hs 0 rfl).trans h0
  replace h1:R 1 = .int .i64 p1:=(hs 1 rfl).trans h1
  have h5:R 5 = .int .i64 (0:Int):=hF' 0 _ _ rfl rfl rfl
  replace f_v0:=f_v0.fr hw
  replace hA:=hA.fr hw.size
  replace hF:=hF.trans hw
  clear hs hF' hw
  refine zA4 ?_
  obtain ⟨rl1,q2,hr⟩:=zAK hr
  replace q2:=q2 rfl
  refine HT.cut0 (fun R w=>∃ (s3:Int),rl1=Ex.go s3∧AvOK A w∧Fr w0 w∧R 1 = .int .i64 s3) ?_ ?_
  · refine HT.block ?_
    refine HT.loop (fun k R w=>∃ (y4:Int) (y5:Int),zB0 fu p0 k y4 y5=some rl1∧AvOK A w∧Fr w0 w∧R 0=v0∧R 1 = .int .i64 y4∧R 5 = .int .i64 y5∧Rep (eSl zA0) A w v0 p0) fu ⟨_,_,q2,hA,hF,h0,h1,h5,f_v0⟩ ?_
    have hr0:=hr;clear hr q2
    rintro k R w ⟨y4,y5,hr,hA,hF,h0,h1,h5,f_v0⟩
    rcases k with _ | k
    · cases (show none=some _ from hr)
    rw [zB0] at hr
    refine HT.seq ?_
    refine HT.seq ?_
    refine HT.text (l:=⟨_,true,.raw (.int .i64 y5)⟩::⟨_,true,.raw v0⟩::⟨_,true,.raw (.int .i64 (p0.length:Int))⟩::⟨_,true,.raw (.bool (decide (y5<(p0.length:Int))))⟩::[]) (tl:=[]) (by kernel_rfl) (by kernel_rfl) (by kernel_rfl) ?_ ?_
    · exact
        Obls.cons (Obl.plain rfl rfl fun R' w' hw hs hd=>by have a0:R' 5 = .int .i64 y5:=(hs 5 rfl).trans h5;exact zA5 a0) <|
        Obls.cons (Obl.plain rfl rfl fun R' w' hw hs hd=>by have a0:R' 0=v0:=(hs 0 rfl).trans h0;exact zA5 a0) <|
        Obls.cons (Obl.plain rfl rfl fun R' w' hw hs hd=>by have a0:R' 7=v0:=hd 0 _ _ _ rfl rfl rfl rfl rfl;have ra0:=(f_v0.fr hw).eq a0;exact zAd (aT:=#[]) ra0 Try.underlying39) <|
        Obls.cons (Obl.plain rfl rfl fun R' w' hw hs hd=>by have a0:R' 6 = .int .i64 y5:=hd 0 _ _ _ rfl rfl rfl rfl rfl;have a1:R' 8 = .int .i64 (p0.length:Int):=hd 1 _ _ _ rfl rfl rfl rfl rfl;exact zBI a0 a1) <|
        Obls.nil
    intro R w hw hs hF'
    replace h0:R 0=v0:=(hs 0 rfl).trans h0
    replace h1:R 1 = .int .i64 y4:=(hs 1 rfl).trans h1
    replace h5:R 5 = .int .i64 y5:=(hs 5 rfl).trans h5
    have h9:R 9 = .bool (decide (y5<(p0.length:Int))):=hF' 3 _ _ rfl rfl rfl
    replace f_v0:=f_v0.fr hw
    replace hA:=hA.fr hw.size
    replace hF:=hF.trans hw
    clear hs hF' hw
    refine zA4 ?_
    refine HT.cond (decide (y5<(p0.length:Int))) h9 (fun c6=>?_) (fun c6=>?_)
    · have hr := zAq c6 hr
      refine HT.skip ?_
      refine HT.seq ?_
      refine HT.block ?_
      refine HT.seq ?_
      refine HT.seq ?_
      obtain ⟨e7,hr⟩:=zAF hr
      refine HT.text (l:=⟨_,true,.raw v0⟩::⟨_,true,.raw (.int .i64 y5)⟩::⟨_,true,.qtr zA0 A (gtD p0 y5)⟩::⟨_,true,.qtr (eInt .i64) A ((gtD p0 y5).1)⟩::⟨_,true,.raw (.int .i64 ((gtD p0 y5).1))⟩::⟨_,true,.raw (.int .i64 y4)⟩::⟨_,true,.raw (.bool (((gtD p0 y5).1) != y4))⟩::[]) (tl:=[]) (by kernel_rfl) (by kernel_rfl) (by kernel_rfl) ?_ ?_
      · exact
          Obls.cons (Obl.plain rfl rfl fun R' w' hw hs hd=>by have a0:R' 0=v0:=(hs 0 rfl).trans h0;exact zA5 a0) <|
          Obls.cons (Obl.plain rfl rfl fun R' w' hw hs hd=>by have a0:R' 5 = .int .i64 y5:=(hs 5 rfl).trans h5;exact zA5 a0) <|
          Obls.cons (Obl.plain rfl rfl fun R' w' hw hs hd=>by have a0:R' 12=v0:=hd 0 _ _ _ rfl rfl rfl rfl rfl;have a1:R' 13 = .int .i64 y5:=hd 1 _ _ _ rfl rfl rfl rfl rfl;have ra0:=(f_v0.fr hw).eq a0;exact zAN ra0 a1 Try.underlying39 Try.sizeOf99 e7) <|
          Obls.cons (Obl.plain rfl rfl fun R' w' hw hs hd=>by have a0:QRep zA0 A w' (R' 14) (gtD p0 y5):=hd 0 _ _ _ rfl rfl rfl rfl rfl;exact zAc a0 zHa Try.sizeOf3 (by decide) zCZ rfl) <|
          Obls.cons (Obl.plain rfl rfl fun R' w' hw hs hd=>by have a0:QRep (eInt .i64) A w' (R' 15) ((gtD p0 y5).1):=hd 0 _ _ _ rfl rfl rfl rfl rfl;exact OpF.int (zAv a0.ptr Try.isAgg3 Try.sizeOf3)) <|
          Obls.cons (Obl.plain rfl rfl fun R' w' hw hs hd=>by have a0:R' 1 = .int .i64 y4:=(hs 1 rfl).trans h1;exact zA5 a0) <|
          Obls.cons (Obl.plain rfl rfl fun R' w' hw hs hd=>by have a0:R' 16 = .int .i64 ((gtD p0 y5).1):=hd 0 _ _ _ rfl rfl rfl rfl rfl;have a1:R' 17 = .int .i64 y4:=hd 1 _ _ _ rfl rfl rfl rfl rfl;exact zDK a0 a1) <|
          Obls.nil
      intro R w hw hs hF'
      replace h0:R 0=v0:=(hs 0 rfl).trans h0
      replace h1:R 1 = .int .i64 y4:=(hs 1 rfl).trans h1
      replace h5:R 5 = .int .i64 y5:=(hs 5 rfl).trans h5
      have h18:R 18 = .bool (((gtD p0 y5).1) != y4):=hF' 6 _ _ rfl rfl rfl
      replace f_v0:=f_v0.fr hw
      replace hA:=hA.fr hw.size
      replace hF:=hF.trans hw
      clear hs hF' hw
      refine zA4 ?_
      refine HT.cond (((gtD p0 y5).1) != y4) h18 (fun c8=>?_) (fun c8=>?_)
      · have hr := zAq c8 hr
        refine HT.seq ?_
        refine HT.text (l:=⟨_,true,.raw (.int .i64 (-1:Int))⟩::[]) (tl:=[]) (by kernel_rfl) (by kernel_rfl) (by kernel_rfl) ?_ ?_
        · exact
            Obls.cons (Obl.plain rfl rfl fun R' w' hw hs hd=>by exact zA6 rfl) <|
            Obls.nil
        intro R w hw hs hF'
        have h4:R 4 = .int .i64 (-1:Int):=hF' 0 _ _ rfl rfl rfl
        replace hA:=hA.fr hw.size
        replace hF:=hF.trans hw
        clear hs hF' hw
        refine zA4 ?_
        refine HT.ret ?_
        obtain rfl:=Option.some.inj hr
        have hr:=hr0
        replace hr:some _=some _:=hr
        obtain rfl:=Option.some.inj hr
        exact ⟨.inr rfl,[R 4],⟨rfl,trivial⟩,h4,hF⟩
      · have hr := zAp c8 hr
        refine HT.skip ?_
        refine HT.seq ?_
        obtain ⟨e9,hr⟩:=zAF hr
        refine HT.text (l:=⟨_,true,.raw (.int .i64 y4)⟩::⟨_,true,.raw (.int .i64 (y4+(1:Int)))⟩::⟨_,true,.raw (.int .i64 (y4+(1:Int)))⟩::[]) (tl:=[]) (by kernel_rfl) (by kernel_rfl) (by kernel_rfl) ?_ ?_
        · exact
            Obls.cons (Obl.plain rfl rfl fun R' w' hw hs hd=>by have a0:R' 1 = .int .i64 y4:=(hs 1 rfl).trans h1;exact zA5 a0) <|
            Obls.cons (Obl.plain rfl rfl fun R' w' hw hs hd=>by have a0:R' 19 = .int .i64 y4:=hd 0 _ _ _ rfl rfl rfl rfl rfl;exact zB8 a0 rfl e9) <|
            Obls.cons (Obl.plain rfl rfl fun R' w' hw hs hd=>by have a0:R' 20 = .int .i64 (y4+(1:Int)):=hd 0 _ _ _ rfl rfl rfl rfl rfl;exact zA6 a0) <|
            Obls.nil
        intro R w hw hs hF'
        replace h0:R 0=v0:=(hs 0 rfl).trans h0
        replace h5:R 5 = .int .i64 y5:=(hs 5 rfl).trans h5
        have h1:R 1 = .int .i64 (y4+(1:Int)):=hF' 2 _ _ rfl rfl rfl
        replace f_v0:=f_v0.fr hw
        replace hA:=hA.fr hw.size
        replace hF:=hF.trans hw
        clear hs hF' hw
        refine zA4 ?_
        refine HT.seq ?_
        refine HT.seq ?_
        obtain ⟨e10,hr⟩:=zAF hr
        refine HT.text (l:=⟨_,true,.raw v0⟩::⟨_,true,.raw (.int .i64 y5)⟩::⟨_,true,.qtr zA0 A (gtD p0 y5)⟩::⟨_,true,.qtr (eInt .i64) A ((gtD p0 y5).2.1)⟩::⟨_,true,.raw (.int .i64 ((gtD p0 y5).2.1))⟩::⟨_,true,.raw (.int .i64 (y4+(1:Int)))⟩::⟨_,true,.raw (.bool (((gtD p0 y5).2.1) != (y4+(1:Int))))⟩::[]) (tl:=[]) (by kernel_rfl) (by kernel_rfl) (by kernel_rfl) ?_ ?_
        · exact
            Obls.cons (Obl.plain rfl rfl fun R' w' hw hs hd=>by have a0:R' 0=v0:=(hs 0 rfl).trans h0;exact zA5 a0) <|
            Obls.cons (Obl.plain rfl rfl fun R' w' hw hs hd=>by have a0:R' 5 = .int .i64 y5:=(hs 5 rfl).trans h5;exact zA5 a0) <|
            Obls.cons (Obl.plain rfl rfl fun R' w' hw hs hd=>by have a0:R' 21=v0:=hd 0 _ _ _ rfl rfl rfl rfl rfl;have a1:R' 22 = .int .i64 y5:=hd 1 _ _ _ rfl rfl rfl rfl rfl;have ra0:=(f_v0.fr hw).eq a0;exact zAN ra0 a1 Try.underlying39 Try.sizeOf99 e10) <|
            Obls.cons (Obl.plain rfl rfl fun R' w' hw hs hd=>by have a0:QRep zA0 A w' (R' 23) (gtD p0 y5):=hd 0 _ _ _ rfl rfl rfl rfl rfl;exact zAc a0 zHA Try.sizeOf3 (by decide) zCh rfl) <|
            Obls.cons (Obl.plain rfl rfl fun R' w' hw hs hd=>by have a0:QRep (eInt .i64) A w' (R' 24) ((gtD p0 y5).2.1):=hd 0 _ _ _ rfl rfl rfl rfl rfl;exact OpF.int (zAv a0.ptr Try.isAgg3 Try.sizeOf3)) <|
            Obls.cons (Obl.plain rfl rfl fun R' w' hw hs hd=>by have a0:R' 1 = .int .i64 (y4+(1:Int)):=(hs 1 rfl).trans h1;exact zA5 a0) <|
            Obls.cons (Obl.plain rfl rfl fun R' w' hw hs hd=>by have a0:R' 25 = .int .i64 ((gtD p0 y5).2.1):=hd 0 _ _ _ rfl rfl rfl rfl rfl;have a1:R' 26 = .int .i64 (y4+(1:Int)):=hd 1 _ _ _ rfl rfl rfl rfl rfl;exact zDK a0 a1) <|
            Obls.nil
        intro R w hw hs hF'
        replace h0:R 0=v0:=(hs 0 rfl).trans h0
        replace h1:R 1 = .int .i64 (y4+(1:Int)):=(hs 1 rfl).trans h1
        replace h5:R 5 = .int .i64 y5:=(hs 5 rfl).trans h5
        have h27:R 27 = .bool (((gtD p0 y5).2.1) != (y4+(1:Int))):=hF' 6 _ _ rfl rfl rfl
        replace f_v0:=f_v0.fr hw
        replace hA:=hA.fr hw.size
        replace hF:=hF.trans hw
        clear hs hF' hw
        refine zA4 ?_
        refine HT.cond (((gtD p0 y5).2.1) != (y4+(1:Int))) h27 (fun c11=>?_) (fun c11=>?_)
        · have hr := zAq c11 hr
          refine HT.seq ?_
          refine HT.text (l:=⟨_,true,.raw (.int .i64 (-1:Int))⟩::[]) (tl:=[]) (by kernel_rfl) (by kernel_rfl) (by kernel_rfl) ?_ ?_
          · exact
              Obls.cons (Obl.plain rfl rfl fun R' w' hw hs hd=>by exact zA6 rfl) <|
              Obls.nil
          intro R w hw hs hF'
          have h4:R 4 = .int .i64 (-1:Int):=hF' 0 _ _ rfl rfl rfl
          replace hA:=hA.fr hw.size
          replace hF:=hF.trans hw
          clear hs hF' hw
          refine zA4 ?_
          refine HT.ret ?_
          obtain rfl:=Option.some.inj hr
          have hr:=hr0
          replace hr:some _=some _:=hr
          obtain rfl:=Option.some.inj hr
          exact ⟨.inr rfl,[R 4],⟨rfl,trivial⟩,h4,hF⟩
        · have hr := zAp c11 hr
          refine HT.skip ?_
          refine HT.seq ?_
          obtain ⟨e12,hr⟩:=zAF hr
          refine HT.text (l:=⟨_,true,.raw (.int .i64 (y4+(1:Int)))⟩::⟨_,true,.raw (.int .i64 ((y4+(1:Int))+(1:Int)))⟩::⟨_,true,.raw (.int .i64 ((y4+(1:Int))+(1:Int)))⟩::[]) (tl:=[]) (by kernel_rfl) (by kernel_rfl) (by kernel_rfl) ?_ ?_
          · exact
              Obls.cons (Obl.plain rfl rfl fun R' w' hw hs hd=>by have a0:R' 1 = .int .i64 (y4+(1:Int)):=(hs 1 rfl).trans h1;exact zA5 a0) <|
              Obls.cons (Obl.plain rfl rfl fun R' w' hw hs hd=>by have a0:R' 28 = .int .i64 (y4+(1:Int)):=hd 0 _ _ _ rfl rfl rfl rfl rfl;exact zB8 a0 rfl e12) <|
              Obls.cons (Obl.plain rfl rfl fun R' w' hw hs hd=>by have a0:R' 29 = .int .i64 ((y4+(1:Int))+(1:Int)):=hd 0 _ _ _ rfl rfl rfl rfl rfl;exact zA6 a0) <|
              Obls.nil
          intro R w hw hs hF'
          replace h0:R 0=v0:=(hs 0 rfl).trans h0
          replace h5:R 5 = .int .i64 y5:=(hs 5 rfl).trans h5
          have h1:R 1 = .int .i64 ((y4+(1:Int))+(1:Int)):=hF' 2 _ _ rfl rfl rfl
          replace f_v0:=f_v0.fr hw
          replace hA:=hA.fr hw.size
          replace hF:=hF.trans hw
          clear hs hF' hw
          refine zA4 ?_
          refine HT.seq ?_
          refine HT.seq ?_
          obtain ⟨e13,hr⟩:=zAF hr
          refine HT.text (l:=⟨_,true,.raw v0⟩::⟨_,true,.raw (.int .i64 y5)⟩::⟨_,true,.qtr zA0 A (gtD p0 y5)⟩::⟨_,true,.qtr (eInt .i64) A ((gtD p0 y5).2.2.1)⟩::⟨_,true,.raw (.int .i64 ((gtD p0 y5).2.2.1))⟩::⟨_,true,.raw (.int .i64 ((y4+(1:Int))+(1:Int)))⟩::⟨_,true,.raw (.bool (((gtD p0 y5).2.2.1) != ((y4+(1:Int))+(1:Int))))⟩::[]) (tl:=[]) (by kernel_rfl) (by kernel_rfl) (by kernel_rfl) ?_ ?_
          · exact
              Obls.cons (Obl.plain rfl rfl fun R' w' hw hs hd=>by have a0:R' 0=v0:=(hs 0 rfl).trans h0;exact zA5 a0) <|
              Obls.cons (Obl.plain rfl rfl fun R' w' hw hs hd=>by have a0:R' 5 = .int .i64 y5:=(hs 5 rfl).trans h5;exact zA5 a0) <|
              Obls.cons (Obl.plain rfl rfl fun R' w' hw hs hd=>by have a0:R' 30=v0:=hd 0 _ _ _ rfl rfl rfl rfl rfl;have a1:R' 31 = .int .i64 y5:=hd 1 _ _ _ rfl rfl rfl rfl rfl;have ra0:=(f_v0.fr hw).eq a0;exact zAN ra0 a1 Try.underlying39 Try.sizeOf99 e13) <|
              Obls.cons (Obl.plain rfl rfl fun R' w' hw hs hd=>by have a0:QRep zA0 A w' (R' 32) (gtD p0 y5):=hd 0 _ _ _ rfl rfl rfl rfl rfl;exact zAc a0 zHO Try.sizeOf3 (by decide) zCd rfl) <|
              Obls.cons (Obl.plain rfl rfl fun R' w' hw hs hd=>by have a0:QRep (eInt .i64) A w' (R' 33) ((gtD p0 y5).2.2.1):=hd 0 _ _ _ rfl rfl rfl rfl rfl;exact OpF.int (zAv a0.ptr Try.isAgg3 Try.sizeOf3)) <|
              Obls.cons (Obl.plain rfl rfl fun R' w' hw hs hd=>by have a0:R' 1 = .int .i64 ((y4+(1:Int))+(1:Int)):=(hs 1 rfl).trans h1;exact zA5 a0) <|
              Obls.cons (Obl.plain rfl rfl fun R' w' hw hs hd=>by have a0:R' 34 = .int .i64 ((gtD p0 y5).2.2.1):=hd 0 _ _ _ rfl rfl rfl rfl rfl;have a1:R' 35 = .int .i64 ((y4+(1:Int))+(1:Int)):=hd 1 _ _ _ rfl rfl rfl rfl rfl;exact zDK a0 a1) <|
              Obls.nil
          intro R w hw hs hF'
          replace h0:R 0=v0:=(hs 0 rfl).trans h0
          replace h1:R 1 = .int .i64 ((y4+(1:Int))+(1:Int)):=(hs 1 rfl).trans h1
          replace h5:R 5 = .int .i64 y5:=(hs 5 rfl).trans h5
          have h36:R 36 = .bool (((gtD p0 y5).2.2.1) != ((y4+(1:Int))+(1:Int))):=hF' 6 _ _ rfl rfl rfl
          replace f_v0:=f_v0.fr hw
          replace hA:=hA.fr hw.size
          replace hF:=hF.trans hw
          clear hs hF' hw
          refine zA4 ?_
          refine HT.cond (((gtD p0 y5).2.2.1) != ((y4+(1:Int))+(1:Int))) h36 (fun c14=>?_) (fun c14=>?_)
          · have hr := zAq c14 hr
            refine HT.seq ?_
            refine HT.text (l:=⟨_,true,.raw (.int .i64 (-1:Int))⟩::[]) (tl:=[]) (by kernel_rfl) (by kernel_rfl) (by kernel_rfl) ?_ ?_
            · exact
                Obls.cons (Obl.plain rfl rfl fun R' w' hw hs hd=>by exact zA6 rfl) <|
                Obls.nil
            intro R w hw hs hF'
            have h4:R 4 = .int .i64 (-1:Int):=hF' 0 _ _ rfl rfl rfl
            replace hA:=hA.fr hw.size
            replace hF:=hF.trans hw
            clear hs hF' hw
            refine zA4 ?_
            refine HT.ret ?_
            obtain rfl:=Option.some.inj hr
            have hr:=hr0
            replace hr:some _=some _:=hr
            obtain rfl:=Option.some.inj hr
            exact ⟨.inr rfl,[R 4],⟨rfl,trivial⟩,h4,hF⟩
          · have hr := zAp c14 hr
            refine HT.skip ?_
            refine HT.seq ?_
            obtain ⟨e15,hr⟩:=zAF hr
            refine HT.text (l:=⟨_,true,.raw (.int .i64 ((y4+(1:Int))+(1:Int)))⟩::⟨_,true,.raw (.int .i64 (((y4+(1:Int))+(1:Int))+(1:Int)))⟩::⟨_,true,.raw (.int .i64 (((y4+(1:Int))+(1:Int))+(1:Int)))⟩::[]) (tl:=[]) (by kernel_rfl) (by kernel_rfl) (by kernel_rfl) ?_ ?_
            · exact
                Obls.cons (Obl.plain rfl rfl fun R' w' hw hs hd=>by have a0:R' 1 = .int .i64 ((y4+(1:Int))+(1:Int)):=(hs 1 rfl).trans h1;exact zA5 a0) <|
                Obls.cons (Obl.plain rfl rfl fun R' w' hw hs hd=>by have a0:R' 37 = .int .i64 ((y4+(1:Int))+(1:Int)):=hd 0 _ _ _ rfl rfl rfl rfl rfl;exact zB8 a0 rfl e15) <|
                Obls.cons (Obl.plain rfl rfl fun R' w' hw hs hd=>by have a0:R' 38 = .int .i64 (((y4+(1:Int))+(1:Int))+(1:Int)):=hd 0 _ _ _ rfl rfl rfl rfl rfl;exact zA6 a0) <|
                Obls.nil
            intro R w hw hs hF'
            replace h0:R 0=v0:=(hs 0 rfl).trans h0
            replace h5:R 5 = .int .i64 y5:=(hs 5 rfl).trans h5
            have h1:R 1 = .int .i64 (((y4+(1:Int))+(1:Int))+(1:Int)):=hF' 2 _ _ rfl rfl rfl
            replace f_v0:=f_v0.fr hw
            replace hA:=hA.fr hw.size
            replace hF:=hF.trans hw
            clear hs hF' hw
            refine zA4 ?_
            refine HT.seq ?_
            refine HT.seq ?_
            obtain ⟨e16,hr⟩:=zAF hr
            refine HT.text (l:=⟨_,true,.raw v0⟩::⟨_,true,.raw (.int .i64 y5)⟩::⟨_,true,.qtr zA0 A (gtD p0 y5)⟩::⟨_,true,.qtr (eInt .i64) A ((gtD p0 y5).2.2.2)⟩::⟨_,true,.raw (.int .i64 ((gtD p0 y5).2.2.2))⟩::⟨_,true,.raw (.int .i64 (((y4+(1:Int))+(1:Int))+(1:Int)))⟩::⟨_,true,.raw (.bool (((gtD p0 y5).2.2.2) != (((y4+(1:Int))+(1:Int))+(1:Int))))⟩::[]) (tl:=[]) (by kernel_rfl) (by kernel_rfl) (by kernel_rfl) ?_ ?_
            · exact
                Obls.cons (Obl.plain rfl rfl fun R' w' hw hs hd=>by have a0:R' 0=v0:=(hs 0 rfl).trans h0;exact zA5 a0) <|
                Obls.cons (Obl.plain rfl rfl fun R' w' hw hs hd=>by have a0:R' 5 = .int .i64 y5:=(hs 5 rfl).trans h5;exact zA5 a0) <|
                Obls.cons (Obl.plain rfl rfl fun R' w' hw hs hd=>by have a0:R' 39=v0:=hd 0 _ _ _ rfl rfl rfl rfl rfl;have a1:R' 40 = .int .i64 y5:=hd 1 _ _ _ rfl rfl rfl rfl rfl;have ra0:=(f_v0.fr hw).eq a0;exact zAN ra0 a1 Try.underlying39 Try.sizeOf99 e16) <|
                Obls.cons (Obl.plain rfl rfl fun R' w' hw hs hd=>by have a0:QRep zA0 A w' (R' 41) (gtD p0 y5):=hd 0 _ _ _ rfl rfl rfl rfl rfl;exact zAc a0 zHB Try.sizeOf3 (by decide) zCX rfl) <|
                Obls.cons (Obl.plain rfl rfl fun R' w' hw hs hd=>by have a0:QRep (eInt .i64) A w' (R' 42) ((gtD p0 y5).2.2.2):=hd 0 _ _ _ rfl rfl rfl rfl rfl;exact OpF.int (zAv a0.ptr Try.isAgg3 Try.sizeOf3)) <|
                Obls.cons (Obl.plain rfl rfl fun R' w' hw hs hd=>by have a0:R' 1 = .int .i64 (((y4+(1:Int))+(1:Int))+(1:Int)):=(hs 1 rfl).trans h1;exact zA5 a0) <|
                Obls.cons (Obl.plain rfl rfl fun R' w' hw hs hd=>by have a0:R' 43 = .int .i64 ((gtD p0 y5).2.2.2):=hd 0 _ _ _ rfl rfl rfl rfl rfl;have a1:R' 44 = .int .i64 (((y4+(1:Int))+(1:Int))+(1:Int)):=hd 1 _ _ _ rfl rfl rfl rfl rfl;exact zDK a0 a1) <|
                Obls.nil
            intro R w hw hs hF'
            replace h0:R 0=v0:=(hs 0 rfl).trans h0
            replace h1:R 1 = .int .i64 (((y4+(1:Int))+(1:Int))+(1:Int)):=(hs 1 rfl).trans h1
            replace h5:R 5 = .int .i64 y5:=(hs 5 rfl).trans h5
            have h45:R 45 = .bool (((gtD p0 y5).2.2.2) != (((y4+(1:Int))+(1:Int))+(1:Int))):=hF' 6 _ _ rfl rfl rfl
            replace f_v0:=f_v0.fr hw
            replace hA:=hA.fr hw.size
            replace hF:=hF.trans hw
            clear hs hF' hw
            refine zA4 ?_
            refine HT.cond (((gtD p0 y5).2.2.2) != (((y4+(1:Int))+(1:Int))+(1:Int))) h45 (fun c17=>?_) (fun c17=>?_)
            · have hr := zAq c17 hr
              refine HT.seq ?_
              refine HT.text (l:=⟨_,true,.raw (.int .i64 (-1:Int))⟩::[]) (tl:=[]) (by kernel_rfl) (by kernel_rfl) (by kernel_rfl) ?_ ?_
              · exact
                  Obls.cons (Obl.plain rfl rfl fun R' w' hw hs hd=>by exact zA6 rfl) <|
                  Obls.nil
              intro R w hw hs hF'
              have h4:R 4 = .int .i64 (-1:Int):=hF' 0 _ _ rfl rfl rfl
              replace hA:=hA.fr hw.size
              replace hF:=hF.trans hw
              clear hs hF' hw
              refine zA4 ?_
              refine HT.ret ?_
              obtain rfl:=Option.some.inj hr
              have hr:=hr0
              replace hr:some _=some _:=hr
              obtain rfl:=Option.some.inj hr
              exact ⟨.inr rfl,[R 4],⟨rfl,trivial⟩,h4,hF⟩
            · have hr := zAp c17 hr
              refine HT.skip ?_
              obtain ⟨e18,hr⟩:=zAF hr
              refine HT.text (l:=⟨_,true,.raw (.int .i64 (((y4+(1:Int))+(1:Int))+(1:Int)))⟩::⟨_,true,.raw (.int .i64 ((((y4+(1:Int))+(1:Int))+(1:Int))+(1:Int)))⟩::⟨_,true,.raw (.int .i64 ((((y4+(1:Int))+(1:Int))+(1:Int))+(1:Int)))⟩::[]) (tl:=[]) (by kernel_rfl) (by kernel_rfl) (by kernel_rfl) ?_ ?_
              · exact
                  Obls.cons (Obl.plain rfl rfl fun R' w' hw hs hd=>by have a0:R' 1 = .int .i64 (((y4+(1:Int))+(1:Int))+(1:Int)):=(hs 1 rfl).trans h1;exact zA5 a0) <|
                  Obls.cons (Obl.plain rfl rfl fun R' w' hw hs hd=>by have a0:R' 46 = .int .i64 (((y4+(1:Int))+(1:Int))+(1:Int)):=hd 0 _ _ _ rfl rfl rfl rfl rfl;exact zB8 a0 rfl e18) <|
                  Obls.cons (Obl.plain rfl rfl fun R' w' hw hs hd=>by have a0:R' 47 = .int .i64 ((((y4+(1:Int))+(1:Int))+(1:Int))+(1:Int)):=hd 0 _ _ _ rfl rfl rfl rfl rfl;exact zA6 a0) <|
                  Obls.nil
              intro R w hw hs hF'
              replace h0:R 0=v0:=(hs 0 rfl).trans h0
              replace h5:R 5 = .int .i64 y5:=(hs 5 rfl).trans h5
              have h1:R 1 = .int .i64 ((((y4+(1:Int))+(1:Int))+(1:Int))+(1:Int)):=hF' 2 _ _ rfl rfl rfl
              replace f_v0:=f_v0.fr hw
              replace hA:=hA.fr hw.size
              replace hF:=hF.trans hw
              clear hs hF' hw
              refine zA4 ?_
              obtain ⟨e19,hr⟩:=zAF hr
              refine HT.text (l:=⟨_,true,.raw (.int .i64 y5)⟩::⟨_,true,.raw (.int .i64 (y5+(1:Int)))⟩::⟨_,true,.raw (.int .i64 (y5+(1:Int)))⟩::[]) (tl:=[]) (by kernel_rfl) (by kernel_rfl) (by kernel_rfl) ?_ ?_
              · exact
                  Obls.cons (Obl.plain rfl rfl fun R' w' hw hs hd=>by have a0:R' 5 = .int .i64 y5:=(hs 5 rfl).trans h5;exact zA5 a0) <|
                  Obls.cons (Obl.plain rfl rfl fun R' w' hw hs hd=>by have a0:R' 10 = .int .i64 y5:=hd 0 _ _ _ rfl rfl rfl rfl rfl;exact zB8 a0 rfl e19) <|
                  Obls.cons (Obl.plain rfl rfl fun R' w' hw hs hd=>by have a0:R' 11 = .int .i64 (y5+(1:Int)):=hd 0 _ _ _ rfl rfl rfl rfl rfl;exact zA6 a0) <|
                  Obls.nil
              intro R w hw hs hF'
              replace h0:R 0=v0:=(hs 0 rfl).trans h0
              replace h1:R 1 = .int .i64 ((((y4+(1:Int))+(1:Int))+(1:Int))+(1:Int)):=(hs 1 rfl).trans h1
              have h5:R 5 = .int .i64 (y5+(1:Int)):=hF' 2 _ _ rfl rfl rfl
              replace f_v0:=f_v0.fr hw
              replace hA:=hA.fr hw.size
              replace hF:=hF.trans hw
              clear hs hF' hw
              refine zA4 ?_
              exact Exists.intro k (And.intro (Nat.lt_succ_self k) ⟨_,_,hr,hA,hF,h0,h1,h5,f_v0⟩)
    · have hr := zAp c6 hr
      refine HT.exit ?_
      obtain rfl:=Option.some.inj hr
      exact Exists.intro _ ⟨rfl,hA,hF,h1⟩
  rintro R w ⟨s3,rfl,hA,hF,h1⟩
  have hr:=zDj hr
  refine HT.seq ?_
  refine HT.text (l:=⟨_,true,.raw (.int .i64 s3)⟩::⟨_,true,.raw (.int .i64 s3)⟩::[]) (tl:=[]) (by kernel_rfl) (by kernel_rfl) (by kernel_rfl) ?_ ?_
  · exact
      Obls.cons (Obl.plain rfl rfl fun R' w' hw hs hd=>by have a0:R' 1 = .int .i64 s3:=(hs 1 rfl).trans h1;exact zA5 a0) <|
      Obls.cons (Obl.plain rfl rfl fun R' w' hw hs hd=>by have a0:R' 48 = .int .i64 s3:=hd 0 _ _ _ rfl rfl rfl rfl rfl;exact zA6 a0) <|
      Obls.nil
  intro R w hw hs hF'
  have h4:R 4 = .int .i64 s3:=hF' 1 _ _ rfl rfl rfl
  replace hA:=hA.fr hw.size
  replace hF:=hF.trans hw
  clear hs hF' hw
  refine zA4 ?_
  refine HT.ret ?_
  obtain rfl:=Option.some.inj hr
  exact ⟨.inr rfl,[R 4],⟨rfl,trivial⟩,h4,hF⟩
def zBX (fu:Nat) (p0:zAR) (p1:Int):Option Int:=
  cl true (zBU fu p0.2 p1) fun x2=>
  bif (decide (x2 < (0 : Int))) then (
    some (-1:Int)
  ) else (
    some x2
  )
set_option maxRecDepth 100000 in
set_option maxHeartbeats 4000000 in
theorem zDa {fu : Nat} {A0 : Av} {p0 : zAR} {p1 : Int} {r : Int} (hr : zBX fu p0 p1 = some r) {w : World} {v0 : Value} {v1 : Value} (hA : AvOK A0 w) (h0 : Rep zA8 A0 w v0 p0) (h1 : v1 = .int .i64 p1) :
    Calls Try.prog 22 #[v0,v1] w fun e w'=>∃ v,e = .returned v∧(v = .int .i64 r∧Fr w w'):=by
  unfold zBX at hr
  obtain ⟨w0,hw0⟩:∃ w0,w0=w:=⟨_,rfl⟩
  have hF:Fr w0 w:=hw0 ▸ Fr.refl _
  have hA0:∀ b o,A0 b o→b<w0.heap.size:=fun b o h=>hw0 ▸ hA b o h
  have hA00:AvOK A0 w0:=hA0
  rw [show Fr w=Fr w0 from hw0 ▸ rfl]
  clear hw0
  obtain ⟨A,hAe⟩:∃ A,A=A0:=⟨_,rfl⟩
  have hAA:∀ b o,A0 b o→A b o:=fun b o h=>hAe ▸ h
  replace hA:AvOK A w:=hAe ▸ hA
  have hO:IniOK [] A w:=IniOK.nil
  refine zAI [.tmp 4] Try.func22 Try.ntmps22 (by decide) rfl rfl (Nat.le_of_ble_eq_true rfl) ?_
  intro R hR
  have f_v0:Rep zA8 A w v0 p0:=hAe ▸ h0
  replace h0:R 0=v0:=hR 0 _ rfl
  replace h1:R 1 = .int .i64 p1:=(hR 1 _ rfl).trans h1
  clear hR hAe
  refine HT.seq ?_
  refine HT.textR [] (⟨_,true,[],some (.box w0.heap.size 41 zA8 p0),true,fun A=>.any⟩::⟨_,true,[],none,true,fun A=>.raw (.int .i64 (0:Int))⟩::[]) (by kernel_rfl) (by kernel_rfl) (Wf.mk' (by kernel_rfl) (UAll.cons zAG (UAll.cons zAA (UAll.nil))) (by kernel_rfl) (by kernel_rfl)) hO hA ?_ ?_
  · exact
      zA9.cons (OblR.made _ rfl rfl rfl rfl fun A' R' w' ho hd=>by have a0:R' 0=v0:=(ho.old 0 rfl).trans h0;have ra0:=(f_v0.stp ho.stp).eq a0;exact zB9 ra0 (Nat.le_trans hF.size ho.ch.size)) <|
      zA9.cons (OblR.plain rfl rfl rfl rfl fun A' R' w' ho hd=>by exact zA6 rfl) <|
      zA9.nil
  intro done ρ σ A R w hdn hI
  replace h1:R 1 = .int .i64 p1:=(hI.reg rfl).trans h1
  obtain ⟨b2_0,e_b2_0⟩:=hI.boxv hdn 0 rfl rfl
  have h2:R 2=(.pointer (some ⟨b2_0,0,none⟩)):=(hI.opvR hdn 0 0 rfl rfl rfl rfl rfl).symm.trans e_b2_0
  replace hAA:=hI.low' hAA hA0 (hO.ge (trivial))
  replace hF:Fr w0 w:=hF.tr hI.ch (hO.ge (trivial))
  replace hO:IniOK [ob (.pointer (some ⟨b2_0,0,none⟩)) (.box w0.heap.size 41 zA8 p0)] A w:=hI.left hdn [(0,ob (.pointer (some ⟨b2_0,0,none⟩)) (.box w0.heap.size 41 zA8 p0))] ⟨rfl,rfl,e_b2_0,rfl,rfl,trivial⟩
  replace hA:=hI.avok
  clear hI
  refine HT.seq ?_
  obtain ⟨x2,q3,hr⟩:=zAK hr
  refine HT.text (l:=⟨_,true,.raw (.pointer (some ⟨b2_0,1,none⟩))⟩::⟨_,true,.rep (eSl zA0) A p0.2⟩::⟨_,true,.raw (.int .i64 p1)⟩::⟨_,true,.raw (.int .i64 x2)⟩::⟨_,true,.raw (.int .i64 x2)⟩::[]) (tl:=[]) (by kernel_rfl) (by kernel_rfl) (by kernel_rfl) ?_ ?_
  · exact
      Obls.cons (Obl.plain rfl rfl fun R' w' hw hs hd=>by have a0:R' 2=(.pointer (some ⟨b2_0,0,none⟩)):=(hs 2 rfl).trans h2;exact zAB a0 zEU Try.sizeOf39 (by decide) rfl) <|
      Obls.cons (Obl.plain rfl rfl fun R' w' hw hs hd=>by have a0:R' 5=(.pointer (some ⟨b2_0,1,none⟩)):=hd 0 _ _ _ rfl rfl rfl rfl rfl;exact (zAD ((hO.fr hw).ok 0 _ rfl).1 a0 zDQ rfl Try.isAgg39 Try.sizeOf39)) <|
      Obls.cons (Obl.plain rfl rfl fun R' w' hw hs hd=>by have a0:R' 1 = .int .i64 p1:=(hs 1 rfl).trans h1;exact zA5 a0) <|
      Obls.cons (Obl.plain rfl rfl fun R' w' hw hs hd=>by have a0:Rep (eSl zA0) A w' (R' 6) p0.2:=hd 0 _ _ _ rfl rfl rfl rfl rfl;have a1:R' 7 = .int .i64 p1:=hd 1 _ _ _ rfl rfl rfl rfl rfl;exact zAl Try.call48 (zE1 (q3 rfl) (hA.fr hw.size) a0 a1)) <|
      Obls.cons (Obl.plain rfl rfl fun R' w' hw hs hd=>by have a0:R' 8 = .int .i64 x2:=hd 0 _ _ _ rfl rfl rfl rfl rfl;exact zA6 a0) <|
      Obls.nil
  intro R w hw hs hF'
  have h1:R 1 = .int .i64 x2:=hF' 4 _ _ rfl rfl rfl
  replace hO:=hO.fr hw
  replace hO:IniOK [] A w:=hO.sub [] trivial
  replace hA:=hA.fr hw.size
  replace hF:=hF.trans hw
  clear hs hF' hw
  refine zA4 ?_
  refine HT.seq ?_
  refine HT.seq ?_
  refine HT.text (l:=⟨_,true,.raw (.int .i64 x2)⟩::⟨_,true,.raw (.bool (decide (x2<(0:Int))))⟩::[]) (tl:=[]) (by kernel_rfl) (by kernel_rfl) (by kernel_rfl) ?_ ?_
  · exact
      Obls.cons (Obl.plain rfl rfl fun R' w' hw hs hd=>by have a0:R' 1 = .int .i64 x2:=(hs 1 rfl).trans h1;exact zA5 a0) <|
      Obls.cons (Obl.plain rfl rfl fun R' w' hw hs hd=>by have a0:R' 9 = .int .i64 x2:=hd 0 _ _ _ rfl rfl rfl rfl rfl;exact zBI a0 rfl) <|
      Obls.nil
  intro R w hw hs hF'
  replace h1:R 1 = .int .i64 x2:=(hs 1 rfl).trans h1
  have h10:R 10 = .bool (decide (x2<(0:Int))):=hF' 1 _ _ rfl rfl rfl
  replace hO:=hO.fr hw
  replace hA:=hA.fr hw.size
  replace hF:=hF.trans hw
  clear hs hF' hw
  refine zA4 ?_
  refine HT.cond (decide (x2<(0:Int))) h10 (fun c4=>?_) (fun c4=>?_)
  · have hr := zAq c4 hr
    refine HT.seq ?_
    refine HT.text (l:=⟨_,true,.raw (.int .i64 (-1:Int))⟩::[]) (tl:=[]) (by kernel_rfl) (by kernel_rfl) (by kernel_rfl) ?_ ?_
    · exact
        Obls.cons (Obl.plain rfl rfl fun R' w' hw hs hd=>by exact zA6 rfl) <|
        Obls.nil
    intro R w hw hs hF'
    have h4:R 4 = .int .i64 (-1:Int):=hF' 0 _ _ rfl rfl rfl
    replace hO:=hO.fr hw
    replace hA:=hA.fr hw.size
    replace hF:=hF.trans hw
    clear hs hF' hw
    refine zA4 ?_
    refine HT.ret ?_
    obtain rfl:=Option.some.inj hr
    exact ⟨.inr rfl,[R 4],⟨rfl,trivial⟩,h4,hF⟩
  · have hr := zAp c4 hr
    refine HT.skip ?_
    refine HT.seq ?_
    refine HT.text (l:=⟨_,true,.raw (.int .i64 x2)⟩::⟨_,true,.raw (.int .i64 x2)⟩::[]) (tl:=[]) (by kernel_rfl) (by kernel_rfl) (by kernel_rfl) ?_ ?_
    · exact
        Obls.cons (Obl.plain rfl rfl fun R' w' hw hs hd=>by have a0:R' 1 = .int .i64 x2:=(hs 1 rfl).trans h1;exact zA5 a0) <|
        Obls.cons (Obl.plain rfl rfl fun R' w' hw hs hd=>by have a0:R' 11 = .int .i64 x2:=hd 0 _ _ _ rfl rfl rfl rfl rfl;exact zA6 a0) <|
        Obls.nil
    intro R w hw hs hF'
    have h4:R 4 = .int .i64 x2:=hF' 1 _ _ rfl rfl rfl
    replace hO:=hO.fr hw
    replace hA:=hA.fr hw.size
    replace hF:=hF.trans hw
    clear hs hF' hw
    refine zA4 ?_
    refine HT.ret ?_
    obtain rfl:=Option.some.inj hr
    exact ⟨.inr rfl,[R 4],⟨rfl,trivial⟩,h4,hF⟩
end Go.Proofs.Ytmkgocdgkdglnaa
namespace Go.Proofs.Ytmkgocdgkdglnaa
open Go.RowKit
set_option linter.unusedVariables false
def zBb (fu:Nat) (p0:zBo):Option Bool:=
  cl true (zCN fu p0 (1048576:Int)) fun x2=>
  bif (decide (x2 < (0 : Int))) then (
    some true
  ) else (
    cl true (zBG fu p0) fun x5=>
    cl true (zBQ fu x5) fun x7=>
    cl true (zBG fu p0) fun x12=>
    cl true (zBB fu x12) fun x20=>
    cl true (zBa fu x20.1 x7.1) fun x32=>
    bd ((!x32) || (x20.2 != x7.2)) fun x34=>
    bif x34 then (
      some false
    ) else (
      cl true (zBG fu p0) fun x39=>
      cl true (zC6 fu x12 x39) fun x41=>
      bif (!x41) then (
        some false
      ) else (
        cl true (zBt fu x12 (1:Int)) fun x46=>
        cl (true&&((decide (x46.1<(0:Int)))==false)) (zBa fu x20.1 x7.1) fun x56=>
        bd ((decide (x46.1<(0:Int))) || (!x56)) fun x58=>
        bd (x58 || (x20.2 != x7.2)) fun x60=>
        bif x60 then (
          some false
        ) else (
          cl true (zBs fu x20.1 (1:Int)) fun x65=>
          cl true (zBX fu x65.2 (1:Int)) fun x74=>
          bif (decide (x74 < (0 : Int))) then (
            some false
          ) else (
            bif (x74 != x65.1) then (
              some false
            ) else (
              cl true (zBG fu p0) fun x78=>
              cl true (zBB fu x78) fun x80=>
              cl true (zBa fu x80.1 x7.1) fun x87=>
              bd ((!x87) || (x80.2 != x7.2)) fun x89=>
              bif x89 then (
                some false
              ) else (
                cl true (zBX fu x65.2 (1:Int)) fun x92=>
                bif (decide (x92 < (0 : Int))) then (
                  some false
                ) else (
                  bif (x92 != x65.1) then (
                    some false
                  ) else (
                    some true
                  )
                )
              )
            )
          )
        )
      )
    )
  )
set_option maxRecDepth 100000 in
set_option maxHeartbeats 4000000 in
theorem zDf {fu : Nat} {A0 : Av} {p0 : zBo} {r : Bool} (hr : zBb fu p0 = some r) {w : World} {v0 : Value} (hA : AvOK A0 w) (h0 : Rep zAE A0 w v0 p0) :
    Calls Try.prog 5 #[v0] w fun e w'=>∃ v,e = .returned v∧(v = .bool r∧Fr w w'):=by
  unfold zBb at hr
  obtain ⟨w0,hw0⟩:∃ w0,w0=w:=⟨_,rfl⟩
  have hF:Fr w0 w:=hw0 ▸ Fr.refl _
  have hA0:∀ b o,A0 b o→b<w0.heap.size:=fun b o h=>hw0 ▸ hA b o h
  have hA00:AvOK A0 w0:=hA0
  rw [show Fr w=Fr w0 from hw0 ▸ rfl]
  clear hw0
  obtain ⟨A,hAe⟩:∃ A,A=A0:=⟨_,rfl⟩
  have hAA:∀ b o,A0 b o→A b o:=fun b o h=>hAe ▸ h
  replace hA:AvOK A w:=hAe ▸ hA
  have hO:IniOK [] A w:=IniOK.nil
  refine zAI [.tmp 2] Try.func5 Try.ntmps5 (by decide) rfl rfl (Nat.le_of_ble_eq_true rfl) ?_
  intro R hR
  have f_v0:Rep zAE A w v0 p0:=hAe ▸ h0
  replace h0:R 0=v0:=hR 0 _ rfl
  clear hR hAe
  refine HT.seq ?_
  refine HT.textR [] (⟨_,true,[],some (.box w0.heap.size 24 zAE p0),true,fun A=>.any⟩::⟨_,true,[],none,true,fun A=>.raw (.bool false)⟩::[]) (by kernel_rfl) (by kernel_rfl) (Wf.mk' (by kernel_rfl) (UAll.cons zAG (UAll.cons zAA (UAll.nil))) (by kernel_rfl) (by kernel_rfl)) hO hA ?_ ?_
  · exact
      zA9.cons (OblR.made _ rfl rfl rfl rfl fun A' R' w' ho hd=>by have a0:R' 0=v0:=(ho.old 0 rfl).trans h0;have ra0:=(f_v0.stp ho.stp).eq a0;exact zB9 ra0 (Nat.le_trans hF.size ho.ch.size)) <|
      zA9.cons (OblR.plain rfl rfl rfl rfl fun A' R' w' ho hd=>by exact zA6 rfl) <|
      zA9.nil
  intro done ρ σ A R w hdn hI
  obtain ⟨b1_0,e_b1_0⟩:=hI.boxv hdn 0 rfl rfl
  have h1:R 1=(.pointer (some ⟨b1_0,0,none⟩)):=(hI.opvR hdn 0 0 rfl rfl rfl rfl rfl).symm.trans e_b1_0
  replace hAA:=hI.low' hAA hA0 (hO.ge (trivial))
  replace hF:Fr w0 w:=hF.tr hI.ch (hO.ge (trivial))
  replace hO:IniOK [ob (.pointer (some ⟨b1_0,0,none⟩)) (.box w0.heap.size 24 zAE p0)] A w:=hI.left hdn [(0,ob (.pointer (some ⟨b1_0,0,none⟩)) (.box w0.heap.size 24 zAE p0))] ⟨rfl,rfl,e_b1_0,rfl,rfl,trivial⟩
  replace hA:=hI.avok
  clear hI
  refine HT.seq ?_
  refine HT.text (l:=⟨_,true,.raw (.int .i64 (1048576:Int))⟩::[]) (tl:=[]) (by kernel_rfl) (by kernel_rfl) (by kernel_rfl) ?_ ?_
  · exact
      Obls.cons (Obl.plain rfl rfl fun R' w' hw hs hd=>by exact zA6 rfl) <|
      Obls.nil
  intro R w hw hs hF'
  replace h1:R 1=(.pointer (some ⟨b1_0,0,none⟩)):=(hs 1 rfl).trans h1
  have h3:R 3 = .int .i64 (1048576:Int):=hF' 0 _ _ rfl rfl rfl
  replace hO:=hO.fr hw
  replace hA:=hA.fr hw.size
  replace hF:=hF.trans hw
  clear hs hF' hw
  refine zA4 ?_
  refine HT.seq ?_
  obtain ⟨x2,q3,hr⟩:=zAK hr
  refine HT.text (l:=⟨_,true,.rep zAE A p0⟩::⟨_,true,.raw (.int .i64 (1048576:Int))⟩::⟨_,true,.raw (.int .i64 x2)⟩::⟨_,true,.raw (.int .i64 x2)⟩::[]) (tl:=[]) (by kernel_rfl) (by kernel_rfl) (by kernel_rfl) ?_ ?_
  · exact
      Obls.cons (Obl.plain rfl rfl fun R' w' hw hs hd=>by have a0:R' 1=(.pointer (some ⟨b1_0,0,none⟩)):=(hs 1 rfl).trans h1;exact (zAD ((hO.fr hw).ok 0 _ rfl).1 a0 (Fld.id _) rfl Try.isAgg24 Try.sizeOf24)) <|
      Obls.cons (Obl.plain rfl rfl fun R' w' hw hs hd=>by have a0:R' 3 = .int .i64 (1048576:Int):=(hs 3 rfl).trans h3;exact zA5 a0) <|
      Obls.cons (Obl.plain rfl rfl fun R' w' hw hs hd=>by have a0:Rep zAE A w' (R' 14) p0:=hd 0 _ _ _ rfl rfl rfl rfl rfl;have a1:R' 15 = .int .i64 (1048576:Int):=hd 1 _ _ _ rfl rfl rfl rfl rfl;exact zAl Try.call7 (zFE (q3 rfl) (hA.fr hw.size) a0 a1)) <|
      Obls.cons (Obl.plain rfl rfl fun R' w' hw hs hd=>by have a0:R' 16 = .int .i64 x2:=hd 0 _ _ _ rfl rfl rfl rfl rfl;exact zA6 a0) <|
      Obls.nil
  intro R w hw hs hF'
  replace h1:R 1=(.pointer (some ⟨b1_0,0,none⟩)):=(hs 1 rfl).trans h1
  have h3:R 3 = .int .i64 x2:=hF' 3 _ _ rfl rfl rfl
  replace hO:=hO.fr hw
  replace hA:=hA.fr hw.size
  replace hF:=hF.trans hw
  clear hs hF' hw
  refine zA4 ?_
  refine HT.seq ?_
  refine HT.seq ?_
  refine HT.text (l:=⟨_,true,.raw (.int .i64 x2)⟩::⟨_,true,.raw (.bool (decide (x2<(0:Int))))⟩::[]) (tl:=[]) (by kernel_rfl) (by kernel_rfl) (by kernel_rfl) ?_ ?_
  · exact
      Obls.cons (Obl.plain rfl rfl fun R' w' hw hs hd=>by have a0:R' 3 = .int .i64 x2:=(hs 3 rfl).trans h3;exact zA5 a0) <|
      Obls.cons (Obl.plain rfl rfl fun R' w' hw hs hd=>by have a0:R' 17 = .int .i64 x2:=hd 0 _ _ _ rfl rfl rfl rfl rfl;exact zBI a0 rfl) <|
      Obls.nil
  intro R w hw hs hF'
  replace h1:R 1=(.pointer (some ⟨b1_0,0,none⟩)):=(hs 1 rfl).trans h1
  have h18:R 18 = .bool (decide (x2<(0:Int))):=hF' 1 _ _ rfl rfl rfl
  replace hO:=hO.fr hw
  replace hA:=hA.fr hw.size
  replace hF:=hF.trans hw
  clear hs hF' hw
  refine zA4 ?_
  refine HT.cond (decide (x2<(0:Int))) h18 (fun c4=>?_) (fun c4=>?_)
  · have hr := zAq c4 hr
    refine HT.seq ?_
    refine HT.text (l:=⟨_,true,.raw (.bool true)⟩::[]) (tl:=[]) (by kernel_rfl) (by kernel_rfl) (by kernel_rfl) ?_ ?_
    · exact
        Obls.cons (Obl.plain rfl rfl fun R' w' hw hs hd=>by exact zA6 rfl) <|
        Obls.nil
    intro R w hw hs hF'
    have h2:R 2 = .bool true:=hF' 0 _ _ rfl rfl rfl
    replace hO:=hO.fr hw
    replace hO:IniOK [] A w:=hO.sub [] trivial
    replace hA:=hA.fr hw.size
    replace hF:=hF.trans hw
    clear hs hF' hw
    refine zA4 ?_
    refine HT.ret ?_
    obtain rfl:=Option.some.inj hr
    exact ⟨.inr rfl,[R 2],⟨rfl,trivial⟩,h2,hF⟩
  · have hr := zAp c4 hr
    refine HT.skip ?_
    refine HT.seq ?_
    obtain ⟨x5,q6,hr⟩:=zAK hr
    obtain ⟨x7,q8,hr⟩:=zAK hr
    refine HT.textR [ob (.pointer (some ⟨b1_0,0,none⟩)) (.box w0.heap.size 24 zAE p0)] (⟨_,true,[],none,true,fun A=>.rep zAE A p0⟩::⟨_,true,[],none,true,fun A=>.rep zA2 A x5⟩::⟨_,true,[],none,true,fun A=>.tup2 (.rep zA8 A x7.1) (.raw (.bool x7.2))⟩::⟨_,true,[],none,true,fun A=>.tup2 (.rep zA8 A x7.1) (.raw (.bool x7.2))⟩::⟨_,true,[],none,true,fun A=>.rep zA8 A x7.1⟩::⟨_,true,[],none,true,fun A=>.raw (.bool x7.2)⟩::⟨_,true,[],some (.box w0.heap.size 41 zA8 ((0:Int),([]:List zA3))),true,fun A=>.any⟩::⟨_,true,[7],some (.box w0.heap.size 41 zA8 x7.1),false,fun A=>.any⟩::⟨_,true,[],none,true,fun A=>.raw (.bool x7.2)⟩::[]) (by kernel_rfl) (by kernel_rfl) (Wf.mk' (by kernel_rfl) (UAll.cons zAn (UAll.cons zAn (UAll.cons (zEx zAn zAA) (UAll.cons (zEx zAn zAA) (UAll.cons zAn (UAll.cons zAA (UAll.cons zAG (UAll.cons zAG (UAll.cons zAA (UAll.nil)))))))))) (by kernel_rfl) (by kernel_rfl)) hO hA ?_ ?_
    · exact
        zA9.cons (OblR.plain rfl rfl rfl rfl fun A' R' w' ho hd=>by have a0:R' 1=(.pointer (some ⟨b1_0,0,none⟩)):=(ho.old 1 rfl).trans h1;exact (zAD (ho.rd 0 _ rfl rfl) a0 (Fld.id _) rfl Try.isAgg24 Try.sizeOf24)) <|
        zA9.cons (OblR.plain rfl rfl rfl rfl fun A' R' w' ho hd=>by have a0:Rep zAE A' w' (R' 20) p0:=hd 0 _ _ _ rfl rfl rfl rfl rfl;exact zAl Try.call9 (zCn (q6 rfl) ho.av a0)) <|
        zA9.cons (OblR.plain rfl rfl rfl rfl fun A' R' w' ho hd=>by have a0:Rep zA2 A' w' (R' 21) x5:=hd 0 _ _ _ rfl rfl rfl rfl rfl;exact zAl Try.call18 (zEY (q8 rfl) ho.av a0)) <|
        zA9.cons (OblR.plain rfl rfl rfl rfl fun A' R' w' ho hd=>by have a0:Fact.ok (.tup2 (.rep zA8 A' x7.1) (.raw (.bool x7.2))) (R' 22) w':=hd 0 _ _ _ rfl rfl rfl rfl rfl;exact zA5 a0) <|
        zA9.cons (OblR.plain rfl rfl rfl rfl fun A' R' w' ho hd=>by have a0:Fact.ok (.tup2 (.rep zA8 A' x7.1) (.raw (.bool x7.2))) (R' 19) w':=hd 0 _ _ _ rfl rfl rfl rfl rfl;exact zEW a0) <|
        zA9.cons (OblR.plain rfl rfl rfl rfl fun A' R' w' ho hd=>by have a0:Fact.ok (.tup2 (.rep zA8 A' x7.1) (.raw (.bool x7.2))) (R' 19) w':=hd 0 _ _ _ rfl rfl rfl rfl rfl;exact zEM a0) <|
        zA9.cons (OblR.made _ rfl rfl rfl rfl fun A' R' w' ho hd=>by exact zC5 Try.zeroValue41 (fun A w=>zBr zAe zE7) (Nat.le_trans hF.size ho.ch.size)) <|
        zA9.cons (OblR.took 7 _ _ rfl rfl rfl rfl rfl fun A' R' w' ho hd u hok hav hin hop hds=>by have a1:Rep zA8 A' w' (R' 23) x7.1:=hd 1 _ _ _ rfl rfl rfl rfl rfl;obtain ⟨b,hb,hB',hbx⟩:=hok;have hop':=hop _ _ rfl rfl rfl rfl;exact zBY a1 (hop'.symm.trans hb) hb ⟨b,hb,hB',hbx⟩ hav (FldS.id _) Try.sizeOf41 rfl) <|
        zA9.cons (OblR.plain rfl rfl rfl rfl fun A' R' w' ho hd=>by have a0:R' 24 = .bool x7.2:=hd 0 _ _ _ rfl rfl rfl rfl rfl;exact zA6 a0) <|
        zA9.nil
    intro done ρ σ A R w hdn hI
    replace h1:R 1=(.pointer (some ⟨b1_0,0,none⟩)):=(hI.reg rfl).trans h1
    have z9:=hI.inivR 0 rfl
    obtain ⟨b4_9,e_b4_9⟩:=hI.boxv hdn 8 rfl rfl
    have z11:=(hI.opnR hdn 8 7 rfl rfl rfl rfl rfl).symm.trans e_b4_9
    have h4:R 4=(.pointer (some ⟨b4_9,0,none⟩)):=(hI.opvR hdn 7 6 rfl rfl rfl rfl rfl).symm.trans z11
    have h5:R 5 = .bool x7.2:=hI.fact hdn (i:=8) rfl rfl rfl
    replace hAA:=hI.low' hAA hA0 (hO.ge (⟨rfl,trivial⟩))
    replace hF:Fr w0 w:=hF.tr hI.ch (hO.ge (⟨rfl,trivial⟩))
    replace hO:IniOK [ob (.pointer (some ⟨b1_0,0,none⟩)) (.box w0.heap.size 24 zAE p0),ob (.pointer (some ⟨b4_9,0,none⟩)) (.box w0.heap.size 41 zA8 x7.1)] A w:=hI.left hdn [(0,ob (.pointer (some ⟨b1_0,0,none⟩)) (.box w0.heap.size 24 zAE p0)),(8,ob (.pointer (some ⟨b4_9,0,none⟩)) (.box w0.heap.size 41 zA8 x7.1))] ⟨rfl,rfl,z9,rfl,rfl,⟨rfl,rfl,e_b4_9,rfl,rfl,trivial⟩⟩
    replace hA:=hI.avok
    clear hI
    refine HT.seq ?_
    obtain ⟨x12,q13,hr⟩:=zAK hr
    refine HT.textR [ob (.pointer (some ⟨b1_0,0,none⟩)) (.box w0.heap.size 24 zAE p0),ob (.pointer (some ⟨b4_9,0,none⟩)) (.box w0.heap.size 41 zA8 x7.1)] (⟨_,true,[],none,true,fun A=>.rep zAE A p0⟩::⟨_,true,[],some (trR (geB w0.heap.size) (oBx (oSl 79 (oBx (oSl 82 (oRd zA1))))) x12 []),true,fun A=>.any⟩::⟨_,true,[],some (trR (geB w0.heap.size) (oPt 29 (oBx (oSl 79 (oBx (oSl 82 (oRd zA1)))))) ([]:List zAO) []),true,fun A=>.any⟩::⟨_,true,[4,3],some (trR (geB w0.heap.size) (oPt 29 (oBx (oSl 79 (oBx (oSl 82 (oRd zA1)))))) x12 []),false,fun A=>.any⟩::[]) (by kernel_rfl) (by kernel_rfl) (Wf.mk' (by kernel_rfl) (UAll.cons zAn (UAll.cons zAG (UAll.cons zAG (UAll.cons zAG (UAll.nil))))) (by kernel_rfl) (by kernel_rfl)) hO hA ?_ ?_
    · exact
        zA9.cons (OblR.plain rfl rfl rfl rfl fun A' R' w' ho hd=>by have a0:R' 1=(.pointer (some ⟨b1_0,0,none⟩)):=(ho.old 1 rfl).trans h1;exact (zAD (ho.rd 0 _ rfl rfl) a0 (Fld.id _) rfl Try.isAgg24 Try.sizeOf24)) <|
        zA9.cons (OblR.madeS _ rfl rfl rfl rfl fun A' R' w' ho hd=>by have a0:Rep zAE A' w' (R' 25) p0:=hd 0 _ _ _ rfl rfl rfl rfl rfl;exact zFs Try.call9 (zDq (q13 rfl) ho.av a0) (fun k hk=>Nat.le_trans (Nat.le_trans hF.size ho.ch.size) hk)) <|
        zA9.cons (OblR.madeS _ rfl rfl rfl rfl fun A' R' w' ho hd=>by exact zCU Try.zeroValue29 (fun A w=>zDg) (fun k hk=>Nat.le_trans (Nat.le_trans hF.size ho.ch.size) hk)) <|
        zA9.cons (OblR.tookM 4 [3] _ rfl rfl rfl rfl fun A' R' w' ho hd ρ σ hok hav hin hop hds hdd=>by have k1:=hok 4 (.head _) _ rfl;exact zCu rfl (zAJ k1.2.2).ptr (hok 3 (.tail _ (.head _)) _ rfl).2.2.1 (hop 3 (.tail _ (.head _)) _ _ rfl rfl rfl rfl).symm (hop 4 (.head _) _ _ rfl rfl rfl rfl).symm hav hdd k1.2.1 (hok 3 (.tail _ (.head _)) _ rfl).2.1 Try.sizeOf29 (fun _ _ _ h=>h)) <|
        zA9.nil
    intro done ρ σ A R w hdn hI
    replace h1:R 1=(.pointer (some ⟨b1_0,0,none⟩)):=(hI.reg rfl).trans h1
    replace h4:R 4=(.pointer (some ⟨b4_9,0,none⟩)):=(hI.reg rfl).trans h4
    replace h5:R 5 = .bool x7.2:=(hI.reg rfl).trans h5
    have z14:=hI.inivR 0 rfl
    have z15:=hI.inivR 1 rfl
    obtain ⟨u16,e_u16⟩:∃ u,ρ 5=u:=⟨_,rfl⟩
    have z17:=(hI.opnR hdn 5 3 rfl rfl rfl rfl rfl).symm.trans e_u16
    have h6:R 6=u16:=(hI.opvR hdn 4 2 rfl rfl rfl rfl rfl).symm.trans z17
    obtain ⟨S18,eS_u16⟩:∃ S,σ 5=S:=⟨_,rfl⟩
    replace hAA:=hI.low' hAA hA0 (hO.ge (⟨rfl,⟨rfl,trivial⟩⟩))
    replace hF:Fr w0 w:=hF.tr hI.ch (hO.ge (⟨rfl,⟨rfl,trivial⟩⟩))
    replace hO:IniOK [ob (.pointer (some ⟨b1_0,0,none⟩)) (.box w0.heap.size 24 zAE p0),ob (.pointer (some ⟨b4_9,0,none⟩)) (.box w0.heap.size 41 zA8 x7.1),⟨u16,S18,trR (geB w0.heap.size) (oPt 29 (oBx (oSl 79 (oBx (oSl 82 (oRd zA1)))))) x12 []⟩] A w:=hI.left hdn [(0,ob (.pointer (some ⟨b1_0,0,none⟩)) (.box w0.heap.size 24 zAE p0)),(1,ob (.pointer (some ⟨b4_9,0,none⟩)) (.box w0.heap.size 41 zA8 x7.1)),(5,⟨u16,S18,trR (geB w0.heap.size) (oPt 29 (oBx (oSl 79 (oBx (oSl 82 (oRd zA1)))))) x12 []⟩)] ⟨rfl,rfl,z14,rfl,rfl,⟨rfl,rfl,z15,rfl,rfl,⟨rfl,rfl,e_u16,eS_u16,rfl,trivial⟩⟩⟩
    replace hA:=hI.avok
    clear hI
    refine HT.seq ?_
    refine SG.of ?_
    refine SG.op 28 rfl rfl rfl rfl (zJZ (A0:=A0) (hO.own 2 _ rfl).2 h6 hAA (fun k o hk ha=>Nat.not_lt.2 ((hO.own 2 _ rfl).1 k hk) (hA0 k o ha)) Try.isAgg29 Try.sizeOf29) ?_
    rintro u19 w1 ⟨hw_,f_u19⟩ R hs hd
    obtain rfl:w=w1:=hw_.symm
    have hst:Stp A A w w:=(Fr.refl w).stp A
    replace h1:R 1=(.pointer (some ⟨b1_0,0,none⟩)):=(hs 1 rfl).trans h1
    replace h4:R 4=(.pointer (some ⟨b4_9,0,none⟩)):=(hs 4 rfl).trans h4
    replace h5:R 5 = .bool x7.2:=(hs 5 rfl).trans h5
    replace h6:R 6=u16:=(hs 6 rfl).trans h6
    have h28:R 28=u19:=hd
    clear hs hd hst
    obtain ⟨x20,q21,hr⟩:=zAK hr
    have hFz:w0.heap.size≤w.heap.size:=hF.size
    refine SG.op 29 rfl rfl rfl rfl (zHK Try.call19 (zDL (q21 rfl) (hA00.fr hF.size) (f_u19.eq h28))) ?_
    rintro v_ w ⟨u22,S23,A1,hG1,hv⟩ R hs hd
    obtain ⟨A,hA2,hO2,hst,hA3⟩:=GPost.next0P hO hA hG1 ⟨zJn (zLp (zJh (fun _ _ _ _ _ h=>h)) (zLY (zJh (fun _ _ _ _ _ h=>h)))),trivial⟩
    replace hO:=hO2
    replace hA:=hA3
    replace hAA:∀ b o,A0 b o→A b o:=fun b o h=>hA2 b o (hAA b o h)
    replace hF:Fr w0 w:=hF.trans hG1.ch.no
    replace hO:=hO.reK (K':=geB w0.heap.size) 0 rfl (fun k hk=>Nat.le_trans hFz hk)
    replace hO:IniOK [⟨u22,S23,trR (geB w0.heap.size) (oPr (oRd (eInt .i64)) (oSl 99 (oRd zA0))) x20.1 []⟩,ob (.pointer (some ⟨b1_0,0,none⟩)) (.box w0.heap.size 24 zAE p0),ob (.pointer (some ⟨b4_9,0,none⟩)) (.box w0.heap.size 41 zA8 x7.1),⟨u16,S18,trR (geB w0.heap.size) (oPt 29 (oBx (oSl 79 (oBx (oSl 82 (oRd zA1)))))) x12 []⟩] A w:=hO
    replace h1:R 1=(.pointer (some ⟨b1_0,0,none⟩)):=(hs 1 rfl).trans h1
    replace h4:R 4=(.pointer (some ⟨b4_9,0,none⟩)):=(hs 4 rfl).trans h4
    replace h5:R 5 = .bool x7.2:=(hs 5 rfl).trans h5
    replace h6:R 6=u16:=(hs 6 rfl).trans h6
    have h29:Fact.ok (.tup2 (.raw u22) (.raw (.bool x20.2))) (R 29) w:=hd ▸ hv
    clear hFz hG1 hv hs hd
    refine SG.textR [⟨u22,S23,trR (geB w0.heap.size) (oPr (oRd (eInt .i64)) (oSl 99 (oRd zA0))) x20.1 []⟩,ob (.pointer (some ⟨b1_0,0,none⟩)) (.box w0.heap.size 24 zAE p0),ob (.pointer (some ⟨b4_9,0,none⟩)) (.box w0.heap.size 41 zA8 x7.1),⟨u16,S18,trR (geB w0.heap.size) (oPt 29 (oBx (oSl 79 (oBx (oSl 82 (oRd zA1)))))) x12 []⟩] (⟨_,true,[],none,true,fun A=>.any⟩::⟨_,true,[],none,true,fun A=>.tup2 (.raw u22) (.raw (.bool x20.2))⟩::⟨_,true,[],none,true,fun A=>.tup2 (.raw u22) (.raw (.bool x20.2))⟩::⟨_,true,[],none,true,fun A=>.raw u22⟩::⟨_,true,[],none,true,fun A=>.raw (.bool x20.2)⟩::⟨_,true,[],some (trR (geB w0.heap.size) (oPt 41 (oPr (oRd (eInt .i64)) (oSl 99 (oRd zA0)))) ((0:Int),([]:List zA3)) []),true,fun A=>.any⟩::⟨_,true,[9,0],some (trR (geB w0.heap.size) (oPt 41 (oPr (oRd (eInt .i64)) (oSl 99 (oRd zA0)))) x20.1 []),false,fun A=>.any⟩::⟨_,true,[],none,true,fun A=>.raw (.bool x20.2)⟩::[]) 8 rfl rfl rfl (by kernel_rfl) (by kernel_rfl) (Wf.mk' (by kernel_rfl) (UAll.cons zAG (UAll.cons (zEx zAA zAA) (UAll.cons (zEx zAA zAA) (UAll.cons zAA (UAll.cons zAA (UAll.cons zAG (UAll.cons zAG (UAll.cons zAA (UAll.nil))))))))) (by kernel_rfl) (by kernel_rfl)) hO hA (⟨⟨rfl,rfl,rfl,trivial⟩,⟨⟨rfl,rfl,rfl,h29⟩,trivial⟩⟩) ?_ ?_
    · exact
        zA9.cons (OblR.plain rfl rfl rfl rfl fun A' R' w' ho hd=>by have a0:Fact.ok (.tup2 (.raw u22) (.raw (.bool x20.2))) (R' 29) w':=hd 0 _ _ _ rfl rfl rfl rfl rfl;exact zA5 a0) <|
        zA9.cons (OblR.plain rfl rfl rfl rfl fun A' R' w' ho hd=>by have a0:Fact.ok (.tup2 (.raw u22) (.raw (.bool x20.2))) (R' 27) w':=hd 0 _ _ _ rfl rfl rfl rfl rfl;exact zEW a0) <|
        zA9.cons (OblR.plain rfl rfl rfl rfl fun A' R' w' ho hd=>by have a0:Fact.ok (.tup2 (.raw u22) (.raw (.bool x20.2))) (R' 27) w':=hd 0 _ _ _ rfl rfl rfl rfl rfl;exact zEM a0) <|
        zA9.cons (OblR.madeS _ rfl rfl rfl rfl fun A' R' w' ho hd=>by exact zCU Try.zeroValue41 (fun A w=>zHy (zFz zAe) zDg) (fun k hk=>Nat.le_trans (Nat.le_trans hF.size ho.ch.size) hk)) <|
        zA9.cons (OblR.tookM 9 [0] _ rfl rfl rfl rfl fun A' R' w' ho hd ρ σ hok hav hin hop hds hdd=>by have a1:R' 30=u22:=hd 1 _ _ _ rfl rfl rfl rfl rfl;have k1:=hok 9 (.head _) _ rfl;exact zCu rfl (zAJ k1.2.2).ptr (hok 0 (.tail _ (.head _)) _ rfl).2.2.1 (a1.trans (hin 0 (.tail _ (.head _)) _ rfl).1.symm) (hop 9 (.head _) _ _ rfl rfl rfl rfl).symm hav hdd k1.2.1 (hok 0 (.tail _ (.head _)) _ rfl).2.1 Try.sizeOf41 (fun _ _ _ h=>h)) <|
        zA9.cons (OblR.plain rfl rfl rfl rfl fun A' R' w' ho hd=>by have a0:R' 31 = .bool x20.2:=hd 0 _ _ _ rfl rfl rfl rfl rfl;exact zA6 a0) <|
        zA9.nil
    intro done ρ σ A R w hdn hI
    replace h1:R 1=(.pointer (some ⟨b1_0,0,none⟩)):=(hI.reg rfl).trans h1
    replace h4:R 4=(.pointer (some ⟨b4_9,0,none⟩)):=(hI.reg rfl).trans h4
    replace h5:R 5 = .bool x7.2:=(hI.reg rfl).trans h5
    replace h6:R 6=u16:=(hI.reg rfl).trans h6
    have z24:=hI.inivR 1 rfl
    have z25:=hI.inivR 2 rfl
    have z26:=hI.inivR 3 rfl
    obtain ⟨u27,e_u27⟩:∃ u,ρ 10=u:=⟨_,rfl⟩
    have z28:=(hI.opnR hdn 10 6 rfl rfl rfl rfl rfl).symm.trans e_u27
    have h7:R 7=u27:=(hI.opvR hdn 9 5 rfl rfl rfl rfl rfl).symm.trans z28
    have eS_u16:=hI.inisR 3 rfl
    obtain ⟨S29,eS_u27⟩:∃ S,σ 10=S:=⟨_,rfl⟩
    have h8:R 8 = .bool x20.2:=hI.fact hdn (i:=7) rfl rfl rfl
    replace hAA:=hI.low' hAA hA0 (hO.ge (⟨fun _ h=>h,⟨rfl,⟨rfl,⟨fun _ h=>h,trivial⟩⟩⟩⟩))
    replace hF:Fr w0 w:=hF.tr hI.ch (hO.ge (⟨fun _ h=>h,⟨rfl,⟨rfl,⟨fun _ h=>h,trivial⟩⟩⟩⟩))
    replace hO:IniOK [ob (.pointer (some ⟨b1_0,0,none⟩)) (.box w0.heap.size 24 zAE p0),ob (.pointer (some ⟨b4_9,0,none⟩)) (.box w0.heap.size 41 zA8 x7.1),⟨u16,S18,trR (geB w0.heap.size) (oPt 29 (oBx (oSl 79 (oBx (oSl 82 (oRd zA1)))))) x12 []⟩,⟨u27,S29,trR (geB w0.heap.size) (oPt 41 (oPr (oRd (eInt .i64)) (oSl 99 (oRd zA0)))) x20.1 []⟩] A w:=hI.left hdn [(1,ob (.pointer (some ⟨b1_0,0,none⟩)) (.box w0.heap.size 24 zAE p0)),(2,ob (.pointer (some ⟨b4_9,0,none⟩)) (.box w0.heap.size 41 zA8 x7.1)),(3,⟨u16,S18,trR (geB w0.heap.size) (oPt 29 (oBx (oSl 79 (oBx (oSl 82 (oRd zA1)))))) x12 []⟩),(10,⟨u27,S29,trR (geB w0.heap.size) (oPt 41 (oPr (oRd (eInt .i64)) (oSl 99 (oRd zA0)))) x20.1 []⟩)] ⟨rfl,rfl,z24,rfl,rfl,⟨rfl,rfl,z25,rfl,rfl,⟨rfl,rfl,z26,eS_u16,rfl,⟨rfl,rfl,e_u27,eS_u27,rfl,trivial⟩⟩⟩⟩
    replace hA:=hI.avok
    clear hI
    refine SG.fin rfl ?_
    refine HT.seq ?_
    refine HT.seq ?_
    obtain ⟨h30,l_h30,p_h30⟩:=((zAJ (hO.own 3 _ rfl).2).ptr).open
    replace hO:IniOK [ob (.pointer (some ⟨b1_0,0,none⟩)) (.box w0.heap.size 24 zAE p0),ob (.pointer (some ⟨b4_9,0,none⟩)) (.box w0.heap.size 41 zA8 x7.1),⟨u16,S18,trR (geB w0.heap.size) (oPt 29 (oBx (oSl 79 (oBx (oSl 82 (oRd zA1)))))) x12 []⟩,⟨u27,S29,trR (geB w0.heap.size) (oPt 41 (oPr (oRd (eInt .i64)) (oSl 99 (oRd zA0)))) x20.1 [(u27,h30)]⟩] A w:=hO.repin 3 rfl (trP.pin p_h30)
    obtain ⟨x32,q33,hr⟩:=zAK hr
    obtain ⟨x34,q35,hr⟩:=zC9 hr
    refine HT.text (l:=⟨_,true,.raw (Enc.val zA8 h30)⟩::⟨_,true,.rep zA8 A x7.1⟩::⟨_,true,.raw (.bool x32)⟩::⟨_,true,.raw (.bool (!x32))⟩::⟨_,true,.raw (.bool (!x32))⟩::⟨_,(true&&((!x32)==false)),.raw (.bool x20.2)⟩::⟨_,(true&&((!x32)==false)),.raw (.bool x7.2)⟩::⟨_,(true&&((!x32)==false)),.raw (.bool (x20.2 != x7.2))⟩::⟨_,true,.raw (.bool x34)⟩::[]) (tl:=[]) (by kernel_rfl) (by kernel_rfl) (by kernel_rfl) ?_ ?_
    · exact
        Obls.cons (Obl.plain rfl rfl fun R' w' hw hs hd=>by have a0:R' 7=u27:=(hs 7 rfl).trans h7;exact zD6 (F:=oPr (oRd (eInt .i64)) (oSl 99 (oRd zA0))) (((hO.fr hw).own 3 _ rfl).2.2 _ (.head _)) l_h30 a0 Try.isAgg41 Try.sizeOf41) <|
        Obls.cons (Obl.plain rfl rfl fun R' w' hw hs hd=>by have a0:R' 4=(.pointer (some ⟨b4_9,0,none⟩)):=(hs 4 rfl).trans h4;exact (zAD ((hO.fr hw).ok 1 _ rfl).1 a0 (Fld.id _) rfl Try.isAgg41 Try.sizeOf41)) <|
        Obls.cons (Obl.plain rfl rfl fun R' w' hw hs hd=>by have a0:R' 32=(Enc.val zA8 h30):=hd 0 _ _ _ rfl rfl rfl rfl rfl;have ra0:Rep zA8 A0 w' (R' 32) _:=(zII (((zAJ ((hO.fr hw).own 3 _ rfl).2).ptr).pinS (((hO.fr hw).own 3 _ rfl).2.2 _ (.head _)) l_h30) hAA (fun k o hk ha=>Nat.not_lt.2 (((hO.fr hw).own 3 _ rfl).1 k hk) (hA0 k o ha))).eq a0;have a1:Rep zA8 A w' (R' 33) x7.1:=hd 1 _ _ _ rfl rfl rfl rfl rfl;exact zAl Try.call20 (zD1 (q33 rfl) (hA00.fr ((Nat.le_trans hF.size hw.size))) ra0 (a1.down hAA))) <|
        Obls.cons (Obl.plain rfl rfl fun R' w' hw hs hd=>by have a0:R' 34 = .bool x32:=hd 0 _ _ _ rfl rfl rfl rfl rfl;exact zD7 a0) <|
        Obls.cons (Obl.plain rfl rfl fun R' w' hw hs hd=>by have a0:R' 35 = .bool (!x32):=hd 0 _ _ _ rfl rfl rfl rfl rfl;exact zA5 a0) <|
        Obls.cons (Obl.grd 4 false _ _ _ rfl rfl rfl rfl rfl (by kernel_rfl) fun hg R' w' hw hs hd=>by have a0:R' 8 = .bool x20.2:=(hs 8 rfl).trans h8;exact zA5 a0) <|
        Obls.cons (Obl.grd 4 false _ _ _ rfl rfl rfl rfl rfl (by kernel_rfl) fun hg R' w' hw hs hd=>by have a0:R' 5 = .bool x7.2:=(hs 5 rfl).trans h5;exact zA5 a0) <|
        Obls.cons (Obl.grd 4 false _ _ _ rfl rfl rfl rfl rfl (by kernel_rfl) fun hg R' w' hw hs hd=>by have a0:R' 37 = .bool x20.2:=hd 0 _ _ _ rfl rfl rfl rfl hg;have a1:R' 38 = .bool x7.2:=hd 1 _ _ _ rfl rfl rfl rfl hg;exact zGQ Try.underlying4 a0 a1) <|
        Obls.cons (Obl.plain rfl rfl fun R' w' hw hs hd=>by have a0:R' 36 = .bool (!x32):=hd 0 _ _ _ rfl rfl rfl rfl rfl;exact zCf (!x32) a0 (fun hc=>by show _=Value.bool x34;rw [q35,hc];exact rfl) (fun hc=>by have a2:R' 39 = .bool (x20.2 != x7.2):=hd 1 _ _ _ rfl rfl rfl rfl (zEq rfl (zDd hc));show _=Value.bool x34;rw [q35,hc];exact a2)) <|
        Obls.nil
    intro R w hw hs hF'
    replace h1:R 1=(.pointer (some ⟨b1_0,0,none⟩)):=(hs 1 rfl).trans h1
    replace h4:R 4=(.pointer (some ⟨b4_9,0,none⟩)):=(hs 4 rfl).trans h4
    replace h5:R 5 = .bool x7.2:=(hs 5 rfl).trans h5
    replace h6:R 6=u16:=(hs 6 rfl).trans h6
    replace h7:R 7=u27:=(hs 7 rfl).trans h7
    replace h8:R 8 = .bool x20.2:=(hs 8 rfl).trans h8
    have h40:R 40 = .bool x34:=hF' 8 _ _ rfl rfl rfl
    replace hO:=hO.fr hw
    replace hA:=hA.fr hw.size
    replace hF:=hF.trans hw
    clear hs hF' hw
    refine zA4 ?_
    replace hO:IniOK [ob (.pointer (some ⟨b1_0,0,none⟩)) (.box w0.heap.size 24 zAE p0),ob (.pointer (some ⟨b4_9,0,none⟩)) (.box w0.heap.size 41 zA8 x7.1),⟨u16,S18,trR (geB w0.heap.size) (oPt 29 (oBx (oSl 79 (oBx (oSl 82 (oRd zA1)))))) x12 []⟩,⟨u27,S29,trR (geB w0.heap.size) (oPt 41 (oPr (oRd (eInt .i64)) (oSl 99 (oRd zA0)))) x20.1 []⟩] A w:=hO.repin 3 rfl trP.nopin
    refine HT.cond x34 h40 (fun c36=>?_) (fun c36=>?_)
    · have hr := zAq c36 hr
      refine HT.seq ?_
      refine HT.text (l:=⟨_,true,.raw (.bool false)⟩::[]) (tl:=[]) (by kernel_rfl) (by kernel_rfl) (by kernel_rfl) ?_ ?_
      · exact
          Obls.cons (Obl.plain rfl rfl fun R' w' hw hs hd=>by exact zA6 rfl) <|
          Obls.nil
      intro R w hw hs hF'
      have h2:R 2 = .bool false:=hF' 0 _ _ rfl rfl rfl
      replace hO:=hO.fr hw
      replace hO:IniOK [] A w:=hO.sub [] trivial
      replace hA:=hA.fr hw.size
      replace hF:=hF.trans hw
      clear hs hF' hw
      refine zA4 ?_
      refine HT.ret ?_
      obtain rfl:=Option.some.inj hr
      exact ⟨.inr rfl,[R 2],⟨rfl,trivial⟩,h2,hF⟩
    · have hr := zAp c36 hr
      refine HT.skip ?_
      refine HT.seq ?_
      refine HT.seq ?_
      obtain ⟨h37,l_h37,p_h37⟩:=((zAJ (hO.own 2 _ rfl).2).ptr).open
      replace hO:IniOK [ob (.pointer (some ⟨b1_0,0,none⟩)) (.box w0.heap.size 24 zAE p0),ob (.pointer (some ⟨b4_9,0,none⟩)) (.box w0.heap.size 41 zA8 x7.1),⟨u16,S18,trR (geB w0.heap.size) (oPt 29 (oBx (oSl 79 (oBx (oSl 82 (oRd zA1)))))) x12 [(u16,h37)]⟩,⟨u27,S29,trR (geB w0.heap.size) (oPt 41 (oPr (oRd (eInt .i64)) (oSl 99 (oRd zA0)))) x20.1 []⟩] A w:=hO.repin 2 rfl (trP.pin p_h37)
      obtain ⟨x39,q40,hr⟩:=zAK hr
      obtain ⟨x41,q42,hr⟩:=zAK hr
      refine HT.draw (by kernel_rfl) (l:=⟨_,true,.raw (Enc.val zA2 h37)⟩::⟨_,true,.rep zAE A p0⟩::⟨_,true,.rep zA2 A x39⟩::⟨_,true,.raw (.bool x41)⟩::⟨_,true,.raw (.bool (!x41))⟩::[]) (tl:=[]) (by kernel_rfl) (by kernel_rfl) (by kernel_rfl) (by kernel_rfl) ?_ ?_
      · exact
          Obls.cons (Obl.plain rfl rfl fun R' w' hw hs hd=>by have a0:R' 6=u16:=(hs 6 rfl).trans h6;exact zD6 (F:=oBx (oSl 79 (oBx (oSl 82 (oRd zA1))))) (((hO.fr hw).own 2 _ rfl).2.2 _ (.head _)) l_h37 a0 Try.isAgg29 Try.sizeOf29) <|
          Obls.cons (Obl.plain rfl rfl fun R' w' hw hs hd=>by have a0:R' 1=(.pointer (some ⟨b1_0,0,none⟩)):=(hs 1 rfl).trans h1;exact (zAD ((hO.fr hw).ok 0 _ rfl).1 a0 (Fld.id _) rfl Try.isAgg24 Try.sizeOf24)) <|
          Obls.cons (Obl.plain rfl rfl fun R' w' hw hs hd=>by have a0:Rep zAE A w' (R' 42) p0:=hd 0 _ _ _ rfl rfl rfl rfl rfl;exact zAl Try.call9 (zCn (q40 rfl) (hA.fr hw.size) a0)) <|
          Obls.cons (Obl.plain rfl rfl fun R' w' hw hs hd=>by have a0:R' 41=(Enc.val zA2 h37):=hd 0 _ _ _ rfl rfl rfl rfl rfl;have ra0:Rep zA2 A0 w' (R' 41) _:=(zII (((zAJ ((hO.fr hw).own 2 _ rfl).2).ptr).pinS (((hO.fr hw).own 2 _ rfl).2.2 _ (.head _)) l_h37) hAA (fun k o hk ha=>Nat.not_lt.2 (((hO.fr hw).own 2 _ rfl).1 k hk) (hA0 k o ha))).eq a0;have a1:Rep zA2 A w' (R' 43) x39:=hd 1 _ _ _ rfl rfl rfl rfl rfl;exact zAl Try.call11 (zFP (q42 rfl) (hA00.fr ((Nat.le_trans hF.size hw.size))) ra0 (a1.down hAA))) <|
          Obls.cons (Obl.plain rfl rfl fun R' w' hw hs hd=>by have a0:R' 44 = .bool x41:=hd 0 _ _ _ rfl rfl rfl rfl rfl;exact zD7 a0) <|
          Obls.nil
      intro R w hw hs hF'
      replace h1:R 1=(.pointer (some ⟨b1_0,0,none⟩)):=(hs 1 rfl).trans h1
      replace h4:R 4=(.pointer (some ⟨b4_9,0,none⟩)):=(hs 4 rfl).trans h4
      replace h5:R 5 = .bool x7.2:=(hs 5 rfl).trans h5
      replace h6:R 6=u16:=(hs 6 rfl).trans h6
      replace h7:R 7=u27:=(hs 7 rfl).trans h7
      replace h8:R 8 = .bool x20.2:=(hs 8 rfl).trans h8
      have h45:R 45 = .bool (!x41):=hF' 4 _ _ rfl rfl rfl
      replace hO:=hO.fr hw
      replace hA:=hA.fr hw.size
      replace hF:=hF.trans hw
      clear hs hF' hw
      refine zA4 ?_
      replace hO:IniOK [ob (.pointer (some ⟨b1_0,0,none⟩)) (.box w0.heap.size 24 zAE p0),ob (.pointer (some ⟨b4_9,0,none⟩)) (.box w0.heap.size 41 zA8 x7.1),⟨u16,S18,trR (geB w0.heap.size) (oPt 29 (oBx (oSl 79 (oBx (oSl 82 (oRd zA1)))))) x12 []⟩,⟨u27,S29,trR (geB w0.heap.size) (oPt 41 (oPr (oRd (eInt .i64)) (oSl 99 (oRd zA0)))) x20.1 []⟩] A w:=hO.repin 2 rfl trP.nopin
      refine HT.cond (!x41) h45 (fun c43=>?_) (fun c43=>?_)
      · have hr := zAq c43 hr
        refine HT.seq ?_
        refine HT.text (l:=⟨_,true,.raw (.bool false)⟩::[]) (tl:=[]) (by kernel_rfl) (by kernel_rfl) (by kernel_rfl) ?_ ?_
        · exact
            Obls.cons (Obl.plain rfl rfl fun R' w' hw hs hd=>by exact zA6 rfl) <|
            Obls.nil
        intro R w hw hs hF'
        have h2:R 2 = .bool false:=hF' 0 _ _ rfl rfl rfl
        replace hO:=hO.fr hw
        replace hO:IniOK [] A w:=hO.sub [] trivial
        replace hA:=hA.fr hw.size
        replace hF:=hF.trans hw
        clear hs hF' hw
        refine zA4 ?_
        refine HT.ret ?_
        obtain rfl:=Option.some.inj hr
        exact ⟨.inr rfl,[R 2],⟨rfl,trivial⟩,h2,hF⟩
      · have hr := zAp c43 hr
        refine HT.skip ?_
        refine HT.seq ?_
        refine HT.text (l:=⟨_,true,.raw (.int .i64 (1:Int))⟩::[]) (tl:=[]) (by kernel_rfl) (by kernel_rfl) (by kernel_rfl) ?_ ?_
        · exact
            Obls.cons (Obl.plain rfl rfl fun R' w' hw hs hd=>by exact zA6 rfl) <|
            Obls.nil
        intro R w hw hs hF'
        replace h1:R 1=(.pointer (some ⟨b1_0,0,none⟩)):=(hs 1 rfl).trans h1
        replace h4:R 4=(.pointer (some ⟨b4_9,0,none⟩)):=(hs 4 rfl).trans h4
        replace h5:R 5 = .bool x7.2:=(hs 5 rfl).trans h5
        replace h6:R 6=u16:=(hs 6 rfl).trans h6
        replace h7:R 7=u27:=(hs 7 rfl).trans h7
        replace h8:R 8 = .bool x20.2:=(hs 8 rfl).trans h8
        have h9:R 9 = .int .i64 (1:Int):=hF' 0 _ _ rfl rfl rfl
        replace hO:=hO.fr hw
        replace hA:=hA.fr hw.size
        replace hF:=hF.trans hw
        clear hs hF' hw
        refine zA4 ?_
        refine HT.seq ?_
        obtain ⟨h44,l_h44,p_h44⟩:=((zAJ (hO.own 2 _ rfl).2).ptr).open
        replace hO:IniOK [ob (.pointer (some ⟨b1_0,0,none⟩)) (.box w0.heap.size 24 zAE p0),ob (.pointer (some ⟨b4_9,0,none⟩)) (.box w0.heap.size 41 zA8 x7.1),⟨u16,S18,trR (geB w0.heap.size) (oPt 29 (oBx (oSl 79 (oBx (oSl 82 (oRd zA1)))))) x12 [(u16,h44)]⟩,⟨u27,S29,trR (geB w0.heap.size) (oPt 41 (oPr (oRd (eInt .i64)) (oSl 99 (oRd zA0)))) x20.1 []⟩] A w:=hO.repin 2 rfl (trP.pin p_h44)
        obtain ⟨x46,q47,hr⟩:=zAK hr
        refine HT.textR [ob (.pointer (some ⟨b1_0,0,none⟩)) (.box w0.heap.size 24 zAE p0),ob (.pointer (some ⟨b4_9,0,none⟩)) (.box w0.heap.size 41 zA8 x7.1),⟨u16,S18,trR (geB w0.heap.size) (oPt 29 (oBx (oSl 79 (oBx (oSl 82 (oRd zA1)))))) x12 [(u16,h44)]⟩,⟨u27,S29,trR (geB w0.heap.size) (oPt 41 (oPr (oRd (eInt .i64)) (oSl 99 (oRd zA0)))) x20.1 []⟩] (⟨_,true,[],none,true,fun A=>.raw (Enc.val zA2 h44)⟩::⟨_,true,[],none,true,fun A=>.raw (.int .i64 (1:Int))⟩::⟨_,true,[2],some (trR (geB w0.heap.size) (oPt 29 (oBx (oSl 79 (oBx (oSl 82 (oRd zA1)))))) x46.2 []),false,fun A=>.raw (.int .i64 x46.1)⟩::⟨_,true,[],none,true,fun A=>.raw (.int .i64 x46.1)⟩::[]) (by kernel_rfl) (by kernel_rfl) (Wf.mk' (by kernel_rfl) (UAll.cons zAA (UAll.cons zAA (UAll.cons zAA (UAll.cons zAA (UAll.nil))))) (by kernel_rfl) (by kernel_rfl)) hO hA ?_ ?_
        · exact
            zA9.cons (OblR.plain rfl rfl rfl rfl fun A' R' w' ho hd=>by have a0:R' 6=u16:=(ho.old 6 rfl).trans h6;exact zD6 (F:=oBx (oSl 79 (oBx (oSl 82 (oRd zA1))))) ((ho.rdo 2 _ rfl rfl).2.2 _ (.head _)) l_h44 a0 Try.isAgg29 Try.sizeOf29) <|
            zA9.cons (OblR.plain rfl rfl rfl rfl fun A' R' w' ho hd=>by have a0:R' 9 = .int .i64 (1:Int):=(ho.old 9 rfl).trans h9;exact zA5 a0) <|
            zA9.cons (OblR.tookS 2 _ _ rfl rfl rfl rfl rfl fun A' R' w' ho hd u S hok hown hav hin hop hds=>by have a0:R' 46=(Enc.val zA2 h44):=hd 0 _ _ _ rfl rfl rfl rfl rfl;have a1:R' 47 = .int .i64 (1:Int):=hd 1 _ _ _ rfl rfl rfl rfl rfl;have e0:=(hin _ rfl).1;rw [e0] at hown ⊢;have hu0:zAL R' (.tmp 46)=(Enc.val zA2 h44):=a0;exact zCH Try.call15 (((zAJ hown.2).ptr).pinS (hown.2.2 _ (.head _)) l_h44) hav hown.1 (fun k hk=>Nat.le_trans (Nat.le_trans hF.size ho.ch.size) hk) (fun k hk=>SP.lt _ hown.2 hk) (fun S1 hS1 hP=>by simp only [List.map,hu0];exact zEg (q47 rfl) (ho.av.subS _) (fun b o h=>h.2) hP a1) (fun _ _ _ h=>h)) <|
            zA9.cons (OblR.plain rfl rfl rfl rfl fun A' R' w' ho hd=>by have a0:R' 48 = .int .i64 x46.1:=hd 0 _ _ _ rfl rfl rfl rfl rfl;exact zA6 a0) <|
            zA9.nil
        intro done ρ σ A R w hdn hI
        replace h1:R 1=(.pointer (some ⟨b1_0,0,none⟩)):=(hI.reg rfl).trans h1
        replace h4:R 4=(.pointer (some ⟨b4_9,0,none⟩)):=(hI.reg rfl).trans h4
        replace h5:R 5 = .bool x7.2:=(hI.reg rfl).trans h5
        replace h7:R 7=u27:=(hI.reg rfl).trans h7
        replace h8:R 8 = .bool x20.2:=(hI.reg rfl).trans h8
        have z48:=hI.inivR 0 rfl
        have z49:=hI.inivR 1 rfl
        have z50:=hI.inivR 2 rfl
        have z51:=(hI.opnR hdn 6 2 rfl rfl rfl rfl rfl).trans z50
        have z52:=hI.inivR 3 rfl
        obtain ⟨S53,eS_u16⟩:∃ S,σ 6=S:=⟨_,rfl⟩
        have eS_u27:=hI.inisR 3 rfl
        have h9:R 9 = .int .i64 x46.1:=hI.fact hdn (i:=3) rfl rfl rfl
        replace hAA:=hI.low' hAA hA0 (hO.ge (⟨rfl,⟨rfl,⟨fun _ h=>h,⟨fun _ h=>h,trivial⟩⟩⟩⟩))
        replace hF:Fr w0 w:=hF.tr hI.ch (hO.ge (⟨rfl,⟨rfl,⟨fun _ h=>h,⟨fun _ h=>h,trivial⟩⟩⟩⟩))
        replace hO:IniOK [ob (.pointer (some ⟨b1_0,0,none⟩)) (.box w0.heap.size 24 zAE p0),ob (.pointer (some ⟨b4_9,0,none⟩)) (.box w0.heap.size 41 zA8 x7.1),⟨u27,S29,trR (geB w0.heap.size) (oPt 41 (oPr (oRd (eInt .i64)) (oSl 99 (oRd zA0)))) x20.1 []⟩] A w:=hI.left hdn [(0,ob (.pointer (some ⟨b1_0,0,none⟩)) (.box w0.heap.size 24 zAE p0)),(1,ob (.pointer (some ⟨b4_9,0,none⟩)) (.box w0.heap.size 41 zA8 x7.1)),(3,⟨u27,S29,trR (geB w0.heap.size) (oPt 41 (oPr (oRd (eInt .i64)) (oSl 99 (oRd zA0)))) x20.1 []⟩)] ⟨rfl,rfl,z48,rfl,rfl,⟨rfl,rfl,z49,rfl,rfl,⟨rfl,rfl,z52,eS_u27,rfl,trivial⟩⟩⟩
        replace hA:=hI.avok
        clear hI
        refine HT.seq ?_
        refine HT.seq ?_
        obtain ⟨h54,l_h54,p_h54⟩:=((zAJ (hO.own 2 _ rfl).2).ptr).open
        replace hO:IniOK [ob (.pointer (some ⟨b1_0,0,none⟩)) (.box w0.heap.size 24 zAE p0),ob (.pointer (some ⟨b4_9,0,none⟩)) (.box w0.heap.size 41 zA8 x7.1),⟨u27,S29,trR (geB w0.heap.size) (oPt 41 (oPr (oRd (eInt .i64)) (oSl 99 (oRd zA0)))) x20.1 [(u27,h54)]⟩] A w:=hO.repin 2 rfl (trP.pin p_h54)
        obtain ⟨x56,q57,hr⟩:=zAK hr
        obtain ⟨x58,q59,hr⟩:=zC9 hr
        obtain ⟨x60,q61,hr⟩:=zC9 hr
        refine HT.text (l:=⟨_,true,.raw (.int .i64 x46.1)⟩::⟨_,true,.raw (.bool (decide (x46.1<(0:Int))))⟩::⟨_,true,.raw (.bool (decide (x46.1<(0:Int))))⟩::⟨_,(true&&((decide (x46.1<(0:Int)))==false)),.raw (Enc.val zA8 h54)⟩::⟨_,(true&&((decide (x46.1<(0:Int)))==false)),.rep zA8 A x7.1⟩::⟨_,(true&&((decide (x46.1<(0:Int)))==false)),.raw (.bool x56)⟩::⟨_,(true&&((decide (x46.1<(0:Int)))==false)),.raw (.bool (!x56))⟩::⟨_,true,.raw (.bool x58)⟩::⟨_,true,.raw (.bool x58)⟩::⟨_,(true&&(x58==false)),.raw (.bool x20.2)⟩::⟨_,(true&&(x58==false)),.raw (.bool x7.2)⟩::⟨_,(true&&(x58==false)),.raw (.bool (x20.2 != x7.2))⟩::⟨_,true,.raw (.bool x60)⟩::[]) (tl:=[]) (by kernel_rfl) (by kernel_rfl) (by kernel_rfl) ?_ ?_
        · exact
            Obls.cons (Obl.plain rfl rfl fun R' w' hw hs hd=>by have a0:R' 9 = .int .i64 x46.1:=(hs 9 rfl).trans h9;exact zA5 a0) <|
            Obls.cons (Obl.plain rfl rfl fun R' w' hw hs hd=>by have a0:R' 49 = .int .i64 x46.1:=hd 0 _ _ _ rfl rfl rfl rfl rfl;exact zBI a0 rfl) <|
            Obls.cons (Obl.plain rfl rfl fun R' w' hw hs hd=>by have a0:R' 50 = .bool (decide (x46.1<(0:Int))):=hd 0 _ _ _ rfl rfl rfl rfl rfl;exact zA5 a0) <|
            Obls.cons (Obl.grd 2 false _ _ _ rfl rfl rfl rfl rfl (by kernel_rfl) fun hg R' w' hw hs hd=>by have a0:R' 7=u27:=(hs 7 rfl).trans h7;exact zD6 (F:=oPr (oRd (eInt .i64)) (oSl 99 (oRd zA0))) (((hO.fr hw).own 2 _ rfl).2.2 _ (.head _)) l_h54 a0 Try.isAgg41 Try.sizeOf41) <|
            Obls.cons (Obl.grd 2 false _ _ _ rfl rfl rfl rfl rfl (by kernel_rfl) fun hg R' w' hw hs hd=>by have a0:R' 4=(.pointer (some ⟨b4_9,0,none⟩)):=(hs 4 rfl).trans h4;exact (zAD ((hO.fr hw).ok 1 _ rfl).1 a0 (Fld.id _) rfl Try.isAgg41 Try.sizeOf41)) <|
            Obls.cons (Obl.grd 2 false _ _ _ rfl rfl rfl rfl rfl (by kernel_rfl) fun hg R' w' hw hs hd=>by have a0:R' 52=(Enc.val zA8 h54):=hd 0 _ _ _ rfl rfl rfl rfl hg;have ra0:Rep zA8 A0 w' (R' 52) _:=(zII (((zAJ ((hO.fr hw).own 2 _ rfl).2).ptr).pinS (((hO.fr hw).own 2 _ rfl).2.2 _ (.head _)) l_h54) hAA (fun k o hk ha=>Nat.not_lt.2 (((hO.fr hw).own 2 _ rfl).1 k hk) (hA0 k o ha))).eq a0;have a1:Rep zA8 A w' (R' 53) x7.1:=hd 1 _ _ _ rfl rfl rfl rfl hg;exact zAl Try.call20 (zD1 (q57 hg) (hA00.fr ((Nat.le_trans hF.size hw.size))) ra0 (a1.down hAA))) <|
            Obls.cons (Obl.grd 2 false _ _ _ rfl rfl rfl rfl rfl (by kernel_rfl) fun hg R' w' hw hs hd=>by have a0:R' 54 = .bool x56:=hd 0 _ _ _ rfl rfl rfl rfl hg;exact zD7 a0) <|
            Obls.cons (Obl.plain rfl rfl fun R' w' hw hs hd=>by have a0:R' 51 = .bool (decide (x46.1<(0:Int))):=hd 0 _ _ _ rfl rfl rfl rfl rfl;exact zCf (decide (x46.1<(0:Int))) a0 (fun hc=>by show _=Value.bool x58;rw [q59,hc];exact rfl) (fun hc=>by have a2:R' 55 = .bool (!x56):=hd 1 _ _ _ rfl rfl rfl rfl (zEq rfl (zDd hc));show _=Value.bool x58;rw [q59,hc];exact a2)) <|
            Obls.cons (Obl.plain rfl rfl fun R' w' hw hs hd=>by have a0:R' 56 = .bool x58:=hd 0 _ _ _ rfl rfl rfl rfl rfl;exact zA5 a0) <|
            Obls.cons (Obl.grd 8 false _ _ _ rfl rfl rfl rfl rfl (by kernel_rfl) fun hg R' w' hw hs hd=>by have a0:R' 8 = .bool x20.2:=(hs 8 rfl).trans h8;exact zA5 a0) <|
            Obls.cons (Obl.grd 8 false _ _ _ rfl rfl rfl rfl rfl (by kernel_rfl) fun hg R' w' hw hs hd=>by have a0:R' 5 = .bool x7.2:=(hs 5 rfl).trans h5;exact zA5 a0) <|
            Obls.cons (Obl.grd 8 false _ _ _ rfl rfl rfl rfl rfl (by kernel_rfl) fun hg R' w' hw hs hd=>by have a0:R' 58 = .bool x20.2:=hd 0 _ _ _ rfl rfl rfl rfl hg;have a1:R' 59 = .bool x7.2:=hd 1 _ _ _ rfl rfl rfl rfl hg;exact zGQ Try.underlying4 a0 a1) <|
            Obls.cons (Obl.plain rfl rfl fun R' w' hw hs hd=>by have a0:R' 57 = .bool x58:=hd 0 _ _ _ rfl rfl rfl rfl rfl;exact zCf x58 a0 (fun hc=>by show _=Value.bool x60;rw [q61,hc];exact rfl) (fun hc=>by have a2:R' 60 = .bool (x20.2 != x7.2):=hd 1 _ _ _ rfl rfl rfl rfl (zEq rfl (zDd hc));show _=Value.bool x60;rw [q61,hc];exact a2)) <|
            Obls.nil
        intro R w hw hs hF'
        replace h1:R 1=(.pointer (some ⟨b1_0,0,none⟩)):=(hs 1 rfl).trans h1
        replace h4:R 4=(.pointer (some ⟨b4_9,0,none⟩)):=(hs 4 rfl).trans h4
        replace h5:R 5 = .bool x7.2:=(hs 5 rfl).trans h5
        replace h7:R 7=u27:=(hs 7 rfl).trans h7
        have h61:R 61 = .bool x60:=hF' 12 _ _ rfl rfl rfl
        replace hO:=hO.fr hw
        replace hA:=hA.fr hw.size
        replace hF:=hF.trans hw
        clear hs hF' hw
        refine zA4 ?_
        replace hO:IniOK [ob (.pointer (some ⟨b1_0,0,none⟩)) (.box w0.heap.size 24 zAE p0),ob (.pointer (some ⟨b4_9,0,none⟩)) (.box w0.heap.size 41 zA8 x7.1),⟨u27,S29,trR (geB w0.heap.size) (oPt 41 (oPr (oRd (eInt .i64)) (oSl 99 (oRd zA0)))) x20.1 []⟩] A w:=hO.repin 2 rfl trP.nopin
        refine HT.cond x60 h61 (fun c62=>?_) (fun c62=>?_)
        · have hr := zAq c62 hr
          refine HT.seq ?_
          refine HT.text (l:=⟨_,true,.raw (.bool false)⟩::[]) (tl:=[]) (by kernel_rfl) (by kernel_rfl) (by kernel_rfl) ?_ ?_
          · exact
              Obls.cons (Obl.plain rfl rfl fun R' w' hw hs hd=>by exact zA6 rfl) <|
              Obls.nil
          intro R w hw hs hF'
          have h2:R 2 = .bool false:=hF' 0 _ _ rfl rfl rfl
          replace hO:=hO.fr hw
          replace hO:IniOK [] A w:=hO.sub [] trivial
          replace hA:=hA.fr hw.size
          replace hF:=hF.trans hw
          clear hs hF' hw
          refine zA4 ?_
          refine HT.ret ?_
          obtain rfl:=Option.some.inj hr
          exact ⟨.inr rfl,[R 2],⟨rfl,trivial⟩,h2,hF⟩
        · have hr := zAp c62 hr
          refine HT.skip ?_
          refine HT.seq ?_
          refine HT.text (l:=⟨_,true,.raw (.int .i64 (1:Int))⟩::[]) (tl:=[]) (by kernel_rfl) (by kernel_rfl) (by kernel_rfl) ?_ ?_
          · exact
              Obls.cons (Obl.plain rfl rfl fun R' w' hw hs hd=>by exact zA6 rfl) <|
              Obls.nil
          intro R w hw hs hF'
          replace h1:R 1=(.pointer (some ⟨b1_0,0,none⟩)):=(hs 1 rfl).trans h1
          replace h4:R 4=(.pointer (some ⟨b4_9,0,none⟩)):=(hs 4 rfl).trans h4
          replace h5:R 5 = .bool x7.2:=(hs 5 rfl).trans h5
          replace h7:R 7=u27:=(hs 7 rfl).trans h7
          have h10:R 10 = .int .i64 (1:Int):=hF' 0 _ _ rfl rfl rfl
          replace hO:=hO.fr hw
          replace hA:=hA.fr hw.size
          replace hF:=hF.trans hw
          clear hs hF' hw
          refine zA4 ?_
          refine HT.seq ?_
          obtain ⟨h63,l_h63,p_h63⟩:=((zAJ (hO.own 2 _ rfl).2).ptr).open
          replace hO:IniOK [ob (.pointer (some ⟨b1_0,0,none⟩)) (.box w0.heap.size 24 zAE p0),ob (.pointer (some ⟨b4_9,0,none⟩)) (.box w0.heap.size 41 zA8 x7.1),⟨u27,S29,trR (geB w0.heap.size) (oPt 41 (oPr (oRd (eInt .i64)) (oSl 99 (oRd zA0)))) x20.1 [(u27,h63)]⟩] A w:=hO.repin 2 rfl (trP.pin p_h63)
          obtain ⟨x65,q66,hr⟩:=zAK hr
          refine HT.textR [ob (.pointer (some ⟨b1_0,0,none⟩)) (.box w0.heap.size 24 zAE p0),ob (.pointer (some ⟨b4_9,0,none⟩)) (.box w0.heap.size 41 zA8 x7.1),⟨u27,S29,trR (geB w0.heap.size) (oPt 41 (oPr (oRd (eInt .i64)) (oSl 99 (oRd zA0)))) x20.1 [(u27,h63)]⟩] (⟨_,true,[],none,true,fun A=>.raw (Enc.val zA8 h63)⟩::⟨_,true,[],none,true,fun A=>.raw (.int .i64 (1:Int))⟩::⟨_,true,[2],some (trR (geB w0.heap.size) (oPt 41 (oPr (oRd (eInt .i64)) (oSl 99 (oRd zA0)))) x65.2 []),false,fun A=>.raw (.int .i64 x65.1)⟩::⟨_,true,[],none,true,fun A=>.raw (.int .i64 x65.1)⟩::[]) (by kernel_rfl) (by kernel_rfl) (Wf.mk' (by kernel_rfl) (UAll.cons zAA (UAll.cons zAA (UAll.cons zAA (UAll.cons zAA (UAll.nil))))) (by kernel_rfl) (by kernel_rfl)) hO hA ?_ ?_
          · exact
              zA9.cons (OblR.plain rfl rfl rfl rfl fun A' R' w' ho hd=>by have a0:R' 7=u27:=(ho.old 7 rfl).trans h7;exact zD6 (F:=oPr (oRd (eInt .i64)) (oSl 99 (oRd zA0))) ((ho.rdo 2 _ rfl rfl).2.2 _ (.head _)) l_h63 a0 Try.isAgg41 Try.sizeOf41) <|
              zA9.cons (OblR.plain rfl rfl rfl rfl fun A' R' w' ho hd=>by have a0:R' 10 = .int .i64 (1:Int):=(ho.old 10 rfl).trans h10;exact zA5 a0) <|
              zA9.cons (OblR.tookS 2 _ _ rfl rfl rfl rfl rfl fun A' R' w' ho hd u S hok hown hav hin hop hds=>by have a0:R' 62=(Enc.val zA8 h63):=hd 0 _ _ _ rfl rfl rfl rfl rfl;have a1:R' 63 = .int .i64 (1:Int):=hd 1 _ _ _ rfl rfl rfl rfl rfl;have e0:=(hin _ rfl).1;rw [e0] at hown ⊢;have hu0:zAL R' (.tmp 62)=(Enc.val zA8 h63):=a0;exact zCH Try.call21 (((zAJ hown.2).ptr).pinS (hown.2.2 _ (.head _)) l_h63) hav hown.1 (fun k hk=>Nat.le_trans (Nat.le_trans hF.size ho.ch.size) hk) (fun k hk=>SP.lt _ hown.2 hk) (fun S1 hS1 hP=>by simp only [List.map,hu0];exact zEd (q66 rfl) (ho.av.subS _) (fun b o h=>h.2) hP a1) (fun _ _ _ h=>h)) <|
              zA9.cons (OblR.plain rfl rfl rfl rfl fun A' R' w' ho hd=>by have a0:R' 64 = .int .i64 x65.1:=hd 0 _ _ _ rfl rfl rfl rfl rfl;exact zA6 a0) <|
              zA9.nil
          intro done ρ σ A R w hdn hI
          replace h1:R 1=(.pointer (some ⟨b1_0,0,none⟩)):=(hI.reg rfl).trans h1
          replace h4:R 4=(.pointer (some ⟨b4_9,0,none⟩)):=(hI.reg rfl).trans h4
          replace h5:R 5 = .bool x7.2:=(hI.reg rfl).trans h5
          replace h7:R 7=u27:=(hI.reg rfl).trans h7
          have z67:=hI.inivR 0 rfl
          have z68:=hI.inivR 1 rfl
          have z69:=hI.inivR 2 rfl
          have z70:=(hI.opnR hdn 5 2 rfl rfl rfl rfl rfl).trans z69
          obtain ⟨S71,eS_u27⟩:∃ S,σ 5=S:=⟨_,rfl⟩
          have h10:R 10 = .int .i64 x65.1:=hI.fact hdn (i:=3) rfl rfl rfl
          replace hAA:=hI.low' hAA hA0 (hO.ge (⟨rfl,⟨rfl,⟨fun _ h=>h,trivial⟩⟩⟩))
          replace hF:Fr w0 w:=hF.tr hI.ch (hO.ge (⟨rfl,⟨rfl,⟨fun _ h=>h,trivial⟩⟩⟩))
          replace hO:IniOK [ob (.pointer (some ⟨b1_0,0,none⟩)) (.box w0.heap.size 24 zAE p0),ob (.pointer (some ⟨b4_9,0,none⟩)) (.box w0.heap.size 41 zA8 x7.1),⟨u27,S71,trR (geB w0.heap.size) (oPt 41 (oPr (oRd (eInt .i64)) (oSl 99 (oRd zA0)))) x65.2 []⟩] A w:=hI.left hdn [(0,ob (.pointer (some ⟨b1_0,0,none⟩)) (.box w0.heap.size 24 zAE p0)),(1,ob (.pointer (some ⟨b4_9,0,none⟩)) (.box w0.heap.size 41 zA8 x7.1)),(5,⟨u27,S71,trR (geB w0.heap.size) (oPt 41 (oPr (oRd (eInt .i64)) (oSl 99 (oRd zA0)))) x65.2 []⟩)] ⟨rfl,rfl,z67,rfl,rfl,⟨rfl,rfl,z68,rfl,rfl,⟨rfl,rfl,z70,eS_u27,rfl,trivial⟩⟩⟩
          replace hA:=hI.avok
          clear hI
          refine HT.seq ?_
          refine HT.text (l:=⟨_,true,.raw (.int .i64 (1:Int))⟩::[]) (tl:=[]) (by kernel_rfl) (by kernel_rfl) (by kernel_rfl) ?_ ?_
          · exact
              Obls.cons (Obl.plain rfl rfl fun R' w' hw hs hd=>by exact zA6 rfl) <|
              Obls.nil
          intro R w hw hs hF'
          replace h1:R 1=(.pointer (some ⟨b1_0,0,none⟩)):=(hs 1 rfl).trans h1
          replace h4:R 4=(.pointer (some ⟨b4_9,0,none⟩)):=(hs 4 rfl).trans h4
          replace h5:R 5 = .bool x7.2:=(hs 5 rfl).trans h5
          replace h7:R 7=u27:=(hs 7 rfl).trans h7
          replace h10:R 10 = .int .i64 x65.1:=(hs 10 rfl).trans h10
          have h11:R 11 = .int .i64 (1:Int):=hF' 0 _ _ rfl rfl rfl
          replace hO:=hO.fr hw
          replace hA:=hA.fr hw.size
          replace hF:=hF.trans hw
          clear hs hF' hw
          refine zA4 ?_
          refine HT.seq ?_
          obtain ⟨h72,l_h72,p_h72⟩:=((zAJ (hO.own 2 _ rfl).2).ptr).open
          replace hO:IniOK [ob (.pointer (some ⟨b1_0,0,none⟩)) (.box w0.heap.size 24 zAE p0),ob (.pointer (some ⟨b4_9,0,none⟩)) (.box w0.heap.size 41 zA8 x7.1),⟨u27,S71,trR (geB w0.heap.size) (oPt 41 (oPr (oRd (eInt .i64)) (oSl 99 (oRd zA0)))) x65.2 [(u27,h72)]⟩] A w:=hO.repin 2 rfl (trP.pin p_h72)
          obtain ⟨x74,q75,hr⟩:=zAK hr
          refine HT.text (l:=⟨_,true,.raw (Enc.val zA8 h72)⟩::⟨_,true,.raw (.int .i64 (1:Int))⟩::⟨_,true,.raw (.int .i64 x74)⟩::⟨_,true,.raw (.int .i64 x74)⟩::[]) (tl:=[]) (by kernel_rfl) (by kernel_rfl) (by kernel_rfl) ?_ ?_
          · exact
              Obls.cons (Obl.plain rfl rfl fun R' w' hw hs hd=>by have a0:R' 7=u27:=(hs 7 rfl).trans h7;exact zD6 (F:=oPr (oRd (eInt .i64)) (oSl 99 (oRd zA0))) (((hO.fr hw).own 2 _ rfl).2.2 _ (.head _)) l_h72 a0 Try.isAgg41 Try.sizeOf41) <|
              Obls.cons (Obl.plain rfl rfl fun R' w' hw hs hd=>by have a0:R' 11 = .int .i64 (1:Int):=(hs 11 rfl).trans h11;exact zA5 a0) <|
              Obls.cons (Obl.plain rfl rfl fun R' w' hw hs hd=>by have a0:R' 65=(Enc.val zA8 h72):=hd 0 _ _ _ rfl rfl rfl rfl rfl;have ra0:Rep zA8 A0 w' (R' 65) _:=(zII (((zAJ ((hO.fr hw).own 2 _ rfl).2).ptr).pinS (((hO.fr hw).own 2 _ rfl).2.2 _ (.head _)) l_h72) hAA (fun k o hk ha=>Nat.not_lt.2 (((hO.fr hw).own 2 _ rfl).1 k hk) (hA0 k o ha))).eq a0;have a1:R' 66 = .int .i64 (1:Int):=hd 1 _ _ _ rfl rfl rfl rfl rfl;exact zAl Try.call22 (zDa (q75 rfl) (hA00.fr ((Nat.le_trans hF.size hw.size))) ra0 a1)) <|
              Obls.cons (Obl.plain rfl rfl fun R' w' hw hs hd=>by have a0:R' 67 = .int .i64 x74:=hd 0 _ _ _ rfl rfl rfl rfl rfl;exact zA6 a0) <|
              Obls.nil
          intro R w hw hs hF'
          replace h1:R 1=(.pointer (some ⟨b1_0,0,none⟩)):=(hs 1 rfl).trans h1
          replace h4:R 4=(.pointer (some ⟨b4_9,0,none⟩)):=(hs 4 rfl).trans h4
          replace h5:R 5 = .bool x7.2:=(hs 5 rfl).trans h5
          replace h7:R 7=u27:=(hs 7 rfl).trans h7
          replace h10:R 10 = .int .i64 x65.1:=(hs 10 rfl).trans h10
          have h11:R 11 = .int .i64 x74:=hF' 3 _ _ rfl rfl rfl
          replace hO:=hO.fr hw
          replace hA:=hA.fr hw.size
          replace hF:=hF.trans hw
          clear hs hF' hw
          refine zA4 ?_
          replace hO:IniOK [ob (.pointer (some ⟨b1_0,0,none⟩)) (.box w0.heap.size 24 zAE p0),ob (.pointer (some ⟨b4_9,0,none⟩)) (.box w0.heap.size 41 zA8 x7.1),⟨u27,S71,trR (geB w0.heap.size) (oPt 41 (oPr (oRd (eInt .i64)) (oSl 99 (oRd zA0)))) x65.2 []⟩] A w:=hO.repin 2 rfl trP.nopin
          refine HT.seq ?_
          refine HT.seq ?_
          refine HT.text (l:=⟨_,true,.raw (.int .i64 x74)⟩::⟨_,true,.raw (.bool (decide (x74<(0:Int))))⟩::[]) (tl:=[]) (by kernel_rfl) (by kernel_rfl) (by kernel_rfl) ?_ ?_
          · exact
              Obls.cons (Obl.plain rfl rfl fun R' w' hw hs hd=>by have a0:R' 11 = .int .i64 x74:=(hs 11 rfl).trans h11;exact zA5 a0) <|
              Obls.cons (Obl.plain rfl rfl fun R' w' hw hs hd=>by have a0:R' 68 = .int .i64 x74:=hd 0 _ _ _ rfl rfl rfl rfl rfl;exact zBI a0 rfl) <|
              Obls.nil
          intro R w hw hs hF'
          replace h1:R 1=(.pointer (some ⟨b1_0,0,none⟩)):=(hs 1 rfl).trans h1
          replace h4:R 4=(.pointer (some ⟨b4_9,0,none⟩)):=(hs 4 rfl).trans h4
          replace h5:R 5 = .bool x7.2:=(hs 5 rfl).trans h5
          replace h7:R 7=u27:=(hs 7 rfl).trans h7
          replace h10:R 10 = .int .i64 x65.1:=(hs 10 rfl).trans h10
          replace h11:R 11 = .int .i64 x74:=(hs 11 rfl).trans h11
          have h69:R 69 = .bool (decide (x74<(0:Int))):=hF' 1 _ _ rfl rfl rfl
          replace hO:=hO.fr hw
          replace hA:=hA.fr hw.size
          replace hF:=hF.trans hw
          clear hs hF' hw
          refine zA4 ?_
          refine HT.cond (decide (x74<(0:Int))) h69 (fun c76=>?_) (fun c76=>?_)
          · have hr := zAq c76 hr
            refine HT.seq ?_
            refine HT.text (l:=⟨_,true,.raw (.bool false)⟩::[]) (tl:=[]) (by kernel_rfl) (by kernel_rfl) (by kernel_rfl) ?_ ?_
            · exact
                Obls.cons (Obl.plain rfl rfl fun R' w' hw hs hd=>by exact zA6 rfl) <|
                Obls.nil
            intro R w hw hs hF'
            have h2:R 2 = .bool false:=hF' 0 _ _ rfl rfl rfl
            replace hO:=hO.fr hw
            replace hO:IniOK [] A w:=hO.sub [] trivial
            replace hA:=hA.fr hw.size
            replace hF:=hF.trans hw
            clear hs hF' hw
            refine zA4 ?_
            refine HT.ret ?_
            obtain rfl:=Option.some.inj hr
            exact ⟨.inr rfl,[R 2],⟨rfl,trivial⟩,h2,hF⟩
          · have hr := zAp c76 hr
            refine HT.skip ?_
            refine HT.seq ?_
            refine HT.seq ?_
            refine HT.text (l:=⟨_,true,.raw (.int .i64 x74)⟩::⟨_,true,.raw (.int .i64 x65.1)⟩::⟨_,true,.raw (.bool (x74 != x65.1))⟩::[]) (tl:=[]) (by kernel_rfl) (by kernel_rfl) (by kernel_rfl) ?_ ?_
            · exact
                Obls.cons (Obl.plain rfl rfl fun R' w' hw hs hd=>by have a0:R' 11 = .int .i64 x74:=(hs 11 rfl).trans h11;exact zA5 a0) <|
                Obls.cons (Obl.plain rfl rfl fun R' w' hw hs hd=>by have a0:R' 10 = .int .i64 x65.1:=(hs 10 rfl).trans h10;exact zA5 a0) <|
                Obls.cons (Obl.plain rfl rfl fun R' w' hw hs hd=>by have a0:R' 70 = .int .i64 x74:=hd 0 _ _ _ rfl rfl rfl rfl rfl;have a1:R' 71 = .int .i64 x65.1:=hd 1 _ _ _ rfl rfl rfl rfl rfl;exact zDK a0 a1) <|
                Obls.nil
            intro R w hw hs hF'
            replace h1:R 1=(.pointer (some ⟨b1_0,0,none⟩)):=(hs 1 rfl).trans h1
            replace h4:R 4=(.pointer (some ⟨b4_9,0,none⟩)):=(hs 4 rfl).trans h4
            replace h5:R 5 = .bool x7.2:=(hs 5 rfl).trans h5
            replace h7:R 7=u27:=(hs 7 rfl).trans h7
            replace h10:R 10 = .int .i64 x65.1:=(hs 10 rfl).trans h10
            have h72:R 72 = .bool (x74 != x65.1):=hF' 2 _ _ rfl rfl rfl
            replace hO:=hO.fr hw
            replace hA:=hA.fr hw.size
            replace hF:=hF.trans hw
            clear hs hF' hw
            refine zA4 ?_
            refine HT.cond (x74 != x65.1) h72 (fun c77=>?_) (fun c77=>?_)
            · have hr := zAq c77 hr
              refine HT.seq ?_
              refine HT.text (l:=⟨_,true,.raw (.bool false)⟩::[]) (tl:=[]) (by kernel_rfl) (by kernel_rfl) (by kernel_rfl) ?_ ?_
              · exact
                  Obls.cons (Obl.plain rfl rfl fun R' w' hw hs hd=>by exact zA6 rfl) <|
                  Obls.nil
              intro R w hw hs hF'
              have h2:R 2 = .bool false:=hF' 0 _ _ rfl rfl rfl
              replace hO:=hO.fr hw
              replace hO:IniOK [] A w:=hO.sub [] trivial
              replace hA:=hA.fr hw.size
              replace hF:=hF.trans hw
              clear hs hF' hw
              refine zA4 ?_
              refine HT.ret ?_
              obtain rfl:=Option.some.inj hr
              exact ⟨.inr rfl,[R 2],⟨rfl,trivial⟩,h2,hF⟩
            · have hr := zAp c77 hr
              refine HT.skip ?_
              refine HT.seq ?_
              obtain ⟨x78,q79,hr⟩:=zAK hr
              obtain ⟨x80,q81,hr⟩:=zAK hr
              refine HT.textR [ob (.pointer (some ⟨b1_0,0,none⟩)) (.box w0.heap.size 24 zAE p0),ob (.pointer (some ⟨b4_9,0,none⟩)) (.box w0.heap.size 41 zA8 x7.1),⟨u27,S71,trR (geB w0.heap.size) (oPt 41 (oPr (oRd (eInt .i64)) (oSl 99 (oRd zA0)))) x65.2 []⟩] (⟨_,true,[],none,true,fun A=>.rep zAE A p0⟩::⟨_,true,[],none,true,fun A=>.rep zA2 A x78⟩::⟨_,true,[],none,true,fun A=>.tup2 (.rep zA8 A x80.1) (.raw (.bool x80.2))⟩::⟨_,true,[],none,true,fun A=>.tup2 (.rep zA8 A x80.1) (.raw (.bool x80.2))⟩::⟨_,true,[],none,true,fun A=>.rep zA8 A x80.1⟩::⟨_,true,[],none,true,fun A=>.raw (.bool x80.2)⟩::⟨_,true,[],some (.box w0.heap.size 41 zA8 ((0:Int),([]:List zA3))),true,fun A=>.any⟩::⟨_,true,[9],some (.box w0.heap.size 41 zA8 x80.1),false,fun A=>.any⟩::⟨_,true,[],none,true,fun A=>.raw (.bool x80.2)⟩::[]) (by kernel_rfl) (by kernel_rfl) (Wf.mk' (by kernel_rfl) (UAll.cons zAn (UAll.cons zAn (UAll.cons (zEx zAn zAA) (UAll.cons (zEx zAn zAA) (UAll.cons zAn (UAll.cons zAA (UAll.cons zAG (UAll.cons zAG (UAll.cons zAA (UAll.nil)))))))))) (by kernel_rfl) (by kernel_rfl)) hO hA ?_ ?_
              · exact
                  zA9.cons (OblR.plain rfl rfl rfl rfl fun A' R' w' ho hd=>by have a0:R' 1=(.pointer (some ⟨b1_0,0,none⟩)):=(ho.old 1 rfl).trans h1;exact (zAD (ho.rd 0 _ rfl rfl) a0 (Fld.id _) rfl Try.isAgg24 Try.sizeOf24)) <|
                  zA9.cons (OblR.plain rfl rfl rfl rfl fun A' R' w' ho hd=>by have a0:Rep zAE A' w' (R' 74) p0:=hd 0 _ _ _ rfl rfl rfl rfl rfl;exact zAl Try.call9 (zCn (q79 rfl) ho.av a0)) <|
                  zA9.cons (OblR.plain rfl rfl rfl rfl fun A' R' w' ho hd=>by have a0:Rep zA2 A' w' (R' 75) x78:=hd 0 _ _ _ rfl rfl rfl rfl rfl;exact zAl Try.call19 (zES (q81 rfl) ho.av a0)) <|
                  zA9.cons (OblR.plain rfl rfl rfl rfl fun A' R' w' ho hd=>by have a0:Fact.ok (.tup2 (.rep zA8 A' x80.1) (.raw (.bool x80.2))) (R' 76) w':=hd 0 _ _ _ rfl rfl rfl rfl rfl;exact zA5 a0) <|
                  zA9.cons (OblR.plain rfl rfl rfl rfl fun A' R' w' ho hd=>by have a0:Fact.ok (.tup2 (.rep zA8 A' x80.1) (.raw (.bool x80.2))) (R' 73) w':=hd 0 _ _ _ rfl rfl rfl rfl rfl;exact zEW a0) <|
                  zA9.cons (OblR.plain rfl rfl rfl rfl fun A' R' w' ho hd=>by have a0:Fact.ok (.tup2 (.rep zA8 A' x80.1) (.raw (.bool x80.2))) (R' 73) w':=hd 0 _ _ _ rfl rfl rfl rfl rfl;exact zEM a0) <|
                  zA9.cons (OblR.made _ rfl rfl rfl rfl fun A' R' w' ho hd=>by exact zC5 Try.zeroValue41 (fun A w=>zBr zAe zE7) (Nat.le_trans hF.size ho.ch.size)) <|
                  zA9.cons (OblR.took 9 _ _ rfl rfl rfl rfl rfl fun A' R' w' ho hd u hok hav hin hop hds=>by have a1:Rep zA8 A' w' (R' 77) x80.1:=hd 1 _ _ _ rfl rfl rfl rfl rfl;obtain ⟨b,hb,hB',hbx⟩:=hok;have hop':=hop _ _ rfl rfl rfl rfl;exact zBY a1 (hop'.symm.trans hb) hb ⟨b,hb,hB',hbx⟩ hav (FldS.id _) Try.sizeOf41 rfl) <|
                  zA9.cons (OblR.plain rfl rfl rfl rfl fun A' R' w' ho hd=>by have a0:R' 78 = .bool x80.2:=hd 0 _ _ _ rfl rfl rfl rfl rfl;exact zA6 a0) <|
                  zA9.nil
              intro done ρ σ A R w hdn hI
              replace h4:R 4=(.pointer (some ⟨b4_9,0,none⟩)):=(hI.reg rfl).trans h4
              replace h5:R 5 = .bool x7.2:=(hI.reg rfl).trans h5
              replace h7:R 7=u27:=(hI.reg rfl).trans h7
              replace h10:R 10 = .int .i64 x65.1:=(hI.reg rfl).trans h10
              have z82:=hI.inivR 0 rfl
              have z83:=hI.inivR 1 rfl
              have z84:=hI.inivR 2 rfl
              obtain ⟨b12_84,e_b12_84⟩:=hI.boxv hdn 10 rfl rfl
              have z86:=(hI.opnR hdn 10 7 rfl rfl rfl rfl rfl).symm.trans e_b12_84
              have h12:R 12=(.pointer (some ⟨b12_84,0,none⟩)):=(hI.opvR hdn 9 6 rfl rfl rfl rfl rfl).symm.trans z86
              have eS_u27:=hI.inisR 2 rfl
              have h13:R 13 = .bool x80.2:=hI.fact hdn (i:=8) rfl rfl rfl
              replace hAA:=hI.low' hAA hA0 (hO.ge (⟨rfl,⟨rfl,⟨fun _ h=>h,trivial⟩⟩⟩))
              replace hF:Fr w0 w:=hF.tr hI.ch (hO.ge (⟨rfl,⟨rfl,⟨fun _ h=>h,trivial⟩⟩⟩))
              replace hO:IniOK [ob (.pointer (some ⟨b4_9,0,none⟩)) (.box w0.heap.size 41 zA8 x7.1),⟨u27,S71,trR (geB w0.heap.size) (oPt 41 (oPr (oRd (eInt .i64)) (oSl 99 (oRd zA0)))) x65.2 []⟩,ob (.pointer (some ⟨b12_84,0,none⟩)) (.box w0.heap.size 41 zA8 x80.1)] A w:=hI.left hdn [(1,ob (.pointer (some ⟨b4_9,0,none⟩)) (.box w0.heap.size 41 zA8 x7.1)),(2,⟨u27,S71,trR (geB w0.heap.size) (oPt 41 (oPr (oRd (eInt .i64)) (oSl 99 (oRd zA0)))) x65.2 []⟩),(10,ob (.pointer (some ⟨b12_84,0,none⟩)) (.box w0.heap.size 41 zA8 x80.1))] ⟨rfl,rfl,z83,rfl,rfl,⟨rfl,rfl,z84,eS_u27,rfl,⟨rfl,rfl,e_b12_84,rfl,rfl,trivial⟩⟩⟩
              replace hA:=hI.avok
              clear hI
              refine HT.seq ?_
              refine HT.seq ?_
              obtain ⟨x87,q88,hr⟩:=zAK hr
              obtain ⟨x89,q90,hr⟩:=zC9 hr
              refine HT.text (l:=⟨_,true,.rep zA8 A x80.1⟩::⟨_,true,.rep zA8 A x7.1⟩::⟨_,true,.raw (.bool x87)⟩::⟨_,true,.raw (.bool (!x87))⟩::⟨_,true,.raw (.bool (!x87))⟩::⟨_,(true&&((!x87)==false)),.raw (.bool x80.2)⟩::⟨_,(true&&((!x87)==false)),.raw (.bool x7.2)⟩::⟨_,(true&&((!x87)==false)),.raw (.bool (x80.2 != x7.2))⟩::⟨_,true,.raw (.bool x89)⟩::[]) (tl:=[]) (by kernel_rfl) (by kernel_rfl) (by kernel_rfl) ?_ ?_
              · exact
                  Obls.cons (Obl.plain rfl rfl fun R' w' hw hs hd=>by have a0:R' 12=(.pointer (some ⟨b12_84,0,none⟩)):=(hs 12 rfl).trans h12;exact (zAD ((hO.fr hw).ok 2 _ rfl).1 a0 (Fld.id _) rfl Try.isAgg41 Try.sizeOf41)) <|
                  Obls.cons (Obl.plain rfl rfl fun R' w' hw hs hd=>by have a0:R' 4=(.pointer (some ⟨b4_9,0,none⟩)):=(hs 4 rfl).trans h4;exact (zAD ((hO.fr hw).ok 0 _ rfl).1 a0 (Fld.id _) rfl Try.isAgg41 Try.sizeOf41)) <|
                  Obls.cons (Obl.plain rfl rfl fun R' w' hw hs hd=>by have a0:Rep zA8 A w' (R' 79) x80.1:=hd 0 _ _ _ rfl rfl rfl rfl rfl;have a1:Rep zA8 A w' (R' 80) x7.1:=hd 1 _ _ _ rfl rfl rfl rfl rfl;exact zAl Try.call20 (zD1 (q88 rfl) (hA.fr hw.size) a0 a1)) <|
                  Obls.cons (Obl.plain rfl rfl fun R' w' hw hs hd=>by have a0:R' 81 = .bool x87:=hd 0 _ _ _ rfl rfl rfl rfl rfl;exact zD7 a0) <|
                  Obls.cons (Obl.plain rfl rfl fun R' w' hw hs hd=>by have a0:R' 82 = .bool (!x87):=hd 0 _ _ _ rfl rfl rfl rfl rfl;exact zA5 a0) <|
                  Obls.cons (Obl.grd 4 false _ _ _ rfl rfl rfl rfl rfl (by kernel_rfl) fun hg R' w' hw hs hd=>by have a0:R' 13 = .bool x80.2:=(hs 13 rfl).trans h13;exact zA5 a0) <|
                  Obls.cons (Obl.grd 4 false _ _ _ rfl rfl rfl rfl rfl (by kernel_rfl) fun hg R' w' hw hs hd=>by have a0:R' 5 = .bool x7.2:=(hs 5 rfl).trans h5;exact zA5 a0) <|
                  Obls.cons (Obl.grd 4 false _ _ _ rfl rfl rfl rfl rfl (by kernel_rfl) fun hg R' w' hw hs hd=>by have a0:R' 84 = .bool x80.2:=hd 0 _ _ _ rfl rfl rfl rfl hg;have a1:R' 85 = .bool x7.2:=hd 1 _ _ _ rfl rfl rfl rfl hg;exact zGQ Try.underlying4 a0 a1) <|
                  Obls.cons (Obl.plain rfl rfl fun R' w' hw hs hd=>by have a0:R' 83 = .bool (!x87):=hd 0 _ _ _ rfl rfl rfl rfl rfl;exact zCf (!x87) a0 (fun hc=>by show _=Value.bool x89;rw [q90,hc];exact rfl) (fun hc=>by have a2:R' 86 = .bool (x80.2 != x7.2):=hd 1 _ _ _ rfl rfl rfl rfl (zEq rfl (zDd hc));show _=Value.bool x89;rw [q90,hc];exact a2)) <|
                  Obls.nil
              intro R w hw hs hF'
              replace h7:R 7=u27:=(hs 7 rfl).trans h7
              replace h10:R 10 = .int .i64 x65.1:=(hs 10 rfl).trans h10
              have h87:R 87 = .bool x89:=hF' 8 _ _ rfl rfl rfl
              replace hO:=hO.fr hw
              replace hO:IniOK [⟨u27,S71,trR (geB w0.heap.size) (oPt 41 (oPr (oRd (eInt .i64)) (oSl 99 (oRd zA0)))) x65.2 []⟩] A w:=hO.sub [(1,⟨u27,S71,trR (geB w0.heap.size) (oPt 41 (oPr (oRd (eInt .i64)) (oSl 99 (oRd zA0)))) x65.2 []⟩)] ⟨rfl,rfl,trivial⟩
              replace hA:=hA.fr hw.size
              replace hF:=hF.trans hw
              clear hs hF' hw
              refine zA4 ?_
              refine HT.cond x89 h87 (fun c91=>?_) (fun c91=>?_)
              · have hr := zAq c91 hr
                refine HT.seq ?_
                refine HT.text (l:=⟨_,true,.raw (.bool false)⟩::[]) (tl:=[]) (by kernel_rfl) (by kernel_rfl) (by kernel_rfl) ?_ ?_
                · exact
                    Obls.cons (Obl.plain rfl rfl fun R' w' hw hs hd=>by exact zA6 rfl) <|
                    Obls.nil
                intro R w hw hs hF'
                have h2:R 2 = .bool false:=hF' 0 _ _ rfl rfl rfl
                replace hO:=hO.fr hw
                replace hO:IniOK [] A w:=hO.sub [] trivial
                replace hA:=hA.fr hw.size
                replace hF:=hF.trans hw
                clear hs hF' hw
                refine zA4 ?_
                refine HT.ret ?_
                obtain rfl:=Option.some.inj hr
                exact ⟨.inr rfl,[R 2],⟨rfl,trivial⟩,h2,hF⟩
              · have hr := zAp c91 hr
                refine HT.skip ?_
                refine HT.seq ?_
                refine HT.text (l:=⟨_,true,.raw (.int .i64 (1:Int))⟩::[]) (tl:=[]) (by kernel_rfl) (by kernel_rfl) (by kernel_rfl) ?_ ?_
                · exact
                    Obls.cons (Obl.plain rfl rfl fun R' w' hw hs hd=>by exact zA6 rfl) <|
                    Obls.nil
                intro R w hw hs hF'
                replace h7:R 7=u27:=(hs 7 rfl).trans h7
                replace h10:R 10 = .int .i64 x65.1:=(hs 10 rfl).trans h10
                have h11:R 11 = .int .i64 (1:Int):=hF' 0 _ _ rfl rfl rfl
                replace hO:=hO.fr hw
                replace hA:=hA.fr hw.size
                replace hF:=hF.trans hw
                clear hs hF' hw
                refine zA4 ?_
                refine HT.seq ?_
                obtain ⟨x92,q93,hr⟩:=zAK hr
                refine HT.textR [⟨u27,S71,trR (geB w0.heap.size) (oPt 41 (oPr (oRd (eInt .i64)) (oSl 99 (oRd zA0)))) x65.2 []⟩] (⟨_,true,[0],some (.nul),false,fun A=>.rep zA8 A x65.2⟩::⟨_,true,[],none,true,fun A=>.raw (.int .i64 (1:Int))⟩::⟨_,true,[],none,true,fun A=>.raw (.int .i64 x92)⟩::⟨_,true,[],none,true,fun A=>.raw (.int .i64 x92)⟩::[]) (by kernel_rfl) (by kernel_rfl) (Wf.mk' (by kernel_rfl) (UAll.cons zAn (UAll.cons zAA (UAll.cons zAA (UAll.cons zAA (UAll.nil))))) (by kernel_rfl) (by kernel_rfl)) hO hA ?_ ?_
                · exact
                    zA9.cons (OblR.tookS 0 .nul _ rfl rfl rfl rfl rfl fun A' R' w' ho hd u S hok hown hav hin hop hds=>by have a0:R' 7=u27:=(ho.old 7 rfl).trans h7;exact zI0 hown.2 (a0.trans (hin _ rfl).1.symm) hav Try.isAgg41 Try.sizeOf41) <|
                    zA9.cons (OblR.plain rfl rfl rfl rfl fun A' R' w' ho hd=>by have a0:R' 11 = .int .i64 (1:Int):=(ho.old 11 rfl).trans h11;exact zA5 a0) <|
                    zA9.cons (OblR.plain rfl rfl rfl rfl fun A' R' w' ho hd=>by have a0:Rep zA8 A' w' (R' 88) x65.2:=hd 0 _ _ _ rfl rfl rfl rfl rfl;have a1:R' 89 = .int .i64 (1:Int):=hd 1 _ _ _ rfl rfl rfl rfl rfl;exact zAl Try.call22 (zDa (q93 rfl) ho.av a0 a1)) <|
                    zA9.cons (OblR.plain rfl rfl rfl rfl fun A' R' w' ho hd=>by have a0:R' 90 = .int .i64 x92:=hd 0 _ _ _ rfl rfl rfl rfl rfl;exact zA6 a0) <|
                    zA9.nil
                intro done ρ σ A R w hdn hI
                replace h10:R 10 = .int .i64 x65.1:=(hI.reg rfl).trans h10
                have h11:R 11 = .int .i64 x92:=hI.fact hdn (i:=3) rfl rfl rfl
                replace hAA:=hI.low' hAA hA0 (hO.ge (⟨fun _ h=>h,trivial⟩))
                replace hF:Fr w0 w:=hF.tr hI.ch (hO.ge (⟨fun _ h=>h,trivial⟩))
                replace hO:IniOK [] A w:=hI.left hdn [] trivial
                replace hA:=hI.avok
                clear hI
                refine HT.seq ?_
                refine HT.seq ?_
                refine HT.text (l:=⟨_,true,.raw (.int .i64 x92)⟩::⟨_,true,.raw (.bool (decide (x92<(0:Int))))⟩::[]) (tl:=[]) (by kernel_rfl) (by kernel_rfl) (by kernel_rfl) ?_ ?_
                · exact
                    Obls.cons (Obl.plain rfl rfl fun R' w' hw hs hd=>by have a0:R' 11 = .int .i64 x92:=(hs 11 rfl).trans h11;exact zA5 a0) <|
                    Obls.cons (Obl.plain rfl rfl fun R' w' hw hs hd=>by have a0:R' 91 = .int .i64 x92:=hd 0 _ _ _ rfl rfl rfl rfl rfl;exact zBI a0 rfl) <|
                    Obls.nil
                intro R w hw hs hF'
                replace h10:R 10 = .int .i64 x65.1:=(hs 10 rfl).trans h10
                replace h11:R 11 = .int .i64 x92:=(hs 11 rfl).trans h11
                have h92:R 92 = .bool (decide (x92<(0:Int))):=hF' 1 _ _ rfl rfl rfl
                replace hO:=hO.fr hw
                replace hA:=hA.fr hw.size
                replace hF:=hF.trans hw
                clear hs hF' hw
                refine zA4 ?_
                refine HT.cond (decide (x92<(0:Int))) h92 (fun c94=>?_) (fun c94=>?_)
                · have hr := zAq c94 hr
                  refine HT.seq ?_
                  refine HT.text (l:=⟨_,true,.raw (.bool false)⟩::[]) (tl:=[]) (by kernel_rfl) (by kernel_rfl) (by kernel_rfl) ?_ ?_
                  · exact
                      Obls.cons (Obl.plain rfl rfl fun R' w' hw hs hd=>by exact zA6 rfl) <|
                      Obls.nil
                  intro R w hw hs hF'
                  have h2:R 2 = .bool false:=hF' 0 _ _ rfl rfl rfl
                  replace hO:=hO.fr hw
                  replace hA:=hA.fr hw.size
                  replace hF:=hF.trans hw
                  clear hs hF' hw
                  refine zA4 ?_
                  refine HT.ret ?_
                  obtain rfl:=Option.some.inj hr
                  exact ⟨.inr rfl,[R 2],⟨rfl,trivial⟩,h2,hF⟩
                · have hr := zAp c94 hr
                  refine HT.skip ?_
                  refine HT.seq ?_
                  refine HT.seq ?_
                  refine HT.text (l:=⟨_,true,.raw (.int .i64 x92)⟩::⟨_,true,.raw (.int .i64 x65.1)⟩::⟨_,true,.raw (.bool (x92 != x65.1))⟩::[]) (tl:=[]) (by kernel_rfl) (by kernel_rfl) (by kernel_rfl) ?_ ?_
                  · exact
                      Obls.cons (Obl.plain rfl rfl fun R' w' hw hs hd=>by have a0:R' 11 = .int .i64 x92:=(hs 11 rfl).trans h11;exact zA5 a0) <|
                      Obls.cons (Obl.plain rfl rfl fun R' w' hw hs hd=>by have a0:R' 10 = .int .i64 x65.1:=(hs 10 rfl).trans h10;exact zA5 a0) <|
                      Obls.cons (Obl.plain rfl rfl fun R' w' hw hs hd=>by have a0:R' 93 = .int .i64 x92:=hd 0 _ _ _ rfl rfl rfl rfl rfl;have a1:R' 94 = .int .i64 x65.1:=hd 1 _ _ _ rfl rfl rfl rfl rfl;exact zDK a0 a1) <|
                      Obls.nil
                  intro R w hw hs hF'
                  have h95:R 95 = .bool (x92 != x65.1):=hF' 2 _ _ rfl rfl rfl
                  replace hO:=hO.fr hw
                  replace hA:=hA.fr hw.size
                  replace hF:=hF.trans hw
                  clear hs hF' hw
                  refine zA4 ?_
                  refine HT.cond (x92 != x65.1) h95 (fun c95=>?_) (fun c95=>?_)
                  · have hr := zAq c95 hr
                    refine HT.seq ?_
                    refine HT.text (l:=⟨_,true,.raw (.bool false)⟩::[]) (tl:=[]) (by kernel_rfl) (by kernel_rfl) (by kernel_rfl) ?_ ?_
                    · exact
                        Obls.cons (Obl.plain rfl rfl fun R' w' hw hs hd=>by exact zA6 rfl) <|
                        Obls.nil
                    intro R w hw hs hF'
                    have h2:R 2 = .bool false:=hF' 0 _ _ rfl rfl rfl
                    replace hO:=hO.fr hw
                    replace hA:=hA.fr hw.size
                    replace hF:=hF.trans hw
                    clear hs hF' hw
                    refine zA4 ?_
                    refine HT.ret ?_
                    obtain rfl:=Option.some.inj hr
                    exact ⟨.inr rfl,[R 2],⟨rfl,trivial⟩,h2,hF⟩
                  · have hr := zAp c95 hr
                    refine HT.skip ?_
                    refine HT.seq ?_
                    refine HT.text (l:=⟨_,true,.raw (.bool true)⟩::[]) (tl:=[]) (by kernel_rfl) (by kernel_rfl) (by kernel_rfl) ?_ ?_
                    · exact
                        Obls.cons (Obl.plain rfl rfl fun R' w' hw hs hd=>by exact zA6 rfl) <|
                        Obls.nil
                    intro R w hw hs hF'
                    have h2:R 2 = .bool true:=hF' 0 _ _ rfl rfl rfl
                    replace hO:=hO.fr hw
                    replace hA:=hA.fr hw.size
                    replace hF:=hF.trans hw
                    clear hs hF' hw
                    refine zA4 ?_
                    refine HT.ret ?_
                    obtain rfl:=Option.some.inj hr
                    exact ⟨.inr rfl,[R 2],⟨rfl,trivial⟩,h2,hF⟩
end Go.Proofs.Ytmkgocdgkdglnaa

namespace Go.Proofs.Ytmkgocdgkdglnaa
open Go.RowKit
set_option linter.unusedVariables false
theorem zAS {α β:Type} [Inhabited α] {x:α} {k:α→Option β}:cl true (some x) k=k x:=rfl
theorem zK9 {α β:Type} [Inhabited α] {g:Bool} {x:α} {k:α→Option β}:cl g (some x) k=k (bif g then x else default):=by cases g <;> rfl
theorem zG5 {α β:Type} {e:α} {k:α→Option β}:bd e k=k e:=rfl
theorem ck_t {α:Type} {b:Bool} {k:Option α} (h:b=true):ck b k=k:=by rw [h];rfl
theorem zEZ {α:Type} {k:Option α}:ck true k=k:=rfl
theorem zHQ {ρ σ γ:Type} {r:ρ} {f:ρ→Option γ} {g:σ→Option γ}:exM (.ret r) f g=f r:=rfl
theorem zId {ρ σ γ:Type} {s:σ} {f:ρ→Option γ} {g:σ→Option γ}:exM (.go s) f g=g s:=rfl
theorem zBe {i:Nat} {n:Nat} (h:i<n):inR (i:Int) n=true:=zDu.2 ⟨by omega,by omega⟩
theorem zLJ {i:Int} {n:Nat} (h0:0≤i) (h:i<n):inR i n=true:=zDu.2 ⟨h0,h⟩
theorem zCY {x:Int} (h0:-9223372036854775808≤x) (h1:x≤9223372036854775807):i64B x=true:=by simp [i64B,h0,h1]
theorem zJi {α : Type} {xs : List α} {L : Nat → Int → List α → Option (List α)} 
    (hs:∀ k i ys x,i<xs.length→ys.length=xs.length→xs[i]? = some x→L (k+1) ((i:Nat):Int) ys=L k ((i+1:Nat):Int) (ys.set i x)) (he:∀ k ys,L (k+1) ((xs.length:Nat):Int) ys=some ys) :
    ∀ m i k ys,i+m=xs.length→m<k→ys.length=xs.length→ys.take i=xs.take i→L k ((i:Nat):Int) ys=some xs:=by
  intro m
  induction m with
  | zero=>
    intro i k ys hi hk hy ht
    obtain ⟨k,rfl⟩:∃ q,k=q+1:=⟨k-1,by omega⟩
    obtain rfl:i=xs.length:=by omega
    rw [he]
    rw [List.take_of_length_le (by omega),List.take_of_length_le (by omega)] at ht
    rw [ht]
  | succ m ih=>
    intro i k ys hi hk hy ht
    obtain ⟨k,rfl⟩:∃ q,k=q+1:=⟨k-1,by omega⟩
    have hlt:i<xs.length:=by omega
    rw [hs k i ys _ hlt hy (List.getElem?_eq_getElem hlt)]
    refine ih (i+1) k _ (by omega) (by omega) (by rw [List.length_set,hy]) ?_
    apply List.ext_getElem?
    intro j
    rw [List.getElem?_take,List.getElem?_take]
    split
    · rename_i hj
      rcases Nat.lt_or_ge j i with h | h
      · have := congrArg (fun l => l[j]?) ht
        simp only [List.getElem?_take,if_pos h] at this
        rw [List.getElem?_set_ne (by omega)]
        exact this
      · obtain rfl : j = i := by omega
        rw [List.getElem?_set_self (by omega),List.getElem?_eq_getElem hlt]
    · rfl
theorem zAk {α:Type} [Inhabited α] {xs:List α} {i:Nat} {x:α} (h:xs[i]? = some x):gtD xs (i:Int)=x:=by
  unfold gtD
  rw [Int.toNat_natCast,List.getD_eq_getElem?_getD,h]
  rfl
end Go.Proofs.Ytmkgocdgkdglnaa
namespace Go.Proofs.Ytmkgocdgkdglnaa
open Go.RowKit
set_option linter.unusedVariables false
theorem zEn {n:Nat} (h:n≤4294967296):zFo n=true:=Nat.ble_eq_true_of_le h
theorem zKx {n:Nat} (h:n≤1048577):mkOK (n:Int)=true:=by simp [mkOK];omega
end Go.Proofs.Ytmkgocdgkdglnaa
namespace Go.Proofs.Ytmkgocdgkdglnaa
open Go.RowKit
set_option linter.unusedVariables false
theorem lt_t {i n:Nat} (h:i<n):decide ((i:Int)<(n:Int))=true:=by simpa using h
theorem lt_f (n:Nat):decide ((n:Int)<(n:Int))=false:=decide_eq_false (Int.lt_irrefl _)
theorem zD5 {i:Nat} (hn:i≤4294967296):i64B ((i:Int)+1)=true:=zCY (by omega) (by omega)
theorem zCj {α:Type} {xs:List α} {i:Nat} {x:α} (h:xs[i]? = some x):i<xs.length:=(List.getElem?_eq_some_iff.1 h).1
theorem zD4 {α:Type} {xs:List α} {i:Nat} {x:α} (h:xs[i]? = some x):x ∈ xs:=List.mem_of_getElem? h
theorem zBn (i:Nat):(i:Int)+1=((i+1:Nat):Int):=rfl
theorem zFG {α:Type} (xs:List α) (i:Nat) (x:α):xs.set ((i:Nat):Int).toNat x=xs.set i x:=by rw [Int.toNat_natCast]
theorem zIK {α:Type} [Inhabited α] {xs:List α} {i:Nat} (h:i<xs.length) (x:α):gtD (xs.set i x) (i:Int)=x:=zAk (List.getElem?_set_self h)
def szR (n:Int) (w:Nat):Int:=if (w:Int)≤n then n-w else -1
theorem zHu {n:Int} {w:Nat} (h:(w:Int)≤n):decide (szR n w<0)=false:=by
  unfold szR
  rw [if_pos h]
  exact decide_eq_false (by omega)
theorem zHn {n:Int} {w:Nat} (h:¬ (w:Int)≤n):decide (szR n w<0)=true:=by
  unfold szR
  rw [if_neg h]
  rfl
theorem zLN {n:Int} {w:Nat} (h:(w:Int)≤n):szR n w=n-w:=if_pos h
theorem zK7 {n:Int} {w v:Nat} (h:(w:Int)≤n):szR (n-w) v=szR n (w+v):=by
  unfold szR
  by_cases h2:(v:Int)≤n-w
  · rw [if_pos h2, if_pos (by omega)]
    omega
  · rw [if_neg h2,if_neg (by omega)]
theorem zK0 {n:Int} {w v:Nat} (h:¬ (w:Int)≤n):szR n (w+v) = -1:=if_neg (by omega)
theorem zM5 {n : Int} {l : Nat} (hn : 0 ≤ n) (hn1 : n ≤ 1048576) (hl : l ≤ maxLen) {c : Option Int} {r : Int} (h1 : ¬ (l : Int) ≤ n → r = -1) (h2 : (l : Int) ≤ n → c = some r) :
    (ck (i64B (n-(l:Int)))<|bif (decide ((n-(l:Int))<(0:Int))) then some (-1:Int) else c)=some r:=by
  unfold maxLen at hl
  rw [ck_t (zCY (by omega) (by omega))]
  by_cases h:(l:Int)≤n
  · rw [decide_eq_false (by omega), cond_false]
    exact h2 h
  · rw [decide_eq_true (by omega),cond_true,h1 h]
def wL {α:Type} (f:α→Nat) (xs:List α):Nat:=xs.length+(xs.map f).sum
theorem zC2 {α:Type} {xs:List α} {i:Nat} {x:α} (h:xs[i]? = some x):xs.drop i=x::xs.drop (i+1):=by
  obtain ⟨h1,rfl⟩:=List.getElem?_eq_some_iff.1 h
  exact List.drop_eq_getElem_cons h1
theorem zKY {α : Type} {xs : List α} {f : α → Nat} {L : Nat → Int → Int → Option (Ex Int Int)}
    (hs:∀ k y (i:Nat) x,xs[i]? = some x→0≤y→y≤1048576→L (k+1) y (i:Int)=bif decide (szR y (f x)<0) then some (.ret (-1)) else L k (szR y (f x)) ((i+1:Nat):Int))
    (he:∀ k y,L (k+1) y (xs.length:Int)=some (.go y)) :
    ∀ m i k y,i+m=xs.length→m<k→0≤y→y≤1048576→L k y ((i:Nat):Int)=some (if ((((xs.drop i).map f).sum:Nat):Int)≤y then .go (szR y ((xs.drop i).map f).sum) else .ret (-1)):=by
  intro m
  induction m with
  | zero=>
    intro i k y hi hk h0 h1
    obtain ⟨k,rfl⟩:∃ q,k=q+1:=⟨k-1,by omega⟩
    obtain rfl:i=xs.length:=by omega
    rw [he,List.drop_length]
    simp [szR,h0]
  | succ m ih=>
    intro i k y hi hk h0 h1
    obtain ⟨k,rfl⟩:∃ q,k=q+1:=⟨k-1,by omega⟩
    have hlt:i<xs.length:=by omega
    have hx:=List.getElem?_eq_getElem hlt
    rw [hs k y i _ hx h0 h1,zC2 hx,List.map_cons,List.sum_cons]
    by_cases h:(f xs[i]:Int)≤y
    · rw [zHu h, cond_false, zLN h, ih (i + 1) k _ (by omega) (by omega) (by omega) (by omega), zK7 h]
      congr 1
      by_cases h2:((((xs.drop (i+1)).map f).sum:Nat):Int)≤y-(f xs[i]:Int)
      · rw [if_pos h2,if_pos (by omega)]
      · rw [if_neg h2,if_neg (by omega)]
    · rw [zHn h,cond_true,if_neg (by omega)]
theorem zLL {α : Type} {xs : List α} {f : α → Nat} {L : Nat → Int → Int → Option (Ex Int Int)} {n : Int} {fu : Nat} (hn : 0 ≤ n) (hn1 : n ≤ 1048576) (hl : xs.length ≤ maxLen) (hf : 1048577 ≤ fu)
    (hs:∀ k y (i:Nat) x,xs.length≤1048576→xs[i]? = some x→0≤y→y≤1048576→L (k+1) y (i:Int)=bif decide (szR y (f x)<0) then some (.ret (-1)) else L k (szR y (f x)) ((i+1:Nat):Int))
    (he:∀ k y,L (k+1) y (xs.length:Int)=some (.go y)) :
    (ck (i64B (n-(xs.length:Int)))<|bif (decide ((n-(xs.length:Int))<(0:Int))) then some (-1:Int) else cl true (L fu (n-(xs.length:Int)) (0:Int)) fun rl=>exM rl (fun r=>some r) fun s=>some s)=some (szR n (wL f xs)):=by
  refine zM5 hn hn1 hl (fun h=>zK0 h) fun h=>?_
  have:=zKY (fun k y i x=>hs k y i x (by omega)) he xs.length 0 fu (n-(xs.length:Int)) (by omega) (by omega) (by omega) (by omega)
  rw [show ((0:Nat):Int)=0 from rfl] at this
  rw [this,zAS,List.drop_zero]
  by_cases h2:(((xs.map f).sum:Nat):Int)≤n-(xs.length:Int)
  · rw [if_pos h2, zK7 h]
    rfl
  · rw [if_neg h2]
    unfold wL szR
    rw [if_neg (by omega)]
    rfl
theorem zEm {α : Type} {f : α → Nat} {x : α} : ∀ {xs : List α}, x ∈ xs → f x ≤ (xs.map f).sum
  | y::ys,h=>by
    rw [List.map_cons,List.sum_cons]
    rcases List.mem_cons.1 h with rfl | h
    · omega
    · have := zEm (f := f) h
      omega
theorem zJg {α : Type} [Inhabited α] {xs : List α} {z : α} {L : Nat → Int → List α → Option (List α)} {fu : Nat} (hl : xs.length ≤ 1048576) (hf : 1048577 ≤ fu)
    (hs:∀ k (i:Nat) ys x,i<xs.length→ys.length=xs.length→xs[i]? = some x→L (k+1) ((i:Nat):Int) ys=L k ((i+1:Nat):Int) (ys.set i x)) (he:∀ k ys,L (k+1) (xs.length:Int) ys=some ys) :
    (ck (mkOK (xs.length:Int))<|cl true (L fu (0:Int) (List.replicate (xs.length:Int).toNat z)) fun s=>some s)=some xs:=by
  rw [ck_t (zKx (by omega))]
  have:=zJi hs he xs.length 0 fu (List.replicate (xs.length:Int).toNat z) (by omega) (by omega) (by simp) (by simp)
  rw [show ((0:Nat):Int)=0 from rfl] at this
  rw [this]
  rfl
theorem zLO {α : Type} [BEq α] {xs ys : List α} (hl : xs.length = ys.length) {L : Nat → Int → Option (Ex Bool Unit)}
    (hs:∀ k (i:Nat) x y,xs[i]? = some x→ys[i]? = some y→L (k+1) (i:Int)=bif !(x==y) then some (.ret false) else L k ((i+1:Nat):Int))
    (he:∀ k,L (k+1) (xs.length:Int)=some (.go ())) :
    ∀ m i k,i+m=xs.length→m<k→L k ((i:Nat):Int)=some (bif xs.drop i==ys.drop i then .go () else .ret false):=by
  intro m
  induction m with
  | zero=>
    intro i k hi hk
    obtain ⟨k,rfl⟩:∃ q,k=q+1:=⟨k-1,by omega⟩
    obtain rfl:i=xs.length:=by omega
    rw [he,List.drop_length,hl,List.drop_length]
    rfl
  | succ m ih=>
    intro i k hi hk
    obtain ⟨k,rfl⟩:∃ q,k=q+1:=⟨k-1,by omega⟩
    have hx:=List.getElem?_eq_getElem (show i<xs.length by omega)
    have hy:=List.getElem?_eq_getElem (show i<ys.length by omega)
    rw [hs k i _ _ hx hy,zC2 hx,zC2 hy,List.cons_beq_cons]
    cases xs[i]==ys[i]
    · rfl
    · rw [Bool.not_true, cond_false, Bool.true_and]
      exact ih (i+1) k (by omega) (by omega)
theorem zJa {α : Type} [BEq α] : ∀ {xs ys : List α}, xs.length ≠ ys.length → (xs == ys) = false
  | [],[],h=>absurd rfl h
  | [],_::_,_=>rfl
  | _::_,[],_=>rfl
  | x::xs,y::ys,h=>by
    rw [List.cons_beq_cons,zJa (xs:=xs) (ys:=ys) (fun e=>h (by simp [e])),Bool.and_false]
theorem zIb {α : Type} [BEq α] {xs ys : List α} {L : Nat → Int → Option (Ex Bool Unit)} {fu : Nat} (hf : xs.length < fu)
    (hs:∀ k (i:Nat) x y,xs.length=ys.length→xs[i]? = some x→ys[i]? = some y→L (k+1) (i:Int)=bif !(x==y) then some (.ret false) else L k ((i+1:Nat):Int))
    (he:∀ k,L (k+1) (xs.length:Int)=some (.go ())) :
    (bif ((xs.length:Int) != (ys.length:Int)) then some false else cl true (L fu (0:Int)) fun rl=>exM rl (fun r=>some r) fun s=>some true)=some (xs==ys):=by
  by_cases hl:xs.length=ys.length
  · have h1 : ((xs.length : Int) != (ys.length : Int)) = false := by simp [hl]
    have:=zLO hl (fun k i x y=>hs k i x y hl) he xs.length 0 fu (by omega) (by omega)
    rw [show ((0:Nat):Int)=0 from rfl,List.drop_zero,List.drop_zero] at this
    rw [h1,cond_false,this,zAS]
    cases xs==ys <;> rfl
  · have h1 : ((xs.length : Int) != (ys.length : Int)) = true := by simp; omega
    rw [h1,cond_true,zJa hl]
def cW {α:Type} (c:α→Int) (xs:List α):Int:=(xs.map c).sum
theorem zHG {α:Type} {c:α→Int} {x:α} {xs:List α}:cW c (x::xs)=c x+cW c xs:=by simp [cW]
theorem zEI {α : Type} {c : α → Int} (hc : ∀ x, 0 ≤ c x) : ∀ xs : List α, 0 ≤ cW c xs
  | []=>Int.le_refl _
  | x::xs=>by rw [zHG];have:=hc x;have:=zEI hc xs;omega
theorem zH8 {α : Type} {c : α → Int} {f : α → Nat} (h : ∀ x, c x ≤ 8 * (f x : Int) + 8) : ∀ xs : List α, cW c xs ≤ 8 * (wL f xs : Int)
  | []=>by simp [cW,wL]
  | x::xs=>by
    have h1:=zH8 h xs
    have h2:=h x
    rw [zHG]
    unfold wL at h1 ⊢
    simp only [List.length_cons,List.map_cons,List.sum_cons]
    omega
def mkW {α : Type} (f : α → Int → α) (c : α → Int) : List α → Int → List α
  | [],_=>[]
  | x::xs,k=>f x k::mkW f c xs (k+c x)
theorem zFv {α : Type} {f : α → Int → α} {c : α → Int} : ∀ {xs : List α} {k : Int}, (mkW f c xs k).length = xs.length
  | [],_=>rfl
  | x::xs,k=>by simp [mkW,zFv]
theorem zLQ {α : Type} {f : α → Int → α} {c : α → Int} {Bd : α → Prop} {n : Nat} {lim : Int} {L : Nat → Int → Int → List α → Option (Int × List α)} (hc : ∀ x, 0 ≤ c x)
    (hs:∀ k y (i:Nat) ys x,i<n→ys.length=n→ys[i]? = some x→0<y→y+c x≤lim→Bd x→L (k+1) y (i:Int) ys=L k (y+c x) ((i+1:Nat):Int) (ys.set i (f x y)))
    (he:∀ k y ys,ys.length=n→L (k+1) y (n:Int) ys=some (y,ys)) :
    ∀ m i k y ys,i+m=n→m<k→ys.length=n→0<y→y+cW c (ys.drop i)≤lim→(∀ x ∈ ys.drop i,Bd x)→L k y ((i:Nat):Int) ys=some (y+cW c (ys.drop i),ys.take i++mkW f c (ys.drop i) y):=by
  intro m
  induction m with
  | zero=>
    intro i k y ys hi hk hl h0 h1 hb
    obtain ⟨k,rfl⟩:∃ q,k=q+1:=⟨k-1,by omega⟩
    obtain rfl:i=n:=by omega
    rw [he k y ys hl,List.drop_of_length_le (by omega),List.take_of_length_le (by omega)]
    simp [cW,mkW]
  | succ m ih=>
    intro i k y ys hi hk hl h0 h1 hb
    obtain ⟨k,rfl⟩:∃ q,k=q+1:=⟨k-1,by omega⟩
    have hlt:i<ys.length:=by omega
    have hx:=List.getElem?_eq_getElem hlt
    rw [zC2 hx] at h1 hb ⊢
    rw [zHG] at h1 ⊢
    have hc1:=hc ys[i]
    have hc2:=zEI hc (ys.drop (i+1))
    have hd:(ys.set i (f ys[i] y)).drop (i+1)=ys.drop (i+1):=List.drop_set_of_lt (by omega)
    have ht:(ys.set i (f ys[i] y)).take (i+1)=ys.take i ++ [f ys[i] y]:=by
      rw [List.take_add_one,List.take_set_of_le (Nat.le_refl _),List.getElem?_set_self hlt]
      rfl
    rw [hs k y i ys _ (by omega) hl hx h0 (by omega) (hb _ (List.mem_cons_self ..)),ih (i+1) k _ _ (by omega) (by omega) (by rw [List.length_set];exact hl) (by omega) (by rw [hd];omega) (by rw [hd];exact fun x hx=>hb x (List.mem_cons_of_mem _ hx)),hd,ht,mkW,List.append_assoc,Int.add_assoc]
    rfl
theorem zGe {α : Type} {f : α → Int → α} {c : α → Int} {Bd : α → Prop} {lim : Int} {L : Nat → Int → Int → List α → Option (Int × List α)} {xs : List α} {k : Int} {fu : Nat} (hc : ∀ x, 0 ≤ c x) (hf : xs.length < fu) (hk : 0 < k) (h1 : k + cW c xs ≤ lim) (hb : ∀ x ∈ xs, Bd x)
    (hs:∀ k y (i:Nat) ys x,i<xs.length→ys.length=xs.length→ys[i]? = some x→0<y→y+c x≤lim→Bd x→L (k+1) y (i:Int) ys=L k (y+c x) ((i+1:Nat):Int) (ys.set i (f x y)))
    (he:∀ k y ys,ys.length=xs.length→L (k+1) y (xs.length:Int) ys=some (y,ys)) :
    (cl true (L fu k (0:Int) xs) fun s=>some (s.1,s.2))=some (k+cW c xs,mkW f c xs k):=by
  have:=zLQ hc hs he xs.length 0 fu k xs (by omega) (by omega) rfl hk (by rw [List.drop_zero];exact h1) (by rw [List.drop_zero];exact hb)
  rw [show ((0:Nat):Int)=0 from rfl,List.drop_zero] at this
  rw [this]
  rfl
theorem zKi {α:Type} {f:α→Int→α} {c:α→Int} {zs:List α} {i:Nat} {x:α} {xs:List α} {k:Int} (h:zs.drop i=mkW f c (x::xs) k):zs[i]? = some (f x k)∧zs.drop (i+1)=mkW f c xs (k+c x):=by
  have h1:(zs.drop i)[0]? = some (f x k):=by rw [h];rfl
  rw [List.getElem?_drop,Nat.add_zero] at h1
  refine ⟨h1,?_⟩
  have h2:=zC2 h1
  rw [h] at h2
  injection h2 with _ h2
  exact h2.symm
theorem zLn {α : Type} {f : α → Int → α} {c : α → Int} {Bd : α → Prop} {zs : List α} {lim : Int} {L : Nat → Int → Int → Option (Ex Int Int)} (hc : ∀ x, 0 ≤ c x)
    (hs:∀ k y (i:Nat) x,zs[i]? = some (f x y)→0<y→y+c x≤lim→Bd x→L (k+1) y (i:Int)=L k (y+c x) ((i+1:Nat):Int))
    (he:∀ k y,L (k+1) y (zs.length:Int)=some (.go y)) :
    ∀ xs i k y,i+xs.length=zs.length→xs.length<k→0<y→y+cW c xs≤lim→(∀ x ∈ xs,Bd x)→zs.drop i=mkW f c xs y→L k y ((i:Nat):Int)=some (.go (y+cW c xs)):=by
  intro xs
  induction xs with
  | nil=>
    intro i k y hi hk h0 h1 hb hz
    obtain ⟨k,rfl⟩:∃ q,k=q+1:=⟨k-1,by omega⟩
    obtain rfl:i=zs.length:=by simpa using hi
    rw [he]
    simp [cW]
  | cons x xs ih=>
    intro i k y hi hk h0 h1 hb hz
    obtain ⟨k,rfl⟩:∃ q,k=q+1:=⟨k-1,by omega⟩
    obtain ⟨hx,hz'⟩:=zKi hz
    rw [zHG] at h1 ⊢
    simp only [List.length_cons] at hi hk
    have hc1:=hc x
    have hc2:=zEI hc xs
    rw [hs k y i x hx h0 (by omega) (hb _ (List.mem_cons_self ..)),ih (i+1) k _ (by omega) (by omega) (by omega) (by omega) (fun x hx=>hb x (List.mem_cons_of_mem _ hx)) hz',Int.add_assoc]
theorem zJj {α : Type} {f : α → Int → α} {c : α → Int} {Bd : α → Prop} {lim : Int} {L : Nat → Int → Int → Option (Ex Int Int)} {xs zs : List α} {k : Int} {fu : Nat} (hz : zs = mkW f c xs k) (hc : ∀ x, 0 ≤ c x) (hf : xs.length < fu) (hk : 0 < k) (h1 : k + cW c xs ≤ lim) (hb : ∀ x ∈ xs, Bd x)
    (hs:∀ k y (i:Nat) x,zs[i]? = some (f x y)→0<y→y+c x≤lim→Bd x→L (k+1) y (i:Int)=L k (y+c x) ((i+1:Nat):Int))
    (he:∀ k y,L (k+1) y (zs.length:Int)=some (.go y)) :
    (cl true (L fu k (0:Int)) fun rl=>exM rl (fun r=>some r) fun s=>some s)=some (k+cW c xs):=by
  have:=zLn hc hs he xs 0 fu k (by rw [hz,zFv];omega) (by omega) hk h1 hb (by rw [List.drop_zero];exact hz)
  rw [show ((0:Nat):Int)=0 from rfl] at this
  rw [this]
  rfl
end Go.Proofs.Ytmkgocdgkdglnaa
namespace Go.Proofs.Ytmkgocdgkdglnaa
open Go.RowKit
set_option linter.unusedVariables false
set_option linter.unusedSimpArgs false
def zEH (x:(Int) × (Int) × (Bool)):Nat:=0
def zDW (x:List ((Int) × (Int) × (Bool))):Nat:=wL zEH x
def zDJ (x:(List ((Int) × (Int) × (Bool)))):Nat:=zDW x
def zDO (x:List ((List ((Int) × (Int) × (Bool))))):Nat:=wL zDJ x
def zC0 (x:(List ((List ((Int) × (Int) × (Bool)))))):Nat:=zDO x
theorem zK1 {α:Type} {f:α→Nat} (h:∀ x,f x=0) (xs:List α):wL f xs=xs.length:=by
  unfold wL
  have:(xs.map f).sum=0:=by
    induction xs with
    | nil=>rfl
    | cons x xs ih=>simp [h,ih]
  omega
theorem zKj {fu:Nat} {x:List ((Int) × (Int) × (Bool))} {n:Int} (hb:(qS (qP qI (qP qI qT))) x) (h0:0≤n) (h1:n≤1048576) (hf:1048577≤fu):zCq fu x n=some (szR n (zDW x)):=by
  unfold zCq zDW
  rw [zK1 (f:=zEH) (fun _=>rfl)]
  have hl:=hb.1
  unfold maxLen at hl
  rw [ck_t (zCY (by omega) (by omega))]
  unfold szR
  by_cases h:(x.length:Int)≤n
  · rw [decide_eq_false (by omega),cond_false,if_pos h]
  · rw [decide_eq_true (by omega),cond_true,if_neg h]
theorem zL9 {fu:Nat} {x:(List ((Int) × (Int) × (Bool)))} {n:Int} (hb:(qS (qP qI (qP qI qT))) x) (h0:0≤n) (h1:n≤1048576) (hf:1048577≤fu):zDD fu x n=some (szR n (zDJ x)):=by
  unfold zDD zDJ
  rw [zKj hb (by omega) (by omega) hf,zAS]
  by_cases g0:¬ (zDW x:Int)≤n
  · rw [zHn g0, cond_true]
    unfold szR
    rw [if_neg (by omega)]
  replace g0:=Classical.not_not.1 g0
  rw [zHu g0,cond_false,zLN g0]
theorem zKF {fu:Nat} {x:List ((List ((Int) × (Int) × (Bool))))} {n:Int} (hb:(qS (qS (qP qI (qP qI qT)))) x) (h0:0≤n) (h1:n≤1048576) (hf:1048577≤fu):zCw fu x n=some (szR n (zDO x)):=by
  unfold zCw zDO
  refine zLL h0 h1 hb.1 hf (L:=zBh fu x) (fun k y i z hl hz hy hy1=>?_) (fun k y=>by rw [zBh,lt_f];rfl)
  have hi:=zCj hz
  have hq:=hb.2 z (zD4 hz)
  rw [zBh,lt_t hi,cond_true,ck_t (zBe hi),zAk hz,zL9 hq hy hy1 hf,zAS]
  by_cases h:(zDJ z:Int)≤y
  · rw [zHu h,cond_false,cond_false,ck_t (zD5 (by omega)),zBn]
  · rw [zHn h,cond_true,cond_true]
theorem zJB {fu:Nat} {x:(List ((List ((Int) × (Int) × (Bool)))))} {n:Int} (hb:(qS (qS (qP qI (qP qI qT)))) x) (h0:0≤n) (h1:n≤1048576) (hf:1048577≤fu):zCN fu x n=some (szR n (zC0 x)):=by
  unfold zCN zC0
  rw [zKF hb (by omega) (by omega) hf,zAS]
  by_cases g0:¬ (zDO x:Int)≤n
  · rw [zHn g0, cond_true]
    unfold szR
    rw [if_neg (by omega)]
  replace g0:=Classical.not_not.1 g0
  rw [zHu g0,cond_false,zLN g0]
theorem zLH {fu:Nat} {x:(Int) × (Int) × (Bool)} (hw:zEH x≤1048576) (hf:1048577≤fu):zDA fu x=some x:=by
  unfold zEH at hw
  unfold zDA
  rfl
theorem zKg {fu:Nat} {x:List ((Int) × (Int) × (Bool))} (hw:zDW x≤1048576) (hf:1048577≤fu):zCp fu x=some x:=by
  have hw':=hw
  unfold zDW wL at hw'
  unfold zCp
  refine zJg (by omega) hf (L:=zBk fu x) (fun k i ys z hi hl hz=>?_) (fun k ys=>by rw [zBk,lt_f];rfl)
  have hm:=zEm (f:=zEH) (zD4 hz)
  rw [zBk,lt_t hi,cond_true,ck_t (zBe hi),zAk hz,zLH (by omega) hf,zAS,ck_t (zBe (by omega)),ck_t (zD5 (by omega)),zFG,zBn]
theorem zLK {fu:Nat} {x:(List ((Int) × (Int) × (Bool)))} (hw:zDJ x≤1048576) (hf:1048577≤fu):zD9 fu x=some x:=by
  unfold zDJ at hw
  unfold zD9
  rw [zKg (by omega) hf,zAS]
theorem zKc {fu:Nat} {x:List ((List ((Int) × (Int) × (Bool))))} (hw:zDO x≤1048576) (hf:1048577≤fu):zCt fu x=some x:=by
  have hw':=hw
  unfold zDO wL at hw'
  unfold zCt
  refine zJg (by omega) hf (L:=zBi fu x) (fun k i ys z hi hl hz=>?_) (fun k ys=>by rw [zBi,lt_f];rfl)
  have hm:=zEm (f:=zDJ) (zD4 hz)
  rw [zBi,lt_t hi,cond_true,ck_t (zBe hi),zAk hz,zLK (by omega) hf,zAS,ck_t (zBe (by omega)),ck_t (zD5 (by omega)),zFG,zBn]
theorem zJV {fu:Nat} {x:(List ((List ((Int) × (Int) × (Bool)))))} (hw:zC0 x≤1048576) (hf:1048577≤fu):zBG fu x=some x:=by
  unfold zC0 at hw
  unfold zBG
  rw [zKc (by omega) hf,zAS]
theorem zLk {fu:Nat} {x y:(Int) × (Int) × (Bool)} (hw:zEH x≤1048576) (hf:1048577≤fu):zDI fu x y=some (x==y):=by
  obtain ⟨x0,x1,x2⟩:=x
  obtain ⟨y0,y1,y2⟩:=y
  unfold zEH at hw
  try simp only [] at hw
  unfold zDI
  rw [show (((x0,x1,x2):(Int) × (Int) × (Bool))==(y0,y1,y2))=((x0==y0)&&((x1==y1)&&(x2==y2))) from rfl]
  simp only []
  try simp only [bne]
  cases h0:(x0==y0) <;> cases h1:(x1==y1) <;> cases h2:(x2==y2) <;> rfl
theorem zKK {fu:Nat} {x y:List ((Int) × (Int) × (Bool))} (hw:zDW x≤1048576) (hf:1048577≤fu):zCo fu x y=some (x==y):=by
  have hw':=hw
  unfold zDW wL at hw'
  unfold zCo
  refine zIb (by omega) (L:=zBl fu x y) (fun k i z z' hl hz hz'=>?_) (fun k=>by rw [zBl,lt_f];rfl)
  have hi:=zCj hz
  have hm:=zEm (f:=zEH) (zD4 hz)
  rw [zBl,lt_t hi,cond_true,ck_t (zBe hi),ck_t (zBe (zCj hz')),ck_t (zD5 (by omega)),zAk hz,zAk hz',zLk (by omega) hf,zAS,zBn]
theorem zLb {fu:Nat} {x y:(List ((Int) × (Int) × (Bool)))} (hw:zDJ x≤1048576) (hf:1048577≤fu):zDF fu x y=some (x==y):=by
  obtain ⟨x0,hx0⟩:∃ z,z=x:=⟨_,rfl⟩
  obtain ⟨y0,hy0⟩:∃ z,z=y:=⟨_,rfl⟩
  subst hx0 hy0
  unfold zDJ at hw
  unfold zDF
  rw [zKK (by omega) hf,zAS]
  try simp only [bne]
  cases h0:(x0==y0) <;> rfl
theorem zKm {fu:Nat} {x y:List ((List ((Int) × (Int) × (Bool))))} (hw:zDO x≤1048576) (hf:1048577≤fu):zCy fu x y=some (x==y):=by
  have hw':=hw
  unfold zDO wL at hw'
  unfold zCy
  refine zIb (by omega) (L:=zBm fu x y) (fun k i z z' hl hz hz'=>?_) (fun k=>by rw [zBm,lt_f];rfl)
  have hi:=zCj hz
  have hm:=zEm (f:=zDJ) (zD4 hz)
  rw [zBm,lt_t hi,cond_true,ck_t (zBe hi),ck_t (zBe (zCj hz')),ck_t (zD5 (by omega)),zAk hz,zAk hz',zLb (by omega) hf,zAS,zBn]
theorem zJ4 {fu:Nat} {x y:(List ((List ((Int) × (Int) × (Bool)))))} (hw:zC0 x≤1048576) (hf:1048577≤fu):zC6 fu x y=some (x==y):=by
  obtain ⟨x0,hx0⟩:∃ z,z=x:=⟨_,rfl⟩
  obtain ⟨y0,hy0⟩:∃ z,z=y:=⟨_,rfl⟩
  subst hx0 hy0
  unfold zC0 at hw
  unfold zC6
  rw [zKm (by omega) hf,zAS]
  try simp only [bne]
  cases h0:(x0==y0) <;> rfl
def zBN (x:(Int) × (Int) × (Int) × (Int)):Nat:=0
def zBS (x:List ((Int) × (Int) × (Int) × (Int))):Nat:=wL zBN x
def zCb (x:(Int) × (List ((Int) × (Int) × (Int) × (Int)))):Nat:=zBS x.2
theorem zGs {fu:Nat} {x y:(Int) × (Int) × (Int) × (Int)} (hw:zBN x≤1048576) (hf:1048577≤fu):zBx fu x y=some (x==y):=by
  obtain ⟨x0,x1,x2,x3⟩:=x
  obtain ⟨y0,y1,y2,y3⟩:=y
  unfold zBN at hw
  try simp only [] at hw
  unfold zBx
  rw [show (((x0,x1,x2,x3):(Int) × (Int) × (Int) × (Int))==(y0,y1,y2,y3))=((x0==y0)&&((x1==y1)&&((x2==y2)&&(x3==y3)))) from rfl]
  simp only []
  try simp only [bne]
  cases h0:(x0==y0) <;> cases h1:(x1==y1) <;> cases h2:(x2==y2) <;> cases h3:(x3==y3) <;> rfl
theorem zGd {fu:Nat} {x y:List ((Int) × (Int) × (Int) × (Int))} (hw:zBS x≤1048576) (hf:1048577≤fu):zBq fu x y=some (x==y):=by
  have hw':=hw
  unfold zBS wL at hw'
  unfold zBq
  refine zIb (by omega) (L:=zB7 fu x y) (fun k i z z' hl hz hz'=>?_) (fun k=>by rw [zB7,lt_f];rfl)
  have hi:=zCj hz
  have hm:=zEm (f:=zBN) (zD4 hz)
  rw [zB7,lt_t hi,cond_true,ck_t (zBe hi),ck_t (zBe (zCj hz')),ck_t (zD5 (by omega)),zAk hz,zAk hz',zGs (by omega) hf,zAS,zBn]
theorem zJD {fu:Nat} {x y:(Int) × (List ((Int) × (Int) × (Int) × (Int)))} (hw:zCb x≤1048576) (hf:1048577≤fu):zBa fu x y=some (x==y):=by
  obtain ⟨x0,x1⟩:=x
  obtain ⟨y0,y1⟩:=y
  unfold zCb at hw
  try simp only [] at hw
  unfold zBa
  rw [show (((x0,x1):(Int) × (List ((Int) × (Int) × (Int) × (Int))))==(y0,y1))=((x0==y0)&&(x1==y1)) from rfl]
  simp only []
  rw [zGd (by omega) hf,zAS]
  try simp only [bne]
  cases h0:(x0==y0) <;> cases h1:(x1==y1) <;> rfl
def zHU (x:(Int) × (Int) × (Bool)) (k:Int):(Int) × (Int) × (Bool):=(k,k+1,((k+1+1).tmod 3==0))
def zE4 (x:(Int) × (Int) × (Bool)):Int:=1+1+1
theorem zI8 (x:(Int) × (Int) × (Bool)):0≤zE4 x:=by
  unfold zE4
  omega
def zJo (x:List ((Int) × (Int) × (Bool))) (k:Int):List ((Int) × (Int) × (Bool)):=mkW zHU zE4 x k
def zFf (x:List ((Int) × (Int) × (Bool))):Int:=cW zE4 x
theorem zIl (x:List ((Int) × (Int) × (Bool))):0≤zFf x:=zEI zI8 x
theorem zKJ (x:List ((Int) × (Int) × (Bool))):zFf x≤8*(zDW x:Int):=by
  unfold zFf zDW
  refine zH8 (fun x=>?_) x
  unfold zE4 zEH
  omega
def zHR (x:(List ((Int) × (Int) × (Bool)))) (k:Int):(List ((Int) × (Int) × (Bool))):=zJo x (k)
def zE3 (x:(List ((Int) × (Int) × (Bool)))):Int:=zFf x
theorem zHk (x:(List ((Int) × (Int) × (Bool)))):0≤zE3 x:=by
  unfold zE3
  have:=zIl (x)
  omega
def zKA (x:List ((List ((Int) × (Int) × (Bool))))) (k:Int):List ((List ((Int) × (Int) × (Bool)))):=mkW zHR zE3 x k
def zFw (x:List ((List ((Int) × (Int) × (Bool))))):Int:=cW zE3 x
theorem zIn (x:List ((List ((Int) × (Int) × (Bool))))):0≤zFw x:=zEI zHk x
theorem zKs (x:List ((List ((Int) × (Int) × (Bool))))):zFw x≤8*(zDO x:Int):=by
  unfold zFw zDO
  refine zH8 (fun x=>?_) x
  unfold zE3 zDJ
  have:=zKJ (x)
  omega
def zGK (x:(List ((List ((Int) × (Int) × (Bool)))))) (k:Int):(List ((List ((Int) × (Int) × (Bool))))):=zKA x (k)
def zD8 (x:(List ((List ((Int) × (Int) × (Bool)))))):Int:=zFw x
theorem zJI (x:(List ((List ((Int) × (Int) × (Bool)))))):zD8 x≤8*(zC0 x:Int):=by
  unfold zD8 zC0
  have:=zKs (x)
  omega
theorem zJK (x:(List ((List ((Int) × (Int) × (Bool)))))):0≤zD8 x:=by
  unfold zD8
  have:=zIn (x)
  omega
theorem zJ8 {fu:Nat} {x:List ((Int) × (Int) × (Bool))} {k:Int} (hw:zDW x≤1048576) (hk:0<k) (h1:k+zFf x≤4294967296) (hf:1048577≤fu):zCP fu x k=some (k+zFf x,zJo x k):=by
  have hw':=hw
  unfold zDW wL at hw'
  unfold zCP
  have hb:∀ z ∈ x,zEH z≤1048576:=fun z hz=>Nat.le_trans (zEm (f:=zEH) hz) (by omega)
  refine zGe (f:=zHU) (c:=zE4) (Bd:=(fun z:(Int) × (Int) × (Bool)=>zEH z≤1048576)) (lim:=4294967296) (L:=zBP fu) zI8 (by omega) hk h1 hb (fun k y i ys z hi hl hz hy hyl hbz=>?_) (fun k y ys hl=>by rw [zBP,hl,lt_f];rfl)
  have hil:i<ys.length:=by omega
  unfold zE4 at hyl
  rw [zBP,lt_t hil,cond_true]
  have b0:i64B (y+1)=true:=zCY (by omega) (by omega)
  have b1:i64B (y+1+1)=true:=zCY (by omega) (by omega)
  have b2:i64B (y+1+1+1)=true:=zCY (by omega) (by omega)
  have b:i64B ((i:Int)+1)=true:=zD5 (by omega)
  have b':i64B ((i+1:Nat):Int)=true:=b
  simp only [List.length_set,zFG,List.set_set,zBe hil,zEZ,zAS,zBn,zIK hil,zAk hz,b0,b1,b2,b,b',cond_true,cond_false,Bool.not_true,beq_self_eq_true,bne_self_eq_false']
  try simp only [zHU,zE4,Int.add_assoc]
  try rfl
theorem zJN {fu:Nat} {x:List ((List ((Int) × (Int) × (Bool))))} {k:Int} (hw:zDO x≤1048576) (hk:0<k) (h1:k+zFw x≤4294967296) (hf:1048577≤fu):zCO fu x k=some (k+zFw x,zKA x k):=by
  have hw':=hw
  unfold zDO wL at hw'
  unfold zCO
  have hb:∀ z ∈ x,zDJ z≤1048576:=fun z hz=>Nat.le_trans (zEm (f:=zDJ) hz) (by omega)
  refine zGe (f:=zHR) (c:=zE3) (Bd:=(fun z:(List ((Int) × (Int) × (Bool)))=>zDJ z≤1048576)) (lim:=4294967296) (L:=zBO fu) zHk (by omega) hk h1 hb (fun k y i ys z hi hl hz hy hyl hbz=>?_) (fun k y ys hl=>by rw [zBO,hl,lt_f];rfl)
  have hil:i<ys.length:=by omega
  unfold zE3 at hyl
  have hc0:=zIl (z)
  have hbz':zDJ z≤1048576:=hbz
  unfold zDJ at hbz'
  rw [zBO,lt_t hil,cond_true]
  have m0:=zJ8 (x:=z) (k:=y) (by omega) (by omega) (by omega) hf
  have b:i64B ((i:Int)+1)=true:=zD5 (by omega)
  have b':i64B ((i+1:Nat):Int)=true:=b
  simp only [List.length_set,zFG,List.set_set,zBe hil,zEZ,zAS,zBn,zIK hil,zAk hz,m0,b,b',cond_true,cond_false,Bool.not_true,beq_self_eq_true,bne_self_eq_false']
  try simp only [zHR,zE3,Int.add_assoc]
  try rfl
theorem zHe {fu:Nat} {x:(List ((List ((Int) × (Int) × (Bool)))))} {k:Int} (hw:zC0 x≤1048576) (hk:0<k) (h1:k+zD8 x≤4294967296) (hf:1048577≤fu):zBt fu x k=some (k+zD8 x,zGK x k):=by
  unfold zC0 at hw
  unfold zD8 at h1 ⊢
  unfold zBt
  have c0:=zIn (x)
  rw [zJN (by omega) (by omega) (by omega) hf,zAS]
  unfold zGK
  rfl
def zCF (x:(Int) × (Int) × (Int) × (Int)) (k:Int):(Int) × (Int) × (Int) × (Int):=(k,k+1,k+1+1,k+1+1+1)
def zBF (x:(Int) × (Int) × (Int) × (Int)):Int:=1+1+1+1
theorem zDe (x:(Int) × (Int) × (Int) × (Int)):0≤zBF x:=by
  unfold zBF
  omega
def zEC (x:List ((Int) × (Int) × (Int) × (Int))) (k:Int):List ((Int) × (Int) × (Int) × (Int)):=mkW zCF zBF x k
def zBy (x:List ((Int) × (Int) × (Int) × (Int))):Int:=cW zBF x
theorem zDv (x:List ((Int) × (Int) × (Int) × (Int))):0≤zBy x:=zEI zDe x
theorem zGn (x:List ((Int) × (Int) × (Int) × (Int))):zBy x≤8*(zBS x:Int):=by
  unfold zBy zBS
  refine zH8 (fun x=>?_) x
  unfold zBF zBN
  omega
def zEi (x:(Int) × (List ((Int) × (Int) × (Int) × (Int)))) (k:Int):(Int) × (List ((Int) × (Int) × (Int) × (Int))):=(x.1,zEC x.2 (k))
def zCG (x:(Int) × (List ((Int) × (Int) × (Int) × (Int)))):Int:=zBy x.2
theorem zJC (x:(Int) × (List ((Int) × (Int) × (Int) × (Int)))):zCG x≤8*(zCb x:Int):=by
  unfold zCG zCb
  have:=zGn (x.2)
  omega
theorem zJS (x:(Int) × (List ((Int) × (Int) × (Int) × (Int)))):0≤zCG x:=by
  unfold zCG
  have:=zDv (x.2)
  omega
theorem zFl {fu:Nat} {x:List ((Int) × (Int) × (Int) × (Int))} {k:Int} (hw:zBS x≤1048576) (hk:0<k) (h1:k+zBy x≤4294967296) (hf:1048577≤fu):zBW fu x k=some (k+zBy x,zEC x k):=by
  have hw':=hw
  unfold zBS wL at hw'
  unfold zBW
  have hb:∀ z ∈ x,zBN z≤1048576:=fun z hz=>Nat.le_trans (zEm (f:=zBN) hz) (by omega)
  refine zGe (f:=zCF) (c:=zBF) (Bd:=(fun z:(Int) × (Int) × (Int) × (Int)=>zBN z≤1048576)) (lim:=4294967296) (L:=zB1 fu) zDe (by omega) hk h1 hb (fun k y i ys z hi hl hz hy hyl hbz=>?_) (fun k y ys hl=>by rw [zB1,hl,lt_f];rfl)
  have hil:i<ys.length:=by omega
  unfold zBF at hyl
  rw [zB1,lt_t hil,cond_true]
  have b0:i64B (y+1)=true:=zCY (by omega) (by omega)
  have b1:i64B (y+1+1)=true:=zCY (by omega) (by omega)
  have b2:i64B (y+1+1+1)=true:=zCY (by omega) (by omega)
  have b3:i64B (y+1+1+1+1)=true:=zCY (by omega) (by omega)
  have b:i64B ((i:Int)+1)=true:=zD5 (by omega)
  have b':i64B ((i+1:Nat):Int)=true:=b
  simp only [List.length_set,zFG,List.set_set,zBe hil,zEZ,zAS,zBn,zIK hil,zAk hz,b0,b1,b2,b3,b,b',cond_true,cond_false,Bool.not_true,beq_self_eq_true,bne_self_eq_false']
  try simp only [zCF,zBF,Int.add_assoc]
  try rfl
theorem zHg {fu:Nat} {x:(Int) × (List ((Int) × (Int) × (Int) × (Int)))} {k:Int} (hw:zCb x≤1048576) (hk:0<k) (h1:k+zCG x≤4294967296) (hf:1048577≤fu):zBs fu x k=some (k+zCG x,zEi x k):=by
  unfold zCb at hw
  unfold zCG at h1 ⊢
  unfold zBs
  have c1:=zDv (x.2)
  rw [zFl (by omega) (by omega) (by omega) hf,zAS]
  unfold zEi
  rfl
theorem zFp {fu:Nat} {x z:List ((Int) × (Int) × (Int) × (Int))} {k:Int} (hz:z=zEC x k) (hw:zBS x≤1048576) (hk:0<k) (h1:k+zBy x≤4294967296) (hf:1048577≤fu):zBU fu z k=some (k+zBy x):=by
  have hw':=hw
  unfold zBS wL at hw'
  unfold zBU
  have hb:∀ z ∈ x,zBN z≤1048576:=fun z hz=>Nat.le_trans (zEm (f:=zBN) hz) (by omega)
  have hzl:z.length=x.length:=by rw [hz];exact zFv
  refine zJj (f:=zCF) (c:=zBF) (Bd:=(fun z:(Int) × (Int) × (Int) × (Int)=>zBN z≤1048576)) (lim:=4294967296) (L:=zB0 fu z) hz zDe (by omega) hk h1 hb (fun k y i u hu hy hyl hbz=>?_) (fun k y=>by rw [zB0,lt_f];rfl)
  have hi:=zCj hu
  unfold zBF at hyl
  rw [zB0,lt_t hi,cond_true]
  have b0:i64B (y+1)=true:=zCY (by omega) (by omega)
  have b1:i64B (y+1+1)=true:=zCY (by omega) (by omega)
  have b2:i64B (y+1+1+1)=true:=zCY (by omega) (by omega)
  have b3:i64B (y+1+1+1+1)=true:=zCY (by omega) (by omega)
  have b:i64B ((i:Int)+1)=true:=zD5 (by omega)
  have b':i64B ((i+1:Nat):Int)=true:=b
  simp only [zBe hi,zEZ,zAS,zBn,zAk hu,zCF,b0,b1,b2,b3,b,b',cond_true,cond_false,Bool.not_true,beq_self_eq_true,bne_self_eq_false']
  try simp only [zCF,zBF,Int.add_assoc]
  try rfl
theorem zI9 {fu:Nat} {x z:(Int) × (List ((Int) × (Int) × (Int) × (Int)))} {k:Int} (hz:z=zEi x k) (hw:zCb x≤1048576) (hk:0<k) (h1:k+zCG x≤4294967296) (hf:1048577≤fu):zBX fu z k=some (k+zCG x):=by
  unfold zCb at hw
  unfold zCG at h1 ⊢
  unfold zBX
  have c1:=zDv (x.2)
  rw [zFp (x:=x.2) (z:=z.2) (by rw [hz];rfl) (by omega) (by omega) (by omega) hf,zAS,decide_eq_false (by omega),cond_false]
  try rfl
theorem zG7 {fu : Nat} {a0 : (List ((List ((Int) × (Int) × (Bool)))))} (hf : 1048577 ≤ fu) (h0 : (qS (qS (qP qI (qP qI qT)))) a0)
    (hs:zC0 a0≤1048576→∃ r:((Int) × (List ((Int) × (Int) × (Int) × (Int)))) × (Bool),zBQ fu a0=some r∧zBB fu a0=some r∧zCb r.1≤1048576):zBb fu a0=some true:=by
  unfold zBb
  rw [zJB h0 (by omega) (by omega) hf,zAS]
  by_cases g0:¬ (zC0 a0:Int)≤1048576
  · rw [zHn g0,cond_true]
  replace g0:=Classical.not_not.1 g0
  rw [zHu g0,cond_false]
  obtain ⟨r,e1,e2,v0⟩:=hs (by omega)
  have t0:zBG fu a0=some a0:=zJV (by omega) hf
  have q0:zC6 fu a0 a0=some (a0==a0):=zJ4 (by omega) hf
  have p0:zBa fu r.1 r.1=some (r.1==r.1):=zJD (by omega) hf
  have c0:=zJK a0
  have d0:=zJI a0
  have m0:zBt fu a0 (1)=some (1+zD8 a0,zGK a0 (1)):=zHe (by omega) (by omega) (by omega) hf
  have k0:decide (1+zD8 a0<0)=false:=decide_eq_false (by omega)
  have cr0:=zJS r.1
  have dr0:=zJC r.1
  have mr0:zBs fu r.1 (1)=some (1+zCG r.1,zEi r.1 (1)):=zHg (by omega) (by omega) (by omega) hf
  have hr0:zBX fu (zEi r.1 (1)) (1)=some (1+zCG r.1):=zI9 rfl (by omega) (by omega) (by omega) hf
  have kr0:decide (1+zCG r.1<0)=false:=decide_eq_false (by omega)
  simp only [e1,e2,zAS,zG5,beq_self_eq_true,bne_self_eq_false',Bool.not_true,Bool.not_false,cond_false,cond_true,Bool.true_and,Bool.and_true,Bool.false_or,Bool.or_false,Bool.true_or,Bool.false_and,t0,q0,p0,m0,k0,mr0,hr0,kr0,show (false==false)=true from rfl,show (true==false)=false from rfl,show (false==true)=false from rfl]
end Go.Proofs.Ytmkgocdgkdglnaa
namespace Go.Proofs.Ytmkgocdgkdglnaa
open Go.RowKit
set_option linter.unusedVariables false
theorem zHL {α ρ : Type} {xs : List α} {p : α → Bool} {r : ρ} {L : Nat → Int → Option (Ex ρ Unit)}
    (hs:∀ k (i:Nat) x,xs[i]? = some x→L (k+1) (i:Int)=bif p x then some (.ret r) else L k ((i+1:Nat):Int)) (he:∀ k,L (k+1) (xs.length:Int)=some (.go ())) {fu:Nat} (hf:xs.length<fu) :
    L fu (0:Int)=some (bif xs.any p then .ret r else .go ()):=by
  have key:∀ m i k,i+m=xs.length→m<k→L k ((i:Nat):Int)=some (bif (xs.drop i).any p then .ret r else .go ()):=by
    intro m
    induction m with
    | zero=>
      intro i k hi hk
      obtain ⟨k,rfl⟩:∃ q,k=q+1:=⟨k-1,by omega⟩
      obtain rfl:i=xs.length:=by omega
      rw [he,List.drop_length]
      rfl
    | succ m ih=>
      intro i k hi hk
      obtain ⟨k,rfl⟩:∃ q,k=q+1:=⟨k-1,by omega⟩
      have hx:=List.getElem?_eq_getElem (show i<xs.length by omega)
      rw [hs k i _ hx,zC2 hx,List.any_cons]
      cases p xs[i]
      · exact ih (i+1) k (by omega) (by omega)
      · rfl
  have:=key xs.length 0 fu (by omega) hf
  rwa [show ((0:Nat):Int)=0 from rfl,List.drop_zero] at this
def adjB {α : Type} (b : α → α → Bool) : α → List α → Bool
  | _,[]=>false
  | p,x::xs=>b p x || adjB b x xs
def zGP {α : Type} (b0 : α → Bool) (b : α → α → Bool) : List α → Bool
  | []=>false
  | x::xs=>b0 x || adjB b x xs
theorem zIy {α ρ : Type} {xs : List α} {b0 : α → Bool} {b : α → α → Bool} {r : ρ} {L : Nat → Int → Option (Ex ρ Unit)}
    (h0:∀ k x,xs[0]? = some x→L (k+1) (0:Int)=bif b0 x then some (.ret r) else L k ((1:Nat):Int))
    (hs:∀ k (i:Nat) q x,xs[i]? = some q→xs[i+1]? = some x→L (k+1) ((i+1:Nat):Int)=bif b q x then some (.ret r) else L k ((i+1+1:Nat):Int))
    (he:∀ k,L (k+1) (xs.length:Int)=some (.go ())) {fu:Nat} (hf:xs.length<fu) :
    L fu (0:Int)=some (bif zGP b0 b xs then .ret r else .go ()):=by
  have key:∀ m i k q,i+1+m=xs.length→m<k→xs[i]? = some q→L k ((i+1:Nat):Int)=some (bif adjB b q (xs.drop (i+1)) then .ret r else .go ()):=by
    intro m
    induction m with
    | zero=>
      intro i k q hi hk hq
      obtain ⟨k,rfl⟩:∃ q,k=q+1:=⟨k-1,by omega⟩
      have e:i+1=xs.length:=by omega
      rw [e,he,List.drop_length]
      rfl
    | succ m ih=>
      intro i k q hi hk hq
      obtain ⟨k,rfl⟩:∃ q,k=q+1:=⟨k-1,by omega⟩
      have hx:=List.getElem?_eq_getElem (show i+1<xs.length by omega)
      rw [hs k i q _ hq hx,zC2 hx,adjB]
      cases b q xs[i+1]
      · exact ih (i+1) k _ (by omega) (by omega) hx
      · rfl
  obtain ⟨k,rfl⟩:∃ q,fu=q+1:=⟨fu-1,by omega⟩
  cases xs with
  | nil=>exact he k
  | cons x xs=>
    rw [h0 k x rfl,zGP]
    cases b0 x
    · have := key xs.length 0 k x (by simp; omega) (by simp at hf; omega) rfl
      exact this
    · rfl
def ixI : Nat → List Bool → Option Nat
  | _,[]=>none
  | i,b::bs=>bif b then some i else ixI (i+1) bs
theorem zGH : ∀ {bs : List Bool} {i j : Nat}, ixI i bs = some j → i ≤ j ∧ bs[j - i]? = some true ∧ ∀ q, q < j - i → bs[q]? = some false
  | [],i,j,h=>by cases h
  | b::bs,i,j,h=>by
    unfold ixI at h
    cases b with
    | true=>
      obtain rfl:=Option.some.inj h
      refine ⟨Nat.le_refl _,by simp,fun q hq=>by omega⟩
    | false=>
      obtain ⟨h1,h2,h3⟩:=zGH (bs:=bs) (i:=i+1) h
      refine ⟨by omega,?_,fun q hq=>?_⟩
      · rw [show j - i = (j - (i + 1)) + 1 by omega, List.getElem?_cons_succ]
        exact h2
      · cases q with
        | zero=>rfl
        | succ q=>rw [List.getElem?_cons_succ];exact h3 q (by omega)
theorem zHD : ∀ {bs : List Bool} {i : Nat}, ixI i bs = none → ∀ b ∈ bs, b = false
  | [],i,h,b,hb=>by cases hb
  | c::bs,i,h,b,hb=>by
    unfold ixI at h
    cases c with
    | true=>cases h
    | false=>
      rcases List.mem_cons.1 hb with rfl | hb
      · rfl
      · exact zHD (bs:=bs) (i:=i+1) h b hb
theorem zIe {α : Type} {xs : List α} {p : α → Bool} {L : Nat → Int → Option (Ex Int Unit)}
    (hs:∀ k (i:Nat) x,xs[i]? = some x→L (k+1) (i:Int)=bif p x then some (.ret (i:Int)) else L k ((i+1:Nat):Int)) (he:∀ k,L (k+1) (xs.length:Int)=some (.go ())) {fu:Nat} (hf:xs.length<fu) :
    L fu (0:Int)=some (match ixI 0 (xs.map p) with | some i=>.ret (i:Int) | none=>.go ()):=by
  have key:∀ m i k,i+m=xs.length→m<k→L k ((i:Nat):Int)=some (match ixI i ((xs.drop i).map p) with | some i=>.ret (i:Int) | none=>.go ()):=by
    intro m
    induction m with
    | zero=>
      intro i k hi hk
      obtain ⟨k,rfl⟩:∃ q,k=q+1:=⟨k-1,by omega⟩
      obtain rfl:i=xs.length:=by omega
      rw [he,List.drop_length]
      rfl
    | succ m ih=>
      intro i k hi hk
      obtain ⟨k,rfl⟩:∃ q,k=q+1:=⟨k-1,by omega⟩
      have hx:=List.getElem?_eq_getElem (show i<xs.length by omega)
      rw [hs k i _ hx,zC2 hx,List.map_cons,ixI]
      cases p xs[i]
      · exact ih (i+1) k (by omega) (by omega)
      · rfl
  have:=key xs.length 0 fu (by omega) hf
  rwa [show ((0:Nat):Int)=0 from rfl,List.drop_zero] at this
theorem zDr {α σ : Type} {xs : List α} {g : σ → α → σ} {Inv : Nat → σ → Prop} {L : Nat → Int → σ → Option σ}
    (hs:∀ k (i:Nat) a x,xs[i]? = some x→Inv i a→L (k+1) (i:Int) a=L k ((i+1:Nat):Int) (g a x)) (hI:∀ (i:Nat) a x,xs[i]? = some x→Inv i a→Inv (i+1) (g a x))
    (he:∀ k a,Inv xs.length a→L (k+1) (xs.length:Int) a=some a) {a:σ} (h0:Inv 0 a) {fu:Nat} (hf:xs.length<fu) :
    L fu (0:Int) a=some (xs.foldl g a)∧Inv xs.length (xs.foldl g a):=by
  have key:∀ m i k a,i+m=xs.length→m<k→Inv i a→L k ((i:Nat):Int) a=some ((xs.drop i).foldl g a)∧Inv xs.length ((xs.drop i).foldl g a):=by
    intro m
    induction m with
    | zero=>
      intro i k a hi hk ha
      obtain ⟨k,rfl⟩:∃ q,k=q+1:=⟨k-1,by omega⟩
      obtain rfl:i=xs.length:=by omega
      rw [he k a ha,List.drop_length]
      exact ⟨rfl,ha⟩
    | succ m ih=>
      intro i k a hi hk ha
      obtain ⟨k,rfl⟩:∃ q,k=q+1:=⟨k-1,by omega⟩
      have hx:=List.getElem?_eq_getElem (show i<xs.length by omega)
      rw [hs k i a _ hx ha,zC2 hx,List.foldl_cons]
      exact ih (i+1) k _ (by omega) (by omega) (hI i a _ hx ha)
  have:=key xs.length 0 fu a (by omega) hf h0
  rwa [show ((0:Nat):Int)=0 from rfl,List.drop_zero] at this
theorem zDC {i:Nat} (hn:i≤4294967296):i64B ((i+1:Nat):Int)=true:=zCY (by omega) (by omega)
theorem zL5 (i:Nat) (hn:i≤4294967296):i64B (i:Int)=true:=zCY (by omega) (by omega)
theorem lt_0 {n:Nat} (h:0<n):decide ((0:Int)<(n:Int))=true:=decide_eq_true (by omega)
theorem zMB {n:Nat} (h:0<n):inR (0:Int) n=true:=zBe (i:=0) h
theorem zMG {α:Type} [Inhabited α] {xs:List α} {x:α} (h:xs[0]? = some x):gtD xs (0:Int)=x:=zAk (i:=0) h
theorem zM4:(0:Int)+1=((1:Nat):Int):=rfl
theorem zKv:i64B ((1:Nat):Int)=true:=rfl
theorem zLy:decide ((0:Int)<(0:Int))=false:=rfl
theorem zL7 (i:Nat):((i+1:Nat):Int)-1=(i:Int):=by omega
theorem zMA (i:Nat):decide ((0:Int)<((i+1:Nat):Int))=true:=decide_eq_true (by omega)
end Go.Proofs.Ytmkgocdgkdglnaa
namespace Go.Proofs.Ytmkgocdgkdglnaa
open Go.RowKit
set_option linter.unusedVariables false
set_option linter.unusedSimpArgs false
end Go.Proofs.Ytmkgocdgkdglnaa
namespace Go.Proofs.Ytmkgocdgkdglnaa
open Go.RowKit
set_option linter.unusedVariables false
structure Sto {α : Type} (lt : α → α → Bool) : Prop where
  irr:∀ a,lt a a=false
  tr:∀ a b c,lt a b=true→lt b c=true→lt a c=true
  tri:∀ a b,lt a b=false→lt b a=false→a=b
theorem zLS:Sto fun (a b:Int)=>decide (a<b):=⟨fun a=>by simp,fun a b c h k=>by simp at *;omega,fun a b h k=>by simp at *;omega⟩
section
variable {α:Type} {lt:α→α→Bool}
theorem Sto.asy (S:Sto lt) {a b:α} (h:lt a b=true):lt b a=false:=by
  cases hb:lt b a
  · rfl
  · have := S.tr a b a h hb
    rw [S.irr] at this
    cases this
theorem Sto.le_tr (S:Sto lt) {a b c:α} (h:lt b a=false) (k:lt c b=false):lt c a=false:=by
  cases hca:lt c a
  · rfl
  · cases hab : lt a b
    · have := S.tri a b hab h
      subst this
      rw [hca] at k
      cases k
    · have := S.tr c a b hca hab
      rw [this] at k
      cases k
abbrev zDH (lt:α→α→Bool) (l:List α):Prop:=l.Pairwise fun a b=>lt a b=true
abbrev zGo (lt:α→α→Bool) (l:List α):Prop:=l.Pairwise fun a b=>lt b a=false
theorem zDH.w (S:Sto lt) {l:List α} (h:zDH lt l):zGo lt l:=h.imp fun h=>S.asy h
theorem zGk (S : Sto lt) : ∀ {l m : List α}, zDH lt l → zDH lt m → (∀ x, x ∈ l ↔ x ∈ m) → l = m
  | [],[],_,_,_=>rfl
  | [],b::m,_,_,h=>by have:=(h b).2 (List.mem_cons_self ..);cases this
  | a::l,[],_,_,h=>by have:=(h a).1 (List.mem_cons_self ..);cases this
  | a::l,b::m,hl,hm,h=>by
    obtain ⟨h1,h2⟩:=List.pairwise_cons.1 hl
    obtain ⟨h3,h4⟩:=List.pairwise_cons.1 hm
    have e:a=b:=by
      rcases List.mem_cons.1 ((h a).1 (List.mem_cons_self ..)) with e | e
      · exact e
      · rcases List.mem_cons.1 ((h b).2 (List.mem_cons_self ..)) with e' | e'
        · exact e'.symm
        · have := S.asy (h1 b e')
          rw [h3 a e] at this
          cases this
    subst e
    congr 1
    refine zGk S h2 h4 fun x=>?_
    constructor
    · intro hx
      rcases List.mem_cons.1 ((h x).1 (List.mem_cons_of_mem _ hx)) with e | e
      · have := h1 x hx
        rw [e,S.irr] at this
        cases this
      · exact e
    · intro hx
      rcases List.mem_cons.1 ((h x).2 (List.mem_cons_of_mem _ hx)) with e | e
      · have := h3 x hx
        rw [e,S.irr] at this
        cases this
      · exact e
def zJ3 (l:List α) (k:Nat) (x:α):List α:=l.take k++x::l.drop k
theorem zH4 (l:List α) (k:Nat) (x:α):(zJ3 l k x).Perm (x::l):=by
  have:=(List.perm_middle (a:=x) (l₁:=l.take k) (l₂:=l.drop k))
  rwa [List.take_append_drop] at this
theorem zHv (l:List α) (k:Nat) (x:α):(zJ3 l k x).length=l.length+1:=by simpa using (zH4 l k x).length_eq
theorem zK3 {l:List α} {k:Nat} {x y:α}:y ∈ zJ3 l k x ↔ y=x∨y ∈ l:=by rw [(zH4 l k x).mem_iff,List.mem_cons]
theorem zM0 {R:α→α→Prop} {l:List α} {k:Nat} {x:α} (hl:l.Pairwise R) (h1:∀ y ∈ l.take k,R y x) (h2:∀ y ∈ l.drop k,R x y):(zJ3 l k x).Pairwise R:=by
  have hl':(l.take k++l.drop k).Pairwise R:=by rw [List.take_append_drop];exact hl
  obtain ⟨a,b,c⟩:=List.pairwise_append.1 hl'
  refine List.pairwise_append.2 ⟨a,List.pairwise_cons.2 ⟨h2,b⟩,fun y hy z hz=>?_⟩
  rcases List.mem_cons.1 hz with rfl | hz
  · exact h1 y hy
  · exact c y hy z hz
def plc (lt : α → α → Bool) (x : α) : List α → Nat
  | []=>0
  | y::l=>bif lt y x then plc lt x l+1 else 0
theorem zL8 {x : α} : ∀ l : List α, plc lt x l ≤ l.length
  | []=>Nat.le_refl _
  | y::l=>by
    unfold plc
    cases lt y x
    · exact Nat.zero_le _
    · have h : plc lt x l ≤ l.length := zL8 l
      simp
      omega
theorem zIo {x : α} : ∀ l : List α, ∀ y ∈ l.take (plc lt x l), lt y x = true
  | [],y,h=>by cases h
  | z::l,y,h=>by
    unfold plc at h
    cases hz:lt z x
    · rw [hz] at h
      cases h
    · rw [hz, cond_true, List.take_succ_cons] at h
      rcases List.mem_cons.1 h with rfl | h
      · exact hz
      · exact zIo l y h
theorem zHH {x : α} : ∀ l : List α, ∀ y, l[plc lt x l]? = some y → lt y x = false
  | [],y,h=>by cases h
  | z::l,y,h=>by
    unfold plc at h
    cases hz:lt z x
    · rw [hz] at h
      obtain rfl:z=y:=by simpa using h
      exact hz
    · rw [hz, cond_true, List.getElem?_cons_succ] at h
      exact zHH l y h
theorem zKq (S:Sto lt) {x:α} {l:List α} (hl:zGo lt l):∀ y ∈ l.drop (plc lt x l),lt y x=false:=by
  intro y hy
  cases hd:l.drop (plc lt x l) with
  | nil=>rw [hd] at hy;cases hy
  | cons z t=>
    have hz:l[plc lt x l]? = some z:=by
      have:(l.drop (plc lt x l))[0]? = some z:=by rw [hd];rfl
      rwa [List.getElem?_drop,Nat.add_zero] at this
    have h0:=zHH l z hz
    rw [hd] at hy
    rcases List.mem_cons.1 hy with rfl | hy
    · exact h0
    · have hp : (z :: t).Pairwise fun a b => lt b a = false := hd ▸ hl.sublist (List.drop_sublist _ _)
      exact S.le_tr h0 ((List.pairwise_cons.1 hp).1 y hy)
def putW (lt:α→α→Bool) (l:List α) (x:α):List α:=zJ3 l (plc lt x l) x
def putS [BEq α] (lt:α→α→Bool) (l:List α) (x:α):List α:=bif (l[plc lt x l]? == some x) then l else putW lt l x
theorem zIW [BEq α] [LawfulBEq α] (S:Sto lt) {l:List α} (x:α) (hl:zDH lt l):zDH lt (putS lt l x):=by
  unfold putS
  cases hc:(l[plc lt x l]? == some x)
  · refine zM0 hl (zIo l) fun y hy => ?_
    have h1:=zKq S (hl.w S) y hy
    cases hxy:lt x y
    · have e := S.tri y x h1 hxy
      subst e
      exfalso
      cases hd:l.drop (plc lt y l) with
      | nil=>rw [hd] at hy;cases hy
      | cons z t=>
        have hz:l[plc lt y l]? = some z:=by
          have:(l.drop (plc lt y l))[0]? = some z:=by rw [hd];rfl
          rwa [List.getElem?_drop,Nat.add_zero] at this
        rw [hd] at hy
        have hp:(z::t).Pairwise fun a b=>lt a b=true:=hd ▸ hl.sublist (List.drop_sublist _ _)
        rcases List.mem_cons.1 hy with e | hy
        · subst e
          rw [hz] at hc
          simp at hc
        · have := (List.pairwise_cons.1 hp).1 y hy
          rw [zHH l z hz] at this
          cases this
    · rfl
  · exact hl
theorem zKf [BEq α] [LawfulBEq α] {l:List α} {x y:α}:y ∈ putS lt l x ↔ y=x∨y ∈ l:=by
  unfold putS
  cases hc:(l[plc lt x l]? == some x)
  · exact zK3
  · rw [beq_iff_eq] at hc
    exact ⟨.inr,fun h=>h.elim (fun e=>(by rw [e];exact List.mem_of_getElem? hc)) id⟩
def cmpA [BEq α] : α → List α → List α
  | _,[]=>[]
  | p,x::xs=>bif x==p then cmpA x xs else x::cmpA x xs
def cmpL [BEq α] : List α → List α
  | []=>[]
  | x::xs=>x::cmpA x xs
theorem zHZ [BEq α] [LawfulBEq α] : ∀ {p : α} {l : List α} {y : α}, y ∈ cmpA p l → y ∈ l
  | p,x::xs,y,h=>by
    unfold cmpA at h
    cases hx:(x==p)
    · rw [hx, cond_false] at h
      rcases List.mem_cons.1 h with rfl | h
      · exact List.mem_cons_self ..
      · exact List.mem_cons_of_mem _ (zHZ h)
    · rw [hx, cond_true] at h
      exact List.mem_cons_of_mem _ (zHZ h)
theorem zGV [BEq α] [LawfulBEq α] : ∀ {p : α} {l : List α} {y : α}, y ∈ l → y = p ∨ y ∈ cmpA p l
  | p,x::xs,y,h=>by
    unfold cmpA
    cases hx:(x==p)
    · rw [cond_false]
      rcases List.mem_cons.1 h with rfl | h
      · exact .inr (List.mem_cons_self ..)
      · rcases zGV (p := x) h with rfl | h
        · exact .inr (List.mem_cons_self ..)
        · exact .inr (List.mem_cons_of_mem _ h)
    · rw [cond_true]
      rw [beq_iff_eq] at hx
      subst hx
      rcases List.mem_cons.1 h with rfl | h
      · exact .inl rfl
      · exact zGV h
theorem zIp [BEq α] [LawfulBEq α] {l:List α} {y:α}:y ∈ cmpL l ↔ y ∈ l:=by
  cases l with
  | nil=>rfl
  | cons x xs=>
    unfold cmpL
    constructor
    · intro h
      rcases List.mem_cons.1 h with rfl | h
      · exact List.mem_cons_self ..
      · exact List.mem_cons_of_mem _ (zHZ h)
    · intro h
      rcases List.mem_cons.1 h with rfl | h
      · exact List.mem_cons_self ..
      · rcases zGV (p := x) h with rfl | h
        · exact List.mem_cons_self ..
        · exact List.mem_cons_of_mem _ h
theorem zFM [BEq α] [LawfulBEq α] (S : Sto lt) : ∀ {p : α} {l : List α}, zGo lt (p :: l) → zDH lt (p :: cmpA p l)
  | p,[],_=>List.pairwise_cons.2 ⟨fun y h=>(by cases h),List.Pairwise.nil⟩
  | p,x::xs,h=>by
    obtain ⟨h1,h2⟩:=List.pairwise_cons.1 h
    unfold cmpA
    cases hx:(x==p)
    · rw [cond_false]
      have ih:=zFM S h2
      refine List.pairwise_cons.2 ⟨fun y hy=>?_,ih⟩
      have hpx:lt p x=true:=by
        cases hpx:lt p x
        · have := S.tri p x hpx (h1 x (List.mem_cons_self ..))
          subst this
          simp at hx
        · rfl
      rcases List.mem_cons.1 hy with rfl | hy
      · exact hpx
      · exact S.tr p x y hpx ((List.pairwise_cons.1 ih).1 y hy)
    · rw [cond_true]
      rw [beq_iff_eq] at hx
      subst hx
      exact zFM S h2
theorem zGb [BEq α] [LawfulBEq α] (S:Sto lt) {l:List α} (h:zGo lt l):zDH lt (cmpL l):=by
  cases l with
  | nil=>exact List.Pairwise.nil
  | cons x xs=>exact zFM S h
theorem zGl [BEq α] : ∀ {p : α} {l : List α}, (cmpA p l).length ≤ l.length
  | _,[]=>Nat.le_refl _
  | p,x::xs=>by
    unfold cmpA
    have:=zGl (p:=x) (l:=xs)
    cases (x==p) <;> simp <;> omega
theorem zGL (S:Sto lt) (l:List α):zGo lt (l.mergeSort fun x y=>!(lt y x)):=by
  have:=List.pairwise_mergeSort (le:=fun x y=>!(lt y x)) (fun a b c h k=>by
    simp only [Bool.not_eq_true'] at *
    exact S.le_tr h k) (fun a b=>by
    simp only [Bool.or_eq_true,Bool.not_eq_true']
    cases hb:lt b a
    · exact .inl rfl
    · exact .inr (S.asy hb)) l
  exact this.imp fun h=>by simpa using h
end
end Go.Proofs.Ytmkgocdgkdglnaa
namespace Go.Proofs.Ytmkgocdgkdglnaa
open Go.RowKit
set_option linter.unusedVariables false
set_option linter.unusedSimpArgs false
theorem zHm {α:Type} (xs:List α) (k:Nat):subL xs 0 (k:Int)=xs.take k:=by simp [subL]
theorem zJl {α:Type} (xs:List α) (k:Nat):subL xs (k:Int) (xs.length:Int)=xs.drop k:=by
  unfold subL
  rw [Int.toNat_natCast,Int.toNat_natCast]
  exact List.take_of_length_le (by simp)
theorem zKt {α:Type} {xs:List α} {k:Nat} (h:k≤xs.length):subR 0 (k:Int) xs.length=true:=zDn.2 ⟨by omega,by omega,by omega⟩
theorem zL6 {α:Type} {xs:List α} {k:Nat} (h:k≤xs.length):subR (k:Int) (xs.length:Int) xs.length=true:=zDn.2 ⟨by omega,by omega,by omega⟩
theorem zKa {α : Type} {lt : α → α → Bool} {x : α} {l : List α} {L : Nat → Int → Option Int} (hs : ∀ k (i : Nat) y, l[i]? = some y → L (k + 1) (i : Int) = bif lt y x then L k ((i + 1 : Nat) : Int) else some (i : Int)) (he : ∀ k, L (k + 1) (l.length : Int) = some (l.length : Int)) {fu : Nat} (hf : l.length < fu) :
    L fu (0:Int)=some ((plc lt x l:Nat):Int):=by
  have key:∀ m i k,i+m=l.length→m<k→L k ((i:Nat):Int)=some ((i+plc lt x (l.drop i):Nat):Int):=by
    intro m
    induction m with
    | zero=>
      intro i k hi hk
      obtain ⟨k,rfl⟩:∃ q,k=q+1:=⟨k-1,by omega⟩
      obtain rfl:i=l.length:=by omega
      rw [he,List.drop_length]
      rfl
    | succ m ih=>
      intro i k hi hk
      obtain ⟨k,rfl⟩:∃ q,k=q+1:=⟨k-1,by omega⟩
      have hx:=List.getElem?_eq_getElem (show i<l.length by omega)
      rw [hs k i _ hx,zC2 hx,plc]
      cases lt l[i] x
      · rfl
      · rw [cond_true, cond_true, ih (i + 1) k (by omega) (by omega)]
        congr 2
        omega
  have:=key l.length 0 fu (by omega) hf
  rwa [show ((0:Nat):Int)=0 from rfl,List.drop_zero,Nat.zero_add] at this
theorem zJs {α:Type} {z:α} {s:List α} {w:Nat} (h:w≤s.length):subL (s.take w++List.replicate (s.length-w) z) 0 (w:Int)=s.take w:=by
  rw [zHm,List.take_append_of_le_length (by simp;omega),List.take_take,Nat.min_self]
theorem zI4 {α:Type} {z:α} {s:List α} {w:Nat} (h:w≤s.length):(s.take w++List.replicate (s.length-w) z).length=s.length:=by simp;omega
end Go.Proofs.Ytmkgocdgkdglnaa
namespace Go.Proofs.Ytmkgocdgkdglnaa
open Go.RowKit
set_option linter.unusedVariables false
set_option linter.unusedSimpArgs false
theorem or_t {fu:Nat} {x y:Int} (hf:1048577≤fu):zDb fu [x,y]=some (if x ≠ 0 then x else y):=by
  unfold zDb
  obtain ⟨f,rfl⟩:∃ f,fu=f+3:=⟨fu-3,by omega⟩
  rw [zC1]
  by_cases hx:x=0
  · subst hx
    rw [zC1]
    by_cases hy:y=0
    · subst hy
      rw [zC1]
      rfl
    · have:(gtD [0,y] (0+1:Int) != 0)=true:=by
        show (y != 0)=true
        simpa using hy
      rw [this]
      simp [gtD,inR,zAS,zEZ,i64B,zHQ]
  · have:(gtD [x,y] (0:Int) != 0)=true:=by
      show (x != 0)=true
      simpa using hx
    rw [this]
    simp [gtD,inR,zAS,zEZ,i64B,zHQ,hx]
theorem zKw {fu:Nat} {x y:Int}:zBz fu x y=some (if x<y then -1 else if y<x then 1 else 0):=by
  unfold zBz zCW
  simp only [bne_self_eq_false',zAS,cond_false]
  by_cases h:x<y
  · rw [decide_eq_true h,if_pos h];rfl
  · rw [decide_eq_false h, if_neg h]
    by_cases h2:y<x
    · rw [decide_eq_true h2,if_pos h2];rfl
    · rw [decide_eq_false h2,if_neg h2];rfl
end Go.Proofs.Ytmkgocdgkdglnaa
namespace Go.Proofs.Ytmkgocdgkdglnaa
open Go.RowKit
set_option linter.unusedVariables false
set_option linter.unusedSimpArgs false
def inI (x lo hi:Int):Bool:=decide (lo≤x)&&decide (x≤hi)
theorem zIu {fu:Nat} {x lo hi:Int}:zD2 fu x lo hi=some (inI x lo hi):=rfl
end Go.Proofs.Ytmkgocdgkdglnaa
namespace Go.Proofs.Ytmkgocdgkdglnaa
open Go.RowKit
set_option linter.unusedVariables false
set_option linter.unusedSimpArgs false
abbrev TTst:=Int × Int × Bool
def tstX (t:TTst):Bool:=!(inI t.1 0 5) || !(inI t.2.1 1 1000)
def zHs (l:List TTst):Bool:=!(zGP tstX (fun p x=>tstX x || decide (x.1≤p.1)) l)
def zGc (l:List TTst):Bool:=inI (l.length:Int) 1 3&&zHs l
def rsB (r:List (List TTst)):Bool:=inI (r.length:Int) 1 3 && !(r.any fun l=>!(zGc l))
def RsOK (r:List (List TTst)):Prop:=r.length≤1048576∧∀ l ∈ r,l.length≤1048576
theorem zJP {fu:Nat} {r:List (List TTst)} {l:List TTst} {i:Nat} (hl:r[i]? = some l) (hf:1048577≤fu) (hn:l.length≤1048576):zAw fu r (i:Int) fu (0:Int)=some (bif zHs l then .go () else .ret false):=by
  have h:=zIy (xs:=l) (b0:=tstX) (b:=fun p x=>tstX x || decide (x.1≤p.1)) (r:=false) (L:=zAw fu r (i:Int)) (fun k x hx=>by
    have hi:=zCj hx
    rw [zAw,zAk hl,lt_0 hi,cond_true]
    simp only [zMB hi,zMG hx,zM4,zKv,zLy,zG5,zIu,zK9,Bool.or_true,zEZ,tstX]
    cases inI x.1 0 5 <;> cases inI x.2.1 1 1000 <;> rfl) (fun k j q x hq hx=>by
    have hi:=zCj hx
    have hi':=zCj hq
    rw [zAw,zAk hl,lt_t hi,cond_true]
    simp only [zBe hi,zBe hi',zAk hx,zL7,zAk hq,zMA,zG5,zIu,zK9,zL5 j (by omega),Bool.or_true,zEZ,zDC (show j+1≤4294967296 by omega),zBn,tstX]
    cases inI x.1 0 5 <;> cases inI x.2.1 1 1000 <;> cases decide (x.1≤q.1) <;> rfl) (fun k=>by rw [zAw,zAk hl,lt_f];rfl) (show l.length<fu by omega)
  rw [h]
  unfold zHs
  cases zGP tstX (fun p x=>tstX x || decide (x.1≤p.1)) l <;> rfl
theorem zJF {fu:Nat} {r:List (List TTst)} {l:List TTst} {i:Nat} (hl:r[i]? = some l) (hf:1048577≤fu) (hn:l.length≤1048576):zAx fu r (i:Int) fu (0:Int)=some (bif zHs l then .go () else .ret false):=by
  have h1:∀ x:Int,zD0 fu x=some (inI x 0 5):=fun x=>rfl
  have h2:∀ x:Int,zCR fu x=some (inI x 1 1000):=fun x=>rfl
  have h:=zIy (xs:=l) (b0:=tstX) (b:=fun p x=>tstX x || decide (x.1≤p.1)) (r:=false) (L:=zAx fu r (i:Int)) (fun k x hx=>by
    have hi:=zCj hx
    rw [zAx,zAk hl,lt_0 hi,cond_true]
    simp only [zMB hi,zMG hx,zM4,zKv,zLy,zG5,h1,h2,zK9,Bool.or_true,zEZ,tstX]
    cases inI x.1 0 5 <;> cases inI x.2.1 1 1000 <;> rfl) (fun k j q x hq hx=>by
    have hi:=zCj hx
    have hi':=zCj hq
    rw [zAx,zAk hl,lt_t hi,cond_true]
    simp only [zBe hi,zBe hi',zAk hx,zL7,zAk hq,zMA,zG5,h1,h2,zK9,zL5 j (by omega),Bool.or_true,zEZ,zDC (show j+1≤4294967296 by omega),zBn,tstX]
    cases inI x.1 0 5 <;> cases inI x.2.1 1 1000 <;> cases decide (x.1≤q.1) <;> rfl) (fun k=>by rw [zAx,zAk hl,lt_f];rfl) (show l.length<fu by omega)
  rw [h]
  unfold zHs
  cases zGP tstX (fun p x=>tstX x || decide (x.1≤p.1)) l <;> rfl
theorem zHC {fu:Nat} {r:List (List TTst)} (hf:1048577≤fu) (hr:RsOK r):zBj fu r=some (rsB r):=by
  unfold zBj
  have h:=zHL (xs:=r) (p:=fun l=>!(zGc l)) (r:=false) (L:=zBC fu r) (fun k i l hl=>by
    have hi:=zCj hl
    have hn:=hr.1
    rw [zBC,lt_t hi,cond_true,zJP hl hf (hr.2 l (zD4 hl)),zAk hl]
    simp only [zBe hi,zEZ,zAS,zIu,zDC (show i≤4294967296 by omega),zBn,zGc]
    cases zHs l <;> cases inI (l.length:Int) 1 3 <;> rfl) (fun k=>by rw [zBC,lt_f];rfl) (show r.length<fu by have:=hr.1;omega)
  rw [h,zAS]
  unfold rsB
  cases r.any fun l=>!(zGc l)
  · rw [cond_false,zId,zIu,zAS,Bool.not_false,Bool.and_true]
  · rw [cond_true,zHQ,Bool.not_true,Bool.and_false]
theorem zIz {fu:Nat} {r:List (List TTst)} (hf:1048577≤fu) (hr:RsOK r):zBf fu r=some (rsB r):=by
  unfold zBf
  have h1:∀ x lo hi:Int,zCL fu x lo hi=some (inI x lo hi):=fun _ _ _=>rfl
  have h:=zHL (xs:=r) (p:=fun l=>!(zGc l)) (r:=false) (L:=zBD fu r) (fun k i l hl=>by
    have hi:=zCj hl
    have hn:=hr.1
    rw [zBD,lt_t hi,cond_true,zJF hl hf (hr.2 l (zD4 hl)),zAk hl]
    simp only [zBe hi,zEZ,zAS,h1,zDC (show i≤4294967296 by omega),zBn,zGc]
    cases zHs l <;> cases inI (l.length:Int) 1 3 <;> rfl) (fun k=>by rw [zBD,lt_f];rfl) (show r.length<fu by have:=hr.1;omega)
  rw [h,zAS]
  unfold rsB
  cases r.any fun l=>!(zGc l)
  · rw [cond_false,zId,h1,zAS,Bool.not_false,Bool.and_true]
  · rw [cond_true,zHQ,Bool.not_true,Bool.and_false]
theorem zHd {x lo hi:Int}:inI x lo hi=true ↔ lo≤x∧x≤hi:=by simp [inI]
theorem zIC {α:Type} {b0:α→Bool} {b:α→α→Bool} (hb:∀ p x,b p x=false→b0 x=false) {l:List α} (h:zGP b0 b l=false):∀ x ∈ l,b0 x=false:=by
  have key:∀ (l:List α) (p:α),adjB b p l=false→∀ x ∈ l,b0 x=false:=by
    intro l
    induction l with
    | nil=>intro p h x hx;cases hx
    | cons y l ih=>
      intro p h x hx
      unfold adjB at h
      rw [Bool.or_eq_false_iff] at h
      rcases List.mem_cons.1 hx with rfl | hx
      · exact hb _ _ h.1
      · exact ih y h.2 x hx
  cases l with
  | nil=>intro x hx;cases hx
  | cons y l=>
    unfold zGP at h
    rw [Bool.or_eq_false_iff] at h
    intro x hx
    rcases List.mem_cons.1 hx with rfl | hx
    · exact h.1
    · exact key l y h.2 x hx
theorem zHV {r:List (List TTst)} (h:rsB r=true):r.length≤3∧∀ l ∈ r,l.length≤3∧∀ t ∈ l,(0≤t.1∧t.1≤5)∧1≤t.2.1∧t.2.1≤1000:=by
  unfold rsB at h
  rw [Bool.and_eq_true,zHd] at h
  obtain ⟨⟨_,h1⟩,h2⟩:=h
  refine ⟨by omega,fun l hl=>?_⟩
  have h3:zGc l=true:=by
    cases hb:zGc l
    · have : (r.any fun l => !(zGc l)) = true := List.any_eq_true.2 ⟨l, hl, by rw [hb]; rfl⟩
      rw [this] at h2
      cases h2
    · rfl
  unfold zGc at h3
  rw [Bool.and_eq_true,zHd] at h3
  refine ⟨by omega,fun t ht=>?_⟩
  have h4:=h3.2
  unfold zHs at h4
  rw [Bool.not_eq_true'] at h4
  have h5:=zIC (b0:=tstX) (b:=fun p x=>tstX x || decide (x.1≤p.1)) (fun p x h=>(Bool.or_eq_false_iff.1 h).1) h4 t ht
  unfold tstX at h5
  rw [Bool.or_eq_false_iff,Bool.not_eq_false',Bool.not_eq_false',zHd,zHd] at h5
  exact h5
end Go.Proofs.Ytmkgocdgkdglnaa
namespace Go.Proofs.Ytmkgocdgkdglnaa
open Go.RowKit
set_option linter.unusedVariables false
set_option linter.unusedSimpArgs false
theorem zIF {α:Type} {l:List α} {f g:α→α→Bool} (h:∀ x ∈ l,∀ y ∈ l,f x y=g x y):l.mergeSort f=l.mergeSort g:=by
  have:=List.map_mergeSort (f:=fun x:α=>x) (r:=f) (s:=g) (l:=l) h
  simpa using this
theorem zIN {fu : Nat} {s : List TTst} {i : Nat} (hl : s.length ≤ 1048576) (hi0 : 0 < i) : ∀ m j w k ys q, i + j + m = s.length → m < k → 1 ≤ j → w ≤ i + j - 1 → ys.length = s.length → ys.drop (i + j - 1) = s.drop (i + j - 1) → s[i + j - 1]? = some q → ys.take w ++ cmpA q (s.drop (i + j)) = cmpL s →
    ∃ (w':Nat) (ys':List TTst),zAP fu (i:Int) (s.length-i) k (w:Int) (j:Int) ys=some ((w':Int),ys')∧ys'.length=s.length∧w'≤s.length∧ys'.take w'=cmpL s:=by
  intro m
  induction m with
  | zero=>
    intro j w k ys q hm hk hj hw hlen hdr hq hc
    obtain ⟨k,rfl⟩:∃ q,k=q+1:=⟨k-1,by omega⟩
    refine ⟨w,ys,?_,hlen,by omega,?_⟩
    · rw [zAP, decide_eq_false (show ¬ (j : Int) < ((s.length - i : Nat) : Int) by omega)]
      rfl
    · rw [show i + j = s.length by omega, List.drop_length] at hc
      simpa [cmpA] using hc
  | succ m ih=>
    intro j w k ys q hm hk hj hw hlen hdr hq hc
    obtain ⟨k,rfl⟩:∃ q,k=q+1:=⟨k-1,by omega⟩
    have hx:=List.getElem?_eq_getElem (show i+j<s.length by omega)
    have hat:∀ n,i+j-1≤n→ys[n]? = s[n]?:=fun n hn=>by
      have:=congrArg (fun l=>l[n-(i+j-1)]?) hdr
      simp only [List.getElem?_drop] at this
      rwa [show i+j-1+(n-(i+j-1))=n by omega] at this
    have hyx:ys[i+j]? = some s[i+j]:=(hat _ (by omega)).trans hx
    have hyq:ys[i+j-1]? = some q:=(hat _ (Nat.le_refl _)).trans hq
    have e1:((i:Int)+(j:Int))=((i+j:Nat):Int):=rfl
    have e2:((i:Int)+((j:Int)-1))=((i+j-1:Nat):Int):=by omega
    rw [zAP,decide_eq_true (show (j:Int)<((s.length-i:Nat):Int) by omega),cond_true,ck_t (zLJ (by omega) (by omega)),ck_t (decide_eq_true (by omega)),e1,ck_t (zBe (by omega)),ck_t (zCY (by omega) (by omega)),ck_t (zLJ (by omega) (by omega)),ck_t (decide_eq_true (by omega)),e2,ck_t (zBe (by omega)),zAk hyx,zAk hyq]
    rw [zC2 hx,cmpA] at hc
    cases hb:(s[i+j]==q)
    · rw [Bool.not_false, cond_true, ck_t (zLJ (by omega) (by omega)), ck_t (decide_eq_true (by omega)), ck_t (zBe (by omega)), ck_t (zBe (by omega)), ck_t (zD5 (by omega)), ck_t (zD5 (by omega)), zBn, zBn, zFG]
      rw [hb,cond_false] at hc
      have:=ih (j+1) (w+1) k (ys.set w s[i+j]) s[i+j] (by omega) (by omega) (by omega) (by omega) (by rw [List.length_set];exact hlen) ?_ ?_ ?_
      · exact this
      · rw [List.drop_set_of_lt (by omega)]
        have:=congrArg (fun l=>l.drop 1) hdr
        simp only [List.drop_drop] at this
        rwa [show i+(j+1)-1=i+j-1+1 by omega]
      · rw [show i + (j + 1) - 1 = i + j by omega]
        exact hx
      · rw [List.take_add_one, List.take_set_of_le (Nat.le_refl _), List.getElem?_set_self (by omega)]
        simpa [Nat.add_assoc] using hc
    · rw [Bool.not_true, cond_false, ck_t (zD5 (by omega)), zBn]
      rw [hb,cond_true] at hc
      refine ih (j+1) w k ys s[i+j] (by omega) (by omega) (by omega) (by omega) hlen ?_ ?_ hc
      · have := congrArg (fun l => l.drop 1) hdr
        simp only [List.drop_drop] at this
        rwa [show i+(j+1)-1=i+j-1+1 by omega]
      · rw [show i + (j + 1) - 1 = i + j by omega]
        exact hx
theorem zJU {fu:Nat} {s:List TTst} (hf:1048577≤fu) (hl:s.length≤1048576):zAo fu s=some (cmpL s):=by
  unfold zAo
  by_cases h2:s.length<2
  · rw [decide_eq_true (by omega), cond_true]
    match s,h2 with
    | [],_=>rfl
    | [x],_=>rfl
  · rw [decide_eq_false (by omega), cond_false]
    have key : ∀ m i k q, i + m = s.length → m < k → 0 < i → s[i - 1]? = some q → s.take i ++ cmpA q (s.drop i) = cmpL s →
        zAQ fu k (i:Int) s=some (Ex.ret (cmpL s))∨(zAQ fu k (i:Int) s=some (Ex.go s)∧cmpL s=s):=by
      intro m
      induction m with
      | zero=>
        intro i k q hm hk hi hq hc
        obtain ⟨k,rfl⟩:∃ q,k=q+1:=⟨k-1,by omega⟩
        obtain rfl:i=s.length:=by omega
        right
        refine ⟨by rw [zAQ,lt_f];rfl,?_⟩
        rw [List.drop_length,List.take_length] at hc
        simpa [cmpA] using hc.symm
      | succ m ih=>
        intro i k q hm hk hi hq hc
        obtain ⟨k,rfl⟩:∃ q,k=q+1:=⟨k-1,by omega⟩
        have hlt:i<s.length:=by omega
        have hx:=List.getElem?_eq_getElem hlt
        have e1:((i:Int)-1)=((i-1:Nat):Int):=by omega
        rw [zAQ,lt_t hlt,cond_true,ck_t (zBe hlt),ck_t (zCY (by omega) (by omega)),e1,ck_t (zBe (by omega)),zAk hx,zAk hq]
        have hc':=hc
        rw [zC2 hx,cmpA] at hc
        cases hb:(s[i]==q)
        · rw [cond_false, ck_t (zD5 (by omega)), zBn]
          rw [hb,cond_false] at hc
          refine ih (i+1) k s[i] (by omega) (by omega) (by omega) (by rw [Nat.add_sub_cancel];exact hx) ?_
          have ht:s.take (i+1)=s.take i ++ [s[i]]:=by rw [List.take_add_one,hx];rfl
          rw [ht,List.append_assoc]
          exact hc
        · left
          rw [hb,cond_true] at hc
          obtain ⟨w',ys',h3,h4,h5,h6⟩:=zIN (fu:=fu) hl hi (s.length-i-1) 1 i fu s s[i] (by omega) (by omega) (Nat.le_refl _) (by omega) rfl rfl (by rw [Nat.add_sub_cancel];exact hx) hc
          rw [cond_true,ck_t (zL6 (Nat.le_of_lt hlt)),zG5,Int.toNat_natCast,Int.toNat_natCast,show ((1:Int))=((1:Nat):Int) from rfl,h3,zAS]
          simp only [h4,zDn.2 ⟨show (0:Int)≤(w':Int) by omega,show (w':Int)≤(s.length:Int) by omega,show (s.length:Int)≤(s.length:Int) from Int.le_refl _⟩,zG5,Int.toNat_natCast,zEZ,beq_self_eq_true]
          have e3:(ys'.take w'++List.replicate (s.length-w') ((0:Int),((0:Int),false)))=(ys'.take w'++List.replicate (ys'.length-w') ((0:Int),((0:Int),false))):=by rw [h4]
          rw [e3,ck_t (by rw [zI4 (by omega)];exact zKt (by omega)),zJs (by omega),h6]
    obtain ⟨x0,t,hs⟩:∃ x t,s=x::t:=by
      cases s with
      | nil=>simp at h2
      | cons x t=>exact ⟨x,t,rfl⟩
    have hk:=key (s.length-1) 1 fu x0 (by omega) (by omega) (by omega) (by rw [hs];rfl) (by rw [hs];rfl)
    rw [show ((1:Int))=((1:Nat):Int) from rfl]
    rcases hk with h | ⟨h,e⟩
    · rw [h]
      rfl
    · rw [h, e]
      rfl
def tT (a b:TTst):Bool:=decide (a.1<b.1) || (a.1==b.1&&(decide (a.2.1<b.2.1) || (a.2.1==b.2.1&&(!a.2.2&&b.2.2))))
theorem zI1 {a b:TTst}:tT a b=true ↔ a.1<b.1∨(a.1=b.1∧(a.2.1<b.2.1∨(a.2.1=b.2.1∧a.2.2=false∧b.2.2=true))):=by simp [tT]
theorem zGS:Sto tT:=by
  refine ⟨fun a=>?_,fun a b c h k=>?_,fun a b h k=>?_⟩
  · cases h : tT a a
    · rfl
    · rw [zI1] at h
      rcases h with h | ⟨_,h | ⟨_,h1,h2⟩⟩
      · omega
      · omega
      · rw [h1] at h2
        cases h2
  · rw [zI1] at *
    rcases h with h | ⟨h0,h | ⟨h,h1,h2⟩⟩ <;> rcases k with k | ⟨k0,k | ⟨k,k1,k2⟩⟩
    · exact .inl (by omega)
    · exact .inl (by omega)
    · exact .inl (by omega)
    · exact .inl (by omega)
    · exact .inr ⟨by omega,.inl (by omega)⟩
    · exact .inr ⟨by omega,.inl (by omega)⟩
    · exact .inl (by omega)
    · exact .inr ⟨by omega,.inl (by omega)⟩
    · rw [h2] at k1
      cases k1
  · have h' : ¬ tT a b = true := by rw [h]; exact Bool.false_ne_true
    have k':¬ tT b a=true:=by rw [k];exact Bool.false_ne_true
    rw [zI1] at h' k'
    obtain ⟨a1,a2,a3⟩:=a
    obtain ⟨b1,b2,b3⟩:=b
    dsimp only at *
    have e1:a1=b1:=by omega
    have e2:a2=b2:=by omega
    subst e1 e2
    cases a3 <;> cases b3
    · rfl
    · exact absurd (.inr ⟨rfl,.inr ⟨rfl,rfl,rfl⟩⟩) h'
    · exact absurd (.inr ⟨rfl,.inr ⟨rfl,rfl,rfl⟩⟩) k'
    · rfl
def vcmp (a b:TTst):Int:=if a.1<b.1 then -1 else if b.1<a.1 then 1 else if a.2.1<b.2.1 then -1 else if b.2.1<a.2.1 then 1 else 0
theorem zJx {a b:TTst} (ha:a.2.2=false) (hb:b.2.2=false):decide (vcmp a b<0)=tT a b:=by
  unfold vcmp tT
  rw [ha,hb]
  by_cases h1:a.1<b.1
  · simp [h1]
  · by_cases h2 : b.1 < a.1
    · have : (a.1 == b.1) = false := by simp; omega
      simp [h1,h2,this]
    · have : (a.1 == b.1) = true := by simp; omega
      rw [if_neg h1,if_neg h2,this,decide_eq_false h1]
      by_cases h3:a.2.1<b.2.1
      · simp [h3]
      · by_cases h4 : b.2.1 < a.2.1
        · simp [h3,h4]
        · simp [h3,h4]
theorem zMC {fu:Nat} {a b:TTst} (hf:1048577≤fu):zB5 fu a b=some (vcmp a b):=by
  unfold zB5
  rw [zKw,zAS,zKw,zAS,or_t hf,zAS]
  unfold vcmp
  by_cases h1:a.1<b.1
  · simp [h1]
  · by_cases h2 : b.1 < a.1
    · simp [h1,h2]
    · simp [h1,h2]
theorem zLi {fu:Nat} {l:List TTst} (hf:1048577≤fu) (hl:l.length≤1048576) (hb:∀ t ∈ l,t.2.2=false):zHX fu l (fun x y=>zB5 fu x y)=some (l.mergeSort fun x y=>!(tT y x)):=by
  have hF:(fun x y=>zB5 fu x y)=fun x y=>some (vcmp x y):=by
    funext x y
    exact zMC hf
  have S:=zGS
  rw [hF]
  unfold zHX
  rw [ck_t (zEn (by omega)),ck_t]
  · congr 1
    exact zIF fun x hx y hy=>by
      show (!(decide (vcmp y x<0)))=_
      rw [zJx (hb y hy) (hb x hx)]
  · unfold zK6
    simp only [List.all_eq_true,Bool.and_eq_true]
    intro x hx y hy
    have g:∀ x ∈ l,∀ y ∈ l,decide (gv (some (vcmp x y))<0)=tT x y:=fun x hx y hy=>zJx (hb x hx) (hb y hy)
    rw [g x hx x hx,g x hx y hy,g y hy x hx]
    simp only [S.irr,Option.isSome_some,Bool.not_false]
    refine ⟨⟨⟨trivial,trivial⟩,?_⟩,fun z hz=>?_⟩
    · cases h1 : tT x y
      · cases h2 : tT y x
        · have := S.tri x y h1 h2
          simp [this]
        · rfl
      · rfl
    · rw [g y hy z hz, g x hx z hz]
      refine ⟨?_,?_⟩
      · cases h1 : tT x y
        · rfl
        · cases h2 : tT y z
          · rfl
          · rw [S.tr _ _ _ h1 h2]
            rfl
      · cases h1 : tT x y
        · cases h2 : tT y z
          · rw [S.le_tr h2 h1]
            rfl
          · rfl
        · rfl
def nob (t:TTst):TTst:=(t.1,t.2.1,false)
def varL (r:List (List TTst)):List TTst:=bif rsB r then cmpL ((r.flatten.map nob).mergeSort fun x y=>!(tT y x)) else []
theorem zGt {α : Type} : ∀ (r : List (List α)) (a : List α), r.foldl (fun acc l => acc ++ l) a = a ++ r.flatten
  | [],a=>by simp
  | l::r,a=>by rw [List.foldl_cons,zGt r,List.flatten_cons,List.append_assoc]
theorem zGI {α : Type} {n : Nat} : ∀ {r : List (List α)}, (∀ l ∈ r, l.length ≤ n) → r.flatten.length ≤ n * r.length
  | [],_=>by simp
  | l::r,h=>by
    have h1:=h l (List.mem_cons_self ..)
    have h2:=zGI (r:=r) fun l hl=>h l (List.mem_cons_of_mem _ hl)
    rw [List.flatten_cons,List.length_append,List.length_cons,Nat.mul_add]
    omega
theorem zMO {fu:Nat} {r:List (List TTst)} (hf:1048577≤fu) (hn:r.length≤3) (hl:∀ l ∈ r,l.length≤3):zCV fu r=some r.flatten:=by
  unfold zCV
  have h:=zDr (xs:=r) (g:=fun (acc:List TTst) l=>acc++l) (Inv:=fun i acc=>acc.length≤3*i) (L:=zBT fu r) (fun k i acc l hl' hacc=>by
    have hi:=zCj hl'
    have:=hl l (zD4 hl')
    rw [zBT,lt_t hi,cond_true]
    simp only [zBe hi,zAk hl',zEZ,zEn (show acc.length+l.length≤4294967296 by omega),zDC (show i≤4294967296 by omega),zBn]) (fun i acc l hl' hacc=>by
    have:=hl l (zD4 hl')
    rw [List.length_append]
    omega) (fun k acc hacc=>by rw [zBT,lt_f];rfl) (a:=[]) (Nat.zero_le _) (show r.length<fu by omega)
  rw [h.1,zAS,zGt,List.nil_append]
theorem zLq {σ : Type} {st : Nat → σ} {n : Nat} {L : Nat → Int → σ → Option σ} (hs : ∀ k i, i < n → L (k + 1) (i : Int) (st i) = L k ((i + 1 : Nat) : Int) (st (i + 1))) (he : ∀ k, L (k + 1) (n : Int) (st n) = some (st n)) {fu : Nat} (hf : n < fu) :
    L fu (0:Int) (st 0)=some (st n):=by
  have key:∀ m i k,i+m=n→m<k→L k ((i:Nat):Int) (st i)=some (st n):=by
    intro m
    induction m with
    | zero=>
      intro i k hi hk
      obtain ⟨k,rfl⟩:∃ q,k=q+1:=⟨k-1,by omega⟩
      obtain rfl:i=n:=by omega
      exact he k
    | succ m ih=>
      intro i k hi hk
      obtain ⟨k,rfl⟩:∃ q,k=q+1:=⟨k-1,by omega⟩
      rw [hs k i (by omega)]
      exact ih (i+1) k (by omega) (by omega)
  exact key n 0 fu (by omega) hf
theorem zMM {fu:Nat} {l:List TTst} (hf:l.length<fu) (hl:l.length≤1048576):zAj fu l fu (0:Int) l=some (l.map nob):=by
  have h:=zLq (st:=fun i=>(l.take i).map nob++l.drop i) (n:=l.length) (L:=zAj fu l) (fun k i hi=>by
    have hx:=List.getElem?_eq_getElem hi
    have hlen:((l.take i).map nob).length=i:=by rw [List.length_map,List.length_take];omega
    have hg:((l.take i).map nob++l.drop i)[i]? = some l[i]:=by
      rw [List.getElem?_append_right (by omega),hlen,Nat.sub_self,List.getElem?_drop,Nat.add_zero]
      exact hx
    rw [zAj,lt_t hi,cond_true,ck_t (zBe (by rw [List.length_append,hlen,List.length_drop];omega)),ck_t (zD5 (by omega)),zBn,zFG,zAk hg]
    congr 1
    rw [List.set_append_right _ _ (by omega),hlen,Nat.sub_self,zC2 hx,List.set_cons_zero,List.take_add_one,hx,Option.toList_some,List.map_append,List.map_singleton,List.append_assoc]
    rfl) (fun k=>by rw [zAj,lt_f];rfl) hf
  rw [List.take_zero,List.map_nil,List.nil_append,List.drop_zero,List.take_length,List.drop_length,List.append_nil] at h
  exact h
theorem zJp {fu:Nat} {r:List (List TTst)} (hf:1048577≤fu) (hr:RsOK r):zBJ fu r=some (varL r):=by
  unfold zBJ varL
  rw [zIz hf hr,zAS]
  cases hv:rsB r
  · rfl
  · obtain ⟨h1, h2⟩ := zHV hv
    have hfl:=zGI (n:=3) fun l hl=>(h2 l hl).1
    have hl9:r.flatten.length≤9:=by omega
    rw [Bool.not_true,cond_false,zMO hf h1 fun l hl=>(h2 l hl).1,zAS,zMM (by omega) (by omega),zAS,zLi hf (by rw [List.length_map];omega),zAS,zJU hf (by rw [List.length_mergeSort,List.length_map];omega),zAS]
    · rfl
    · intro t ht
      obtain ⟨s,_,rfl⟩:=List.mem_map.1 ht
      rfl
end Go.Proofs.Ytmkgocdgkdglnaa
namespace Go.Proofs.Ytmkgocdgkdglnaa
open Go.RowKit
set_option linter.unusedVariables false
set_option linter.unusedSimpArgs false
def iLt (a b:Int):Bool:=decide (a<b)
theorem zLj:Sto iLt:=zLS
theorem zLZ {fu:Nat} {l:List Int} {x:Int} (hf:l.length<fu) (hl:l.length≤2147483648):zDE fu l x=some (putS iLt l x):=by
  unfold zDE
  have h:=zKa (lt:=iLt) (x:=x) (l:=l) (L:=zBu fu l x) (fun k i y hy=>by
    have hi:=zCj hy
    rw [zBu]
    simp only [lt_t hi,zBe hi,zAk hy,zG5,Bool.or_true,Bool.true_and,zEZ,zDC (show i≤4294967296 by omega),zBn,iLt]) (fun k=>by rw [zBu,lt_f];rfl) hf
  have hp:=zL8 (lt:=iLt) (x:=x) l
  rw [h,zAS]
  simp only [zG5,zHm,zJl,zKt hp,zL6 hp,zEZ,List.length_nil,List.length_append,List.length_take,List.length_drop,List.length_singleton,List.nil_append,Nat.zero_add,zEn (show min (plc iLt x l) l.length≤4294967296 by omega),zEn (show min (plc iLt x l) l.length+1≤4294967296 by omega),zEn (show min (plc iLt x l) l.length+1+(l.length-plc iLt x l)≤4294967296 by omega)]
  have hins:l.take (plc iLt x l) ++ [x]++l.drop (plc iLt x l)=putW iLt l x:=by simp [putW,zJ3]
  rw [hins]
  unfold putS
  by_cases hlt:plc iLt x l<l.length
  · have hg := List.getElem?_eq_getElem hlt
    rw [lt_t hlt,zBe hlt,zAk hg,hg]
    have:(some l[plc iLt x l]==some x)=(l[plc iLt x l]==x):=rfl
    rw [this]
    cases (l[plc iLt x l]==x) <;> rfl
  · have e : decide (((plc iLt x l : Nat) : Int) < (l.length : Int)) = false := decide_eq_false (by omega)
    have e2:l[plc iLt x l]? = none:=List.getElem?_eq_none (by omega)
    rw [e,e2]
    rfl
def levG (n:Int) (acc:List Int) (t:TTst):List Int:=bif t.1==n then putS iLt acc t.2.1 else acc
def lev (r:List (List TTst)) (n:Int):List Int:=r.flatten.foldl (levG n) [0]
theorem zIj (n:Int) (acc:List Int) (t:TTst):(levG n acc t).length≤acc.length+1:=by
  unfold levG putS putW
  cases t.1==n
  · exact Nat.le_succ _
  · rw [cond_true]
    cases (acc[plc iLt t.2.1 acc]? == some t.2.1)
    · rw [cond_false,zHv];exact Nat.le_refl _
    · exact Nat.le_succ _
theorem zHJ (n : Int) : ∀ (ts : List TTst) (acc : List Int), (ts.foldl (levG n) acc).length ≤ acc.length + ts.length
  | [],acc=>Nat.le_refl _
  | t::ts,acc=>by
    have h1:=zHJ n ts (levG n acc t)
    have h2:=zIj n acc t
    rw [List.foldl_cons,List.length_cons]
    omega
theorem zMJ {fu : Nat} {r : List (List TTst)} {l : List TTst} {i c : Nat} {n : Int} {acc : List Int} (hl : r[i]? = some l) (hf : 1048577 ≤ fu) (hn : l.length ≤ 3) (hc : acc.length ≤ c) (hc2 : c ≤ 1000) :
    zAt fu r n (i:Int) fu (0:Int) acc=some (l.foldl (levG n) acc):=by
  have h:=zDr (xs:=l) (g:=levG n) (Inv:=fun j a=>a.length≤c+j) (L:=fun k j a=>zAt fu r n (i:Int) k j a) (fun k j a t ht ha=>by
    have hj:=zCj ht
    show zAt fu r n (i:Int) (k+1) (j:Int) a=_
    rw [zAt,ck_t (zBe (zCj hl)),zAk hl,lt_t hj,cond_true,ck_t (zBe (zCj hl)),ck_t (zBe hj),zAk ht]
    unfold levG
    cases t.1==n
    · rw [cond_false,cond_false,ck_t (zD5 (by omega)),zBn]
    · rw [cond_true,cond_true,zLZ (by omega) (by omega),zAS,ck_t (zD5 (by omega)),zBn]) (fun j a t ht ha=>by
    have:=zIj n a t
    omega) (fun k a ha=>by
    show zAt fu r n (i:Int) (k+1) (l.length:Int) a=_
    rw [zAt,ck_t (zBe (zCj hl)),zAk hl,lt_f];rfl) (a:=acc) (by omega) (show l.length<fu by omega)
  exact h.1
theorem zKb {fu:Nat} {r:List (List TTst)} {n:Int} (hf:1048577≤fu) (hn:r.length≤3) (hl:∀ l ∈ r,l.length≤3):zC4 fu r n=some (lev r n):=by
  unfold zC4
  have h:=zDr (xs:=r) (g:=fun (acc:List Int) l=>l.foldl (levG n) acc) (Inv:=fun i acc=>acc.length≤1+3*i) (L:=fun k i a=>zB3 fu r n k i a) (fun k i acc l hl' hacc=>by
    have hi:=zCj hl'
    show zB3 fu r n (k+1) (i:Int) acc=_
    rw [zB3,lt_t hi,cond_true,zMJ (c:=1+3*i) hl' hf (hl l (zD4 hl')) hacc (by omega),zAS,ck_t (zD5 (by omega)),zBn]) (fun i acc l hl' hacc=>by
    have h1:=hl l (zD4 hl')
    have h2:=zHJ n l acc
    omega) (fun k acc hacc=>by
    show zB3 fu r n (k+1) (r.length:Int) acc=_
    rw [zB3,lt_f];rfl) (a:=[0]) (Nat.le_refl _) (show r.length<fu by omega)
  have h1:zB3 fu r n fu (0:Int) [0]=_:=h.1
  rw [h1,zAS]
  unfold lev
  rw [List.foldl_flatten]
theorem zGG (n : Int) : ∀ (ts : List TTst) (a : List Int), zDH iLt a → zDH iLt (ts.foldl (levG n) a) ∧ ∀ y, y ∈ ts.foldl (levG n) a ↔ y ∈ a ∨ ∃ t ∈ ts, t.1 = n ∧ t.2.1 = y
  | [],a,h=>⟨h,fun y=>by simp⟩
  | t::ts,a,h=>by
    rw [List.foldl_cons]
    cases e:t.1==n
    · have hg : levG n a t = a := by unfold levG; rw [e]; rfl
      rw [hg]
      obtain ⟨h1,h2⟩:=zGG n ts a h
      refine ⟨h1,fun y=>?_⟩
      rw [h2]
      constructor
      · rintro (h | ⟨s, hs, h⟩)
        · exact .inl h
        · exact .inr ⟨s,List.mem_cons_of_mem _ hs,h⟩
      · rintro (h | ⟨s, hs, h, h'⟩)
        · exact .inl h
        · rcases List.mem_cons.1 hs with rfl | hs
          · rw [h] at e
            simp at e
          · exact .inr ⟨s,hs,h,h'⟩
    · have hg : levG n a t = putS iLt a t.2.1 := by unfold levG; rw [e]; rfl
      rw [hg]
      obtain ⟨h1,h2⟩:=zGG n ts _ (zIW zLj t.2.1 h)
      have e':t.1=n:=by simpa using e
      refine ⟨h1,fun y=>?_⟩
      rw [h2,zKf]
      constructor
      · rintro ((h | h) | ⟨s, hs, h⟩)
        · exact .inr ⟨t,List.mem_cons_self ..,e',h.symm⟩
        · exact .inl h
        · exact .inr ⟨s,List.mem_cons_of_mem _ hs,h⟩
      · rintro (h | ⟨s, hs, h, h'⟩)
        · exact .inl (.inr h)
        · rcases List.mem_cons.1 hs with rfl | hs
          · exact .inl (.inl h'.symm)
          · exact .inr ⟨s,hs,h,h'⟩
def six:List Int:=(List.range 6).map fun (j:Nat)=>(j:Int)
end Go.Proofs.Ytmkgocdgkdglnaa
