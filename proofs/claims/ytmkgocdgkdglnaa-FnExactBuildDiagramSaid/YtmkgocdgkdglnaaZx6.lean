/- Own texts laid together. No statement of the seat is proved here. -/
import Derived.Test.YtmkgocdgkdglnaaZx5
namespace Go.Proofs.Ytmkgocdgkdglnaa
open Go.RowKit
set_option linter.unusedVariables false
def zAu : Nat → Nat → zB2 → Int → Option (Int × zB2)
  | 0,_,_,_=>none
  | q+1,fu,p0,p1=>
  bif (p1 == (p0.2.1.length : Int)) then (
    cl true (zBw fu p0) fun x88=>
    some (x88,p0)
  ) else (
    ck (inR p1 p0.2.2.1.length) <|
    ck (i64B (p1+(1:Int))) <|
    cl true (zAu q fu (p0.1,p0.2.1,(p0.2.2.1.set p1.toNat false),p0.2.2.2) (p1+(1:Int))) fun x97=>
    ck (inR p1 x97.2.2.2.1.length) <|
    ck (i64B (p1+(1:Int))) <|
    cl true (zAu q fu (x97.2.1,x97.2.2.1,(x97.2.2.2.1.set p1.toNat true),x97.2.2.2.2) (p1+(1:Int))) fun x109=>
    bif (x97.1 == x109.1) then (
      some (x97.1,x109.2)
    ) else (
      ck (inR p1 x109.2.2.1.length) <|
      ck (inR p1 x109.2.2.1.length) <|
      cl true (zAZ fu x109.2.2.2.2 ((gtD x109.2.2.1 p1).1,(gtD x109.2.2.1 p1).2.1,x97.1,x109.1)) fun x122=>
      bif (decide (x122 < (0 : Int))) then (
        ck (zFo (x109.2.2.2.2.length+([((gtD x109.2.2.1 p1).1,(gtD x109.2.2.1 p1).2.1,x97.1,x109.1)]:List zA3).length)) <|
        ck (i64B ((x109.2.2.2.2.length:Int)+(2:Int))) <|
        some (((x109.2.2.2.2.length:Int)+(2:Int)),(x109.2.1,x109.2.2.1,x109.2.2.2.1,(x109.2.2.2.2++([((gtD x109.2.2.1 p1).1,(gtD x109.2.2.1 p1).2.1,x97.1,x109.1)]:List zA3))))
      ) else (
        ck (i64B (x122+(2:Int))) <|
        some ((x122+(2:Int)),x109.2)
      )
    )
  )
set_option linter.unusedSimpArgs false in
set_option maxRecDepth 100000 in
set_option maxHeartbeats 4000000 in
theorem zEP (q : Nat) : ∀ {fu : Nat} {A0 : Av} {p0 : zB2} {p1 : Int} {r : Int × zB2} (hr : zAu q fu p0 p1 = some r) {w : World} {v0 : Value} {v1 : Value} {S0 : Nat → Prop} (hA : AvOK A0 w) (hN : ∀ b o, A0 b o → ¬ S0 b) (h0 : (trP (oPt 71 (oPr (oRd zA2) (oPr (oRd (eSl zA1)) (oPr (oSl 4 (oRd zBK)) (oSl 99 (oRd zA0)))))) p0 []).P (addS A0 S0) w S0 v0) (h1 : v1 = .int .i64 p1),
    Calls Try.prog 45 #[v0,v1] w fun e w'=>∃ v,e = .returned v∧(v = .int .i64 r.1∧Gave (oPt 71 (oPr (oRd zA2) (oPr (oRd (eSl zA1)) (oPr (oSl 4 (oRd zBK)) (oSl 99 (oRd zA0)))))) A0 S0 w v0 r.2 w'):=by
  induction q with
  | zero=>intro fu A0 p0 p1 r hr w v0 v1 S0 hA hN h0 h1;rw [zAu] at hr;cases hr
  | succ q IH=>
    intro fu A0 p0 p1 r hr w v0 v1 S0 hA hN h0 h1
    rw [zAu] at hr
    obtain ⟨w0,hw0⟩:∃ w0,w0=w:=⟨_,rfl⟩
    have hF:Ch S0 w0 w:=hw0 ▸ Ch.refl _ _
    have hA0:∀ b o,A0 b o→b<w0.heap.size:=fun b o h=>hw0 ▸ hA b o h
    have hA00:AvOK A0 w0:=hA0
    rw [show Gave (oPt 71 (oPr (oRd zA2) (oPr (oRd (eSl zA1)) (oPr (oSl 4 (oRd zBK)) (oSl 99 (oRd zA0)))))) A0 S0 w=Gave (oPt 71 (oPr (oRd zA2) (oPr (oRd (eSl zA1)) (oPr (oSl 4 (oRd zBK)) (oSl 99 (oRd zA0)))))) A0 S0 w0 from hw0 ▸ rfl]
    have hw0s:w.heap.size=w0.heap.size:=hw0 ▸ rfl
    clear hw0
    have hO:=IniOK.oneT h0
    have hA1:=hA.oneT h0
    rw [show w.heap.size=w0.heap.size from hw0s] at hO
    obtain ⟨A,hAe⟩:∃ A,A=addS A0 S0:=⟨_,rfl⟩
    have hAA:∀ b o,A0 b o→A b o:=fun b o h=>hAe ▸ .inl h
    replace hA:AvOK A w:=hAe ▸ hA1
    replace hO:IniOK [⟨v0,S0,trR (fun k=>w0.heap.size≤k∨S0 k) (oPt 71 (oPr (oRd zA2) (oPr (oRd (eSl zA1)) (oPr (oSl 4 (oRd zBK)) (oSl 99 (oRd zA0)))))) p0 []⟩] A w:=hAe ▸ hO
    refine zAI [.tmp 4] Try.func45 Try.ntmps45 (by decide) rfl rfl (Nat.le_of_ble_eq_true rfl) ?_
    intro R hR
    replace h0:R 0=v0:=hR 0 _ rfl
    replace h1:R 1 = .int .i64 p1:=(hR 1 _ rfl).trans h1
    clear hR hAe
    refine HT.seq ?_
    refine HT.text (l:=⟨_,true,.raw (.int .i64 (0:Int))⟩::[]) (tl:=[]) (by kernel_rfl) (by kernel_rfl) (by kernel_rfl) ?_ ?_
    · exact
        Obls.cons (Obl.plain rfl rfl fun R' w' hw hs hd=>by exact zA6 rfl) <|
        Obls.nil
    intro R w hw hs hF'
    replace h0:R 0=v0:=(hs 0 rfl).trans h0
    replace h1:R 1 = .int .i64 p1:=(hs 1 rfl).trans h1
    replace hO:=hO.fr hw
    replace hA:=hA.fr hw.size
    replace hF:=hF.tr (hw.ch noB) fun _ h=>False.elim h
    clear hs hF' hw
    refine zA4 ?_
    refine HT.seq ?_
    refine HT.seq ?_
    refine HT.text (l:=⟨_,true,.raw (.int .i64 p1)⟩::⟨_,true,.raw v0⟩::⟨_,true,.raw v0⟩::⟨_,true,.raw (padd v0 1)⟩::⟨_,true,.rep (eSl zA1) A p0.2.1⟩::⟨_,true,.raw (.int .i64 (p0.2.1.length:Int))⟩::⟨_,true,.raw (.bool (p1==(p0.2.1.length:Int)))⟩::[]) (tl:=[]) (by kernel_rfl) (by kernel_rfl) (by kernel_rfl) ?_ ?_
    · exact
        Obls.cons (Obl.plain rfl rfl fun R' w' hw hs hd=>by have a0:R' 1 = .int .i64 p1:=(hs 1 rfl).trans h1;exact zA5 a0) <|
        Obls.cons (Obl.plain rfl rfl fun R' w' hw hs hd=>by have a0:R' 0=v0:=(hs 0 rfl).trans h0;exact zA5 a0) <|
        Obls.cons (Obl.plain rfl rfl fun R' w' hw hs hd=>by have a0:R' 10=v0:=hd 0 _ _ _ rfl rfl rfl rfl rfl;exact zB4 (zAJ (hO.own 0 _ rfl).2).ptr.ad a0) <|
        Obls.cons (Obl.plain rfl rfl fun R' w' hw hs hd=>by have a0:R' 11=v0:=hd 0 _ _ _ rfl rfl rfl rfl rfl;exact zAb ((zAJ (hO.own 0 _ rfl).2).ptr).ad a0 zHM Try.sizeOf65 (by decide) rfl) <|
        Obls.cons (Obl.plain rfl rfl fun R' w' hw hs hd=>by have a0:R' 12=(padd v0 1):=hd 0 _ _ _ rfl rfl rfl rfl rfl;exact (zEy ((((zAJ ((hO.fr hw).own 0 _ rfl).2).ptr).snd rfl).fst) a0 Try.isAgg65 Try.sizeOf65)) <|
        Obls.cons (Obl.plain rfl rfl fun R' w' hw hs hd=>by have a0:Rep (eSl zA1) A w' (R' 13) p0.2.1:=hd 0 _ _ _ rfl rfl rfl rfl rfl;exact zAd (aT:=#[]) a0 Try.underlying65) <|
        Obls.cons (Obl.plain rfl rfl fun R' w' hw hs hd=>by have a0:R' 9 = .int .i64 p1:=hd 0 _ _ _ rfl rfl rfl rfl rfl;have a1:R' 14 = .int .i64 (p0.2.1.length:Int):=hd 1 _ _ _ rfl rfl rfl rfl rfl;exact zFA a0 a1) <|
        Obls.nil
    intro R w hw hs hF'
    replace h0:R 0=v0:=(hs 0 rfl).trans h0
    replace h1:R 1 = .int .i64 p1:=(hs 1 rfl).trans h1
    have h15:R 15 = .bool (p1==(p0.2.1.length:Int)):=hF' 6 _ _ rfl rfl rfl
    replace hO:=hO.fr hw
    replace hA:=hA.fr hw.size
    replace hF:=hF.tr (hw.ch noB) fun _ h=>False.elim h
    clear hs hF' hw
    refine zA4 ?_
    refine HT.cond (p1==(p0.2.1.length:Int)) h15 (fun c87=>?_) (fun c87=>?_)
    · have hr := zAq c87 hr
      refine HT.seq ?_
      obtain ⟨x88,q89,hr⟩:=zAK hr
      refine HT.text (l:=⟨_,true,.raw v0⟩::⟨_,true,.raw (.int .i64 x88)⟩::⟨_,true,.raw (.int .i64 x88)⟩::[]) (tl:=[]) (by kernel_rfl) (by kernel_rfl) (by kernel_rfl) ?_ ?_
      · exact
          Obls.cons (Obl.plain rfl rfl fun R' w' hw hs hd=>by have a0:R' 0=v0:=(hs 0 rfl).trans h0;exact zA5 a0) <|
          Obls.cons (Obl.plain rfl rfl fun R' w' hw hs hd=>by have a0:R' 16=v0:=hd 0 _ _ _ rfl rfl rfl rfl rfl;have ra0:Rep (ePt zAm) A0 w' (R' 16) _:=(zJu ((hO.fr hw).own 0 _ rfl).2 hAA (fun k o hk ha=>(((hO.fr hw).own 0 _ rfl).1 k hk).elim (fun h=>Nat.not_lt.2 h (hA0 k o ha)) fun h=>hN k o ha h)).eq a0;exact zAl Try.call77 (zEN (q89 rfl) (hA00.fr ((Nat.le_trans hF.size hw.size))) ra0)) <|
          Obls.cons (Obl.plain rfl rfl fun R' w' hw hs hd=>by have a0:R' 17 = .int .i64 x88:=hd 0 _ _ _ rfl rfl rfl rfl rfl;exact zA6 a0) <|
          Obls.nil
      intro R w hw hs hF'
      have h4:R 4 = .int .i64 x88:=hF' 2 _ _ rfl rfl rfl
      replace hO:=hO.fr hw
      replace hA:=hA.fr hw.size
      replace hF:=hF.tr (hw.ch noB) fun _ h=>False.elim h
      clear hs hF' hw
      refine zA4 ?_
      refine HT.ret ?_
      obtain rfl:=Option.some.inj hr
      exact ⟨.inr rfl,[R 4],⟨rfl,trivial⟩,h4,zCx rfl (hO.own 0 _ rfl) (hO.ok 0 _ rfl).2 hAA hF⟩
    · have hr := zAp c87 hr
      refine HT.skip ?_
      refine HT.seq ?_
      obtain ⟨h90,p_h90⟩:=(((((zAJ (hO.own 0 _ rfl).2).ptr).snd rfl).snd (zBR _ _ _)).fst).open1 rfl
      replace hO:IniOK [⟨v0,S0,trR (fun k=>w0.heap.size≤k∨S0 k) (oPt 71 (oPr (oRd zA2) (oPr (oRd (eSl zA1)) (oPr (oSl 4 (oRd zBK)) (oSl 99 (oRd zA0)))))) p0 [((padd v0 2),[h90])]⟩] A w:=hO.repin 0 rfl (trP.pin p_h90)
      obtain ⟨e92,hr⟩:=zAF hr
      refine HT.textR [⟨v0,S0,trR (fun k=>w0.heap.size≤k∨S0 k) (oPt 71 (oPr (oRd zA2) (oPr (oRd (eSl zA1)) (oPr (oSl 4 (oRd zBK)) (oSl 99 (oRd zA0)))))) p0 [((padd v0 2),[h90])]⟩] (⟨_,true,[],none,true,fun A=>.raw v0⟩::⟨_,true,[],none,true,fun A=>.raw v0⟩::⟨_,true,[],none,true,fun A=>.raw (padd v0 2)⟩::⟨_,true,[],none,true,fun A=>.raw h90⟩::⟨_,true,[],none,true,fun A=>.raw (.int .i64 p1)⟩::⟨_,true,[],none,true,fun A=>.raw (vptr h90 (p1.toNat*1))⟩::⟨_,true,[0],some (trR (fun k=>w0.heap.size≤k∨S0 k) (oPt 71 (oPr (oRd zA2) (oPr (oRd (eSl zA1)) (oPr (oSl 4 (oRd zBK)) (oSl 99 (oRd zA0)))))) (p0.1,p0.2.1,(p0.2.2.1.set p1.toNat false),p0.2.2.2) []),false,fun A=>.any⟩::[]) (by kernel_rfl) (by kernel_rfl) (Wf.mk' (by kernel_rfl) (UAll.cons zAA (UAll.cons zAA (UAll.cons zAA (UAll.cons zAA (UAll.cons zAA (UAll.cons zAA (UAll.cons zAG (UAll.nil)))))))) (by kernel_rfl) (by kernel_rfl)) hO hA ?_ ?_
      · exact
          zA9.cons (OblR.plain rfl rfl rfl rfl fun A' R' w' ho hd=>by have a0:R' 0=v0:=(ho.old 0 rfl).trans h0;exact zA5 a0) <|
          zA9.cons (OblR.plain rfl rfl rfl rfl fun A' R' w' ho hd=>by have a0:R' 18=v0:=hd 0 _ _ _ rfl rfl rfl rfl rfl;exact zB4 (zAJ (hO.own 0 _ rfl).2).ptr.ad a0) <|
          zA9.cons (OblR.plain rfl rfl rfl rfl fun A' R' w' ho hd=>by have a0:R' 19=v0:=hd 0 _ _ _ rfl rfl rfl rfl rfl;exact zAb ((zAJ (hO.own 0 _ rfl).2).ptr).ad a0 zIY Try.sizeOf69 (by decide) rfl) <|
          zA9.cons (OblR.plain rfl rfl rfl rfl fun A' R' w' ho hd=>by have a0:R' 20=(padd v0 2):=hd 0 _ _ _ rfl rfl rfl rfl rfl;exact zBv ((ho.rdo 0 _ rfl rfl).2.2 _ (.head _)) a0 Try.isAgg69 Try.sizeOf69) <|
          zA9.cons (OblR.plain rfl rfl rfl rfl fun A' R' w' ho hd=>by have a0:R' 1 = .int .i64 p1:=(ho.old 1 rfl).trans h1;exact zA5 a0) <|
          zA9.cons (OblR.plain rfl rfl rfl rfl fun A' R' w' ho hd=>by have a0:R' 21=h90:=hd 0 _ _ _ rfl rfl rfl rfl rfl;have a1:R' 22 = .int .i64 p1:=hd 1 _ _ _ rfl rfl rfl rfl rfl;exact zCT ((((((zAJ (hO.own 0 _ rfl).2).ptr).snd rfl).snd (zBR _ _ _)).fst).pin ((hO.own 0 _ rfl).2.2 _ (.head _)) rfl) a0 a1 Try.underlying69 Try.sizeOf4 e92 rfl) <|
          zA9.cons (OblR.tookS 0 _ _ rfl rfl rfl rfl rfl fun A' R' w' ho hd u S hok hown hav hin hop hds=>by have a0:R' 23=(vptr h90 (p1.toNat*1)):=hd 0 _ _ _ rfl rfl rfl rfl rfl;have e0:=(hin _ rfl).1;rw [e0] at hown ⊢;exact zFD (((((((zAJ hown.2).ptr).snd rfl).snd (zBR _ _ _)).fst).pin (hown.2.2 _ (.head _)) rfl).elem e92 rfl) (zF0.eq rfl) a0 hav hown.1 Try.sizeOf4 (fun _ _ _ h=>h)) <|
          zA9.nil
      intro done ρ σ A R w hdn hI
      replace h0:R 0=v0:=(hI.reg rfl).trans h0
      replace h1:R 1 = .int .i64 p1:=(hI.reg rfl).trans h1
      have z93:=hI.inivR 0 rfl
      have z94:=(hI.opnR hdn 7 6 rfl rfl rfl rfl rfl).trans z93
      obtain ⟨S95,eS_v0⟩:∃ S,σ 7=S:=⟨_,rfl⟩
      replace hAA:=hI.lowK hAA hA0 hN (hO.geK (⟨fun _ h=>h,trivial⟩))
      replace hF:Ch S0 w0 w:=hF.tr hI.ch (hO.geK (⟨fun _ h=>h,trivial⟩))
      replace hO:IniOK [⟨v0,S95,trR (fun k=>w0.heap.size≤k∨S0 k) (oPt 71 (oPr (oRd zA2) (oPr (oRd (eSl zA1)) (oPr (oSl 4 (oRd zBK)) (oSl 99 (oRd zA0)))))) (p0.1,p0.2.1,(p0.2.2.1.set p1.toNat false),p0.2.2.2) []⟩] A w:=hI.left hdn [(7,⟨v0,S95,trR (fun k=>w0.heap.size≤k∨S0 k) (oPt 71 (oPr (oRd zA2) (oPr (oRd (eSl zA1)) (oPr (oSl 4 (oRd zBK)) (oSl 99 (oRd zA0)))))) (p0.1,p0.2.1,(p0.2.2.1.set p1.toNat false),p0.2.2.2) []⟩)] ⟨rfl,rfl,z94,eS_v0,rfl,trivial⟩
      replace hA:=hI.avok
      clear hI
      refine HT.seq ?_
      obtain ⟨e96,hr⟩:=zAF hr
      obtain ⟨x97,q98,hr⟩:=zAK hr
      refine HT.textR [⟨v0,S95,trR (fun k=>w0.heap.size≤k∨S0 k) (oPt 71 (oPr (oRd zA2) (oPr (oRd (eSl zA1)) (oPr (oSl 4 (oRd zBK)) (oSl 99 (oRd zA0)))))) (p0.1,p0.2.1,(p0.2.2.1.set p1.toNat false),p0.2.2.2) []⟩] (⟨_,true,[],none,true,fun A=>.raw v0⟩::⟨_,true,[],none,true,fun A=>.raw (.int .i64 p1)⟩::⟨_,true,[],none,true,fun A=>.raw (.int .i64 (p1+(1:Int)))⟩::⟨_,true,[0],some (trR (fun k=>w0.heap.size≤k∨S0 k) (oPt 71 (oPr (oRd zA2) (oPr (oRd (eSl zA1)) (oPr (oSl 4 (oRd zBK)) (oSl 99 (oRd zA0)))))) x97.2 []),false,fun A=>.raw (.int .i64 x97.1)⟩::⟨_,true,[],none,true,fun A=>.raw (.int .i64 x97.1)⟩::[]) (by kernel_rfl) (by kernel_rfl) (Wf.mk' (by kernel_rfl) (UAll.cons zAA (UAll.cons zAA (UAll.cons zAA (UAll.cons zAA (UAll.cons zAA (UAll.nil)))))) (by kernel_rfl) (by kernel_rfl)) hO hA ?_ ?_
      · exact
          zA9.cons (OblR.plain rfl rfl rfl rfl fun A' R' w' ho hd=>by have a0:R' 0=v0:=(ho.old 0 rfl).trans h0;exact zA5 a0) <|
          zA9.cons (OblR.plain rfl rfl rfl rfl fun A' R' w' ho hd=>by have a0:R' 1 = .int .i64 p1:=(ho.old 1 rfl).trans h1;exact zA5 a0) <|
          zA9.cons (OblR.plain rfl rfl rfl rfl fun A' R' w' ho hd=>by have a0:R' 25 = .int .i64 p1:=hd 0 _ _ _ rfl rfl rfl rfl rfl;exact zB8 a0 rfl e96) <|
          zA9.cons (OblR.tookS 0 _ _ rfl rfl rfl rfl rfl fun A' R' w' ho hd u S hok hown hav hin hop hds=>by have a0:R' 24=v0:=hd 0 _ _ _ rfl rfl rfl rfl rfl;have a1:R' 26 = .int .i64 (p1+(1:Int)):=hd 1 _ _ _ rfl rfl rfl rfl rfl;have e0:=(hin _ rfl).1;rw [e0] at hown ⊢;have hu0:zAL R' (.tmp 24)=v0:=a0;exact zCH Try.call45 (zAJ hown.2) hav hown.1 (fun k hk=>.inl (Nat.le_trans (Nat.le_trans hF.size ho.ch.size) hk)) (fun k hk=>SP.lt _ hown.2 hk) (fun S1 hS1 hP=>by simp only [List.map,hu0];exact IH (q98 rfl) (ho.av.subS _) (fun b o h=>h.2) hP a1) (fun _ _ _ h=>h)) <|
          zA9.cons (OblR.plain rfl rfl rfl rfl fun A' R' w' ho hd=>by have a0:R' 27 = .int .i64 x97.1:=hd 0 _ _ _ rfl rfl rfl rfl rfl;exact zA6 a0) <|
          zA9.nil
      intro done ρ σ A R w hdn hI
      replace h0:R 0=v0:=(hI.reg rfl).trans h0
      replace h1:R 1 = .int .i64 p1:=(hI.reg rfl).trans h1
      have z99:=hI.inivR 0 rfl
      have z100:=(hI.opnR hdn 4 3 rfl rfl rfl rfl rfl).trans z99
      obtain ⟨S101,eS_v0⟩:∃ S,σ 4=S:=⟨_,rfl⟩
      have h5:R 5 = .int .i64 x97.1:=hI.fact hdn (i:=4) rfl rfl rfl
      replace hAA:=hI.lowK hAA hA0 hN (hO.geK (⟨fun _ h=>h,trivial⟩))
      replace hF:Ch S0 w0 w:=hF.tr hI.ch (hO.geK (⟨fun _ h=>h,trivial⟩))
      replace hO:IniOK [⟨v0,S101,trR (fun k=>w0.heap.size≤k∨S0 k) (oPt 71 (oPr (oRd zA2) (oPr (oRd (eSl zA1)) (oPr (oSl 4 (oRd zBK)) (oSl 99 (oRd zA0)))))) x97.2 []⟩] A w:=hI.left hdn [(4,⟨v0,S101,trR (fun k=>w0.heap.size≤k∨S0 k) (oPt 71 (oPr (oRd zA2) (oPr (oRd (eSl zA1)) (oPr (oSl 4 (oRd zBK)) (oSl 99 (oRd zA0)))))) x97.2 []⟩)] ⟨rfl,rfl,z100,eS_v0,rfl,trivial⟩
      replace hA:=hI.avok
      clear hI
      refine HT.seq ?_
      obtain ⟨h102,p_h102⟩:=(((((zAJ (hO.own 0 _ rfl).2).ptr).snd rfl).snd (zBR _ _ _)).fst).open1 rfl
      replace hO:IniOK [⟨v0,S101,trR (fun k=>w0.heap.size≤k∨S0 k) (oPt 71 (oPr (oRd zA2) (oPr (oRd (eSl zA1)) (oPr (oSl 4 (oRd zBK)) (oSl 99 (oRd zA0)))))) x97.2 [((padd v0 2),[h102])]⟩] A w:=hO.repin 0 rfl (trP.pin p_h102)
      obtain ⟨e104,hr⟩:=zAF hr
      refine HT.textR [⟨v0,S101,trR (fun k=>w0.heap.size≤k∨S0 k) (oPt 71 (oPr (oRd zA2) (oPr (oRd (eSl zA1)) (oPr (oSl 4 (oRd zBK)) (oSl 99 (oRd zA0)))))) x97.2 [((padd v0 2),[h102])]⟩] (⟨_,true,[],none,true,fun A=>.raw v0⟩::⟨_,true,[],none,true,fun A=>.raw v0⟩::⟨_,true,[],none,true,fun A=>.raw (padd v0 2)⟩::⟨_,true,[],none,true,fun A=>.raw h102⟩::⟨_,true,[],none,true,fun A=>.raw (.int .i64 p1)⟩::⟨_,true,[],none,true,fun A=>.raw (vptr h102 (p1.toNat*1))⟩::⟨_,true,[0],some (trR (fun k=>w0.heap.size≤k∨S0 k) (oPt 71 (oPr (oRd zA2) (oPr (oRd (eSl zA1)) (oPr (oSl 4 (oRd zBK)) (oSl 99 (oRd zA0)))))) (x97.2.1,x97.2.2.1,(x97.2.2.2.1.set p1.toNat true),x97.2.2.2.2) []),false,fun A=>.any⟩::[]) (by kernel_rfl) (by kernel_rfl) (Wf.mk' (by kernel_rfl) (UAll.cons zAA (UAll.cons zAA (UAll.cons zAA (UAll.cons zAA (UAll.cons zAA (UAll.cons zAA (UAll.cons zAG (UAll.nil)))))))) (by kernel_rfl) (by kernel_rfl)) hO hA ?_ ?_
      · exact
          zA9.cons (OblR.plain rfl rfl rfl rfl fun A' R' w' ho hd=>by have a0:R' 0=v0:=(ho.old 0 rfl).trans h0;exact zA5 a0) <|
          zA9.cons (OblR.plain rfl rfl rfl rfl fun A' R' w' ho hd=>by have a0:R' 28=v0:=hd 0 _ _ _ rfl rfl rfl rfl rfl;exact zB4 (zAJ (hO.own 0 _ rfl).2).ptr.ad a0) <|
          zA9.cons (OblR.plain rfl rfl rfl rfl fun A' R' w' ho hd=>by have a0:R' 29=v0:=hd 0 _ _ _ rfl rfl rfl rfl rfl;exact zAb ((zAJ (hO.own 0 _ rfl).2).ptr).ad a0 zIY Try.sizeOf69 (by decide) rfl) <|
          zA9.cons (OblR.plain rfl rfl rfl rfl fun A' R' w' ho hd=>by have a0:R' 30=(padd v0 2):=hd 0 _ _ _ rfl rfl rfl rfl rfl;exact zBv ((ho.rdo 0 _ rfl rfl).2.2 _ (.head _)) a0 Try.isAgg69 Try.sizeOf69) <|
          zA9.cons (OblR.plain rfl rfl rfl rfl fun A' R' w' ho hd=>by have a0:R' 1 = .int .i64 p1:=(ho.old 1 rfl).trans h1;exact zA5 a0) <|
          zA9.cons (OblR.plain rfl rfl rfl rfl fun A' R' w' ho hd=>by have a0:R' 31=h102:=hd 0 _ _ _ rfl rfl rfl rfl rfl;have a1:R' 32 = .int .i64 p1:=hd 1 _ _ _ rfl rfl rfl rfl rfl;exact zCT ((((((zAJ (hO.own 0 _ rfl).2).ptr).snd rfl).snd (zBR _ _ _)).fst).pin ((hO.own 0 _ rfl).2.2 _ (.head _)) rfl) a0 a1 Try.underlying69 Try.sizeOf4 e104 rfl) <|
          zA9.cons (OblR.tookS 0 _ _ rfl rfl rfl rfl rfl fun A' R' w' ho hd u S hok hown hav hin hop hds=>by have a0:R' 33=(vptr h102 (p1.toNat*1)):=hd 0 _ _ _ rfl rfl rfl rfl rfl;have e0:=(hin _ rfl).1;rw [e0] at hown ⊢;exact zFD (((((((zAJ hown.2).ptr).snd rfl).snd (zBR _ _ _)).fst).pin (hown.2.2 _ (.head _)) rfl).elem e104 rfl) (zF0.eq rfl) a0 hav hown.1 Try.sizeOf4 (fun _ _ _ h=>h)) <|
          zA9.nil
      intro done ρ σ A R w hdn hI
      replace h0:R 0=v0:=(hI.reg rfl).trans h0
      replace h1:R 1 = .int .i64 p1:=(hI.reg rfl).trans h1
      replace h5:R 5 = .int .i64 x97.1:=(hI.reg rfl).trans h5
      have z105:=hI.inivR 0 rfl
      have z106:=(hI.opnR hdn 7 6 rfl rfl rfl rfl rfl).trans z105
      obtain ⟨S107,eS_v0⟩:∃ S,σ 7=S:=⟨_,rfl⟩
      replace hAA:=hI.lowK hAA hA0 hN (hO.geK (⟨fun _ h=>h,trivial⟩))
      replace hF:Ch S0 w0 w:=hF.tr hI.ch (hO.geK (⟨fun _ h=>h,trivial⟩))
      replace hO:IniOK [⟨v0,S107,trR (fun k=>w0.heap.size≤k∨S0 k) (oPt 71 (oPr (oRd zA2) (oPr (oRd (eSl zA1)) (oPr (oSl 4 (oRd zBK)) (oSl 99 (oRd zA0)))))) (x97.2.1,x97.2.2.1,(x97.2.2.2.1.set p1.toNat true),x97.2.2.2.2) []⟩] A w:=hI.left hdn [(7,⟨v0,S107,trR (fun k=>w0.heap.size≤k∨S0 k) (oPt 71 (oPr (oRd zA2) (oPr (oRd (eSl zA1)) (oPr (oSl 4 (oRd zBK)) (oSl 99 (oRd zA0)))))) (x97.2.1,x97.2.2.1,(x97.2.2.2.1.set p1.toNat true),x97.2.2.2.2) []⟩)] ⟨rfl,rfl,z106,eS_v0,rfl,trivial⟩
      replace hA:=hI.avok
      clear hI
      refine HT.seq ?_
      obtain ⟨e108,hr⟩:=zAF hr
      obtain ⟨x109,q110,hr⟩:=zAK hr
      refine HT.textR [⟨v0,S107,trR (fun k=>w0.heap.size≤k∨S0 k) (oPt 71 (oPr (oRd zA2) (oPr (oRd (eSl zA1)) (oPr (oSl 4 (oRd zBK)) (oSl 99 (oRd zA0)))))) (x97.2.1,x97.2.2.1,(x97.2.2.2.1.set p1.toNat true),x97.2.2.2.2) []⟩] (⟨_,true,[],none,true,fun A=>.raw v0⟩::⟨_,true,[],none,true,fun A=>.raw (.int .i64 p1)⟩::⟨_,true,[],none,true,fun A=>.raw (.int .i64 (p1+(1:Int)))⟩::⟨_,true,[0],some (trR (fun k=>w0.heap.size≤k∨S0 k) (oPt 71 (oPr (oRd zA2) (oPr (oRd (eSl zA1)) (oPr (oSl 4 (oRd zBK)) (oSl 99 (oRd zA0)))))) x109.2 []),false,fun A=>.raw (.int .i64 x109.1)⟩::⟨_,true,[],none,true,fun A=>.raw (.int .i64 x109.1)⟩::[]) (by kernel_rfl) (by kernel_rfl) (Wf.mk' (by kernel_rfl) (UAll.cons zAA (UAll.cons zAA (UAll.cons zAA (UAll.cons zAA (UAll.cons zAA (UAll.nil)))))) (by kernel_rfl) (by kernel_rfl)) hO hA ?_ ?_
      · exact
          zA9.cons (OblR.plain rfl rfl rfl rfl fun A' R' w' ho hd=>by have a0:R' 0=v0:=(ho.old 0 rfl).trans h0;exact zA5 a0) <|
          zA9.cons (OblR.plain rfl rfl rfl rfl fun A' R' w' ho hd=>by have a0:R' 1 = .int .i64 p1:=(ho.old 1 rfl).trans h1;exact zA5 a0) <|
          zA9.cons (OblR.plain rfl rfl rfl rfl fun A' R' w' ho hd=>by have a0:R' 35 = .int .i64 p1:=hd 0 _ _ _ rfl rfl rfl rfl rfl;exact zB8 a0 rfl e108) <|
          zA9.cons (OblR.tookS 0 _ _ rfl rfl rfl rfl rfl fun A' R' w' ho hd u S hok hown hav hin hop hds=>by have a0:R' 34=v0:=hd 0 _ _ _ rfl rfl rfl rfl rfl;have a1:R' 36 = .int .i64 (p1+(1:Int)):=hd 1 _ _ _ rfl rfl rfl rfl rfl;have e0:=(hin _ rfl).1;rw [e0] at hown ⊢;have hu0:zAL R' (.tmp 34)=v0:=a0;exact zCH Try.call45 (zAJ hown.2) hav hown.1 (fun k hk=>.inl (Nat.le_trans (Nat.le_trans hF.size ho.ch.size) hk)) (fun k hk=>SP.lt _ hown.2 hk) (fun S1 hS1 hP=>by simp only [List.map,hu0];exact IH (q110 rfl) (ho.av.subS _) (fun b o h=>h.2) hP a1) (fun _ _ _ h=>h)) <|
          zA9.cons (OblR.plain rfl rfl rfl rfl fun A' R' w' ho hd=>by have a0:R' 37 = .int .i64 x109.1:=hd 0 _ _ _ rfl rfl rfl rfl rfl;exact zA6 a0) <|
          zA9.nil
      intro done ρ σ A R w hdn hI
      replace h0:R 0=v0:=(hI.reg rfl).trans h0
      replace h1:R 1 = .int .i64 p1:=(hI.reg rfl).trans h1
      replace h5:R 5 = .int .i64 x97.1:=(hI.reg rfl).trans h5
      have z111:=hI.inivR 0 rfl
      have z112:=(hI.opnR hdn 4 3 rfl rfl rfl rfl rfl).trans z111
      obtain ⟨S113,eS_v0⟩:∃ S,σ 4=S:=⟨_,rfl⟩
      have h6:R 6 = .int .i64 x109.1:=hI.fact hdn (i:=4) rfl rfl rfl
      replace hAA:=hI.lowK hAA hA0 hN (hO.geK (⟨fun _ h=>h,trivial⟩))
      replace hF:Ch S0 w0 w:=hF.tr hI.ch (hO.geK (⟨fun _ h=>h,trivial⟩))
      replace hO:IniOK [⟨v0,S113,trR (fun k=>w0.heap.size≤k∨S0 k) (oPt 71 (oPr (oRd zA2) (oPr (oRd (eSl zA1)) (oPr (oSl 4 (oRd zBK)) (oSl 99 (oRd zA0)))))) x109.2 []⟩] A w:=hI.left hdn [(4,⟨v0,S113,trR (fun k=>w0.heap.size≤k∨S0 k) (oPt 71 (oPr (oRd zA2) (oPr (oRd (eSl zA1)) (oPr (oSl 4 (oRd zBK)) (oSl 99 (oRd zA0)))))) x109.2 []⟩)] ⟨rfl,rfl,z112,eS_v0,rfl,trivial⟩
      replace hA:=hI.avok
      clear hI
      refine HT.seq ?_
      refine HT.seq ?_
      refine HT.text (l:=⟨_,true,.raw (.int .i64 x97.1)⟩::⟨_,true,.raw (.int .i64 x109.1)⟩::⟨_,true,.raw (.bool (x97.1==x109.1))⟩::[]) (tl:=[]) (by kernel_rfl) (by kernel_rfl) (by kernel_rfl) ?_ ?_
      · exact
          Obls.cons (Obl.plain rfl rfl fun R' w' hw hs hd=>by have a0:R' 5 = .int .i64 x97.1:=(hs 5 rfl).trans h5;exact zA5 a0) <|
          Obls.cons (Obl.plain rfl rfl fun R' w' hw hs hd=>by have a0:R' 6 = .int .i64 x109.1:=(hs 6 rfl).trans h6;exact zA5 a0) <|
          Obls.cons (Obl.plain rfl rfl fun R' w' hw hs hd=>by have a0:R' 38 = .int .i64 x97.1:=hd 0 _ _ _ rfl rfl rfl rfl rfl;have a1:R' 39 = .int .i64 x109.1:=hd 1 _ _ _ rfl rfl rfl rfl rfl;exact zFA a0 a1) <|
          Obls.nil
      intro R w hw hs hF'
      replace h0:R 0=v0:=(hs 0 rfl).trans h0
      replace h1:R 1 = .int .i64 p1:=(hs 1 rfl).trans h1
      replace h5:R 5 = .int .i64 x97.1:=(hs 5 rfl).trans h5
      replace h6:R 6 = .int .i64 x109.1:=(hs 6 rfl).trans h6
      have h40:R 40 = .bool (x97.1==x109.1):=hF' 2 _ _ rfl rfl rfl
      replace hO:=hO.fr hw
      replace hA:=hA.fr hw.size
      replace hF:=hF.tr (hw.ch noB) fun _ h=>False.elim h
      clear hs hF' hw
      refine zA4 ?_
      refine HT.cond (x97.1==x109.1) h40 (fun c114=>?_) (fun c114=>?_)
      · have hr := zAq c114 hr
        refine HT.seq ?_
        refine HT.text (l:=⟨_,true,.raw (.int .i64 x97.1)⟩::⟨_,true,.raw (.int .i64 x97.1)⟩::[]) (tl:=[]) (by kernel_rfl) (by kernel_rfl) (by kernel_rfl) ?_ ?_
        · exact
            Obls.cons (Obl.plain rfl rfl fun R' w' hw hs hd=>by have a0:R' 5 = .int .i64 x97.1:=(hs 5 rfl).trans h5;exact zA5 a0) <|
            Obls.cons (Obl.plain rfl rfl fun R' w' hw hs hd=>by have a0:R' 41 = .int .i64 x97.1:=hd 0 _ _ _ rfl rfl rfl rfl rfl;exact zA6 a0) <|
            Obls.nil
        intro R w hw hs hF'
        have h4:R 4 = .int .i64 x97.1:=hF' 1 _ _ rfl rfl rfl
        replace hO:=hO.fr hw
        replace hA:=hA.fr hw.size
        replace hF:=hF.tr (hw.ch noB) fun _ h=>False.elim h
        clear hs hF' hw
        refine zA4 ?_
        refine HT.ret ?_
        obtain rfl:=Option.some.inj hr
        exact ⟨.inr rfl,[R 4],⟨rfl,trivial⟩,h4,zCx rfl (hO.own 0 _ rfl) (hO.ok 0 _ rfl).2 hAA hF⟩
      · have hr := zAp c114 hr
        refine HT.skip ?_
        refine HT.seq ?_
        obtain ⟨e115,hr⟩:=zAF hr
        obtain ⟨e116,hr⟩:=zAF hr
        refine HT.drawR [⟨v0,S113,trR (fun k=>w0.heap.size≤k∨S0 k) (oPt 71 (oPr (oRd zA2) (oPr (oRd (eSl zA1)) (oPr (oSl 4 (oRd zBK)) (oSl 99 (oRd zA0)))))) x109.2 []⟩] (⟨_,true,[],none,true,fun A=>.raw v0⟩::⟨_,true,[],none,true,fun A=>.raw v0⟩::⟨_,true,[],none,true,fun A=>.raw (padd v0 1)⟩::⟨_,true,[],none,true,fun A=>.rep (eSl zA1) A x109.2.2.1⟩::⟨_,true,[],none,true,fun A=>.raw (.int .i64 p1)⟩::⟨_,true,[],none,true,fun A=>.qtr zA1 A (gtD x109.2.2.1 p1)⟩::⟨_,true,[],none,true,fun A=>.qtr (eInt .i64) A ((gtD x109.2.2.1 p1).1)⟩::⟨_,true,[],none,true,fun A=>.raw (.int .i64 ((gtD x109.2.2.1 p1).1))⟩::⟨_,true,[],none,true,fun A=>.raw v0⟩::⟨_,true,[],none,true,fun A=>.raw v0⟩::⟨_,true,[],none,true,fun A=>.raw (padd v0 1)⟩::⟨_,true,[],none,true,fun A=>.rep (eSl zA1) A x109.2.2.1⟩::⟨_,true,[],none,true,fun A=>.raw (.int .i64 p1)⟩::⟨_,true,[],none,true,fun A=>.qtr zA1 A (gtD x109.2.2.1 p1)⟩::⟨_,true,[],none,true,fun A=>.qtr (eInt .i64) A ((gtD x109.2.2.1 p1).2.1)⟩::⟨_,true,[],none,true,fun A=>.raw (.int .i64 ((gtD x109.2.2.1 p1).2.1))⟩::⟨_,true,[],none,true,fun A=>.raw (.int .i64 x97.1)⟩::⟨_,true,[],none,true,fun A=>.raw (.int .i64 x109.1)⟩::⟨_,true,[],none,true,fun A=>.rep zA0 A ((gtD x109.2.2.1 p1).1,(gtD x109.2.2.1 p1).2.1,x97.1,x109.1)⟩::⟨_,true,[],some (.box w0.heap.size 99 zA0 ((0:Int),((0:Int),((0:Int),(0:Int))))),true,fun A=>.any⟩::⟨_,true,[20],some (.box w0.heap.size 99 zA0 ((gtD x109.2.2.1 p1).1,(gtD x109.2.2.1 p1).2.1,x97.1,x109.1)),false,fun A=>.any⟩::[]) (by kernel_rfl) (by kernel_rfl) (by kernel_rfl) (Wf.mk' (by kernel_rfl) (UAll.cons zAA (UAll.cons zAA (UAll.cons zAA (UAll.cons zAn (UAll.cons zAA (UAll.cons zCI (UAll.cons zCI (UAll.cons zAA (UAll.cons zAA (UAll.cons zAA (UAll.cons zAA (UAll.cons zAn (UAll.cons zAA (UAll.cons zCI (UAll.cons zCI (UAll.cons zAA (UAll.cons zAA (UAll.cons zAA (UAll.cons zAn (UAll.cons zAG (UAll.cons zAG (UAll.nil)))))))))))))))))))))) (by kernel_rfl) (by kernel_rfl)) hO hA ?_ ?_
        · exact
            zA9.cons (OblR.plain rfl rfl rfl rfl fun A' R' w' ho hd=>by have a0:R' 0=v0:=(ho.old 0 rfl).trans h0;exact zA5 a0) <|
            zA9.cons (OblR.plain rfl rfl rfl rfl fun A' R' w' ho hd=>by have a0:R' 42=v0:=hd 0 _ _ _ rfl rfl rfl rfl rfl;exact zB4 (zAJ (hO.own 0 _ rfl).2).ptr.ad a0) <|
            zA9.cons (OblR.plain rfl rfl rfl rfl fun A' R' w' ho hd=>by have a0:R' 43=v0:=hd 0 _ _ _ rfl rfl rfl rfl rfl;exact zAb ((zAJ (hO.own 0 _ rfl).2).ptr).ad a0 zHM Try.sizeOf65 (by decide) rfl) <|
            zA9.cons (OblR.plain rfl rfl rfl rfl fun A' R' w' ho hd=>by have a0:R' 44=(padd v0 1):=hd 0 _ _ _ rfl rfl rfl rfl rfl;exact (zEy ((((zAJ (ho.rdo 0 _ rfl rfl).2).ptr).snd rfl).fst) a0 Try.isAgg65 Try.sizeOf65)) <|
            zA9.cons (OblR.plain rfl rfl rfl rfl fun A' R' w' ho hd=>by have a0:R' 1 = .int .i64 p1:=(ho.old 1 rfl).trans h1;exact zA5 a0) <|
            zA9.cons (OblR.plain rfl rfl rfl rfl fun A' R' w' ho hd=>by have a0:Rep (eSl zA1) A' w' (R' 45) x109.2.2.1:=hd 0 _ _ _ rfl rfl rfl rfl rfl;have a1:R' 46 = .int .i64 p1:=hd 1 _ _ _ rfl rfl rfl rfl rfl;exact zAN a0 a1 Try.underlying65 Try.sizeOf82 e115) <|
            zA9.cons (OblR.plain rfl rfl rfl rfl fun A' R' w' ho hd=>by have a0:QRep zA1 A' w' (R' 47) (gtD x109.2.2.1 p1):=hd 0 _ _ _ rfl rfl rfl rfl rfl;exact zAc a0 zCS Try.sizeOf3 (by decide) zAz rfl) <|
            zA9.cons (OblR.plain rfl rfl rfl rfl fun A' R' w' ho hd=>by have a0:QRep (eInt .i64) A' w' (R' 48) ((gtD x109.2.2.1 p1).1):=hd 0 _ _ _ rfl rfl rfl rfl rfl;exact OpF.int (zAv a0.ptr Try.isAgg3 Try.sizeOf3)) <|
            zA9.cons (OblR.plain rfl rfl rfl rfl fun A' R' w' ho hd=>by have a0:R' 0=v0:=(ho.old 0 rfl).trans h0;exact zA5 a0) <|
            zA9.cons (OblR.plain rfl rfl rfl rfl fun A' R' w' ho hd=>by have a0:R' 50=v0:=hd 0 _ _ _ rfl rfl rfl rfl rfl;exact zB4 (zAJ (hO.own 0 _ rfl).2).ptr.ad a0) <|
            zA9.cons (OblR.plain rfl rfl rfl rfl fun A' R' w' ho hd=>by have a0:R' 51=v0:=hd 0 _ _ _ rfl rfl rfl rfl rfl;exact zAb ((zAJ (hO.own 0 _ rfl).2).ptr).ad a0 zHM Try.sizeOf65 (by decide) rfl) <|
            zA9.cons (OblR.plain rfl rfl rfl rfl fun A' R' w' ho hd=>by have a0:R' 52=(padd v0 1):=hd 0 _ _ _ rfl rfl rfl rfl rfl;exact (zEy ((((zAJ (ho.rdo 0 _ rfl rfl).2).ptr).snd rfl).fst) a0 Try.isAgg65 Try.sizeOf65)) <|
            zA9.cons (OblR.plain rfl rfl rfl rfl fun A' R' w' ho hd=>by have a0:R' 1 = .int .i64 p1:=(ho.old 1 rfl).trans h1;exact zA5 a0) <|
            zA9.cons (OblR.plain rfl rfl rfl rfl fun A' R' w' ho hd=>by have a0:Rep (eSl zA1) A' w' (R' 53) x109.2.2.1:=hd 0 _ _ _ rfl rfl rfl rfl rfl;have a1:R' 54 = .int .i64 p1:=hd 1 _ _ _ rfl rfl rfl rfl rfl;exact zAN a0 a1 Try.underlying65 Try.sizeOf82 e116) <|
            zA9.cons (OblR.plain rfl rfl rfl rfl fun A' R' w' ho hd=>by have a0:QRep zA1 A' w' (R' 55) (gtD x109.2.2.1 p1):=hd 0 _ _ _ rfl rfl rfl rfl rfl;exact zAc a0 zDX Try.sizeOf3 (by decide) zBH rfl) <|
            zA9.cons (OblR.plain rfl rfl rfl rfl fun A' R' w' ho hd=>by have a0:QRep (eInt .i64) A' w' (R' 56) ((gtD x109.2.2.1 p1).2.1):=hd 0 _ _ _ rfl rfl rfl rfl rfl;exact OpF.int (zAv a0.ptr Try.isAgg3 Try.sizeOf3)) <|
            zA9.cons (OblR.plain rfl rfl rfl rfl fun A' R' w' ho hd=>by have a0:R' 5 = .int .i64 x97.1:=(ho.old 5 rfl).trans h5;exact zA5 a0) <|
            zA9.cons (OblR.plain rfl rfl rfl rfl fun A' R' w' ho hd=>by have a0:R' 6 = .int .i64 x109.1:=(ho.old 6 rfl).trans h6;exact zA5 a0) <|
            zA9.cons (OblR.plain rfl rfl rfl rfl fun A' R' w' ho hd=>by have a0:R' 49 = .int .i64 ((gtD x109.2.2.1 p1).1):=hd 0 _ _ _ rfl rfl rfl rfl rfl;have a1:R' 57 = .int .i64 ((gtD x109.2.2.1 p1).2.1):=hd 1 _ _ _ rfl rfl rfl rfl rfl;have a2:R' 58 = .int .i64 x97.1:=hd 2 _ _ _ rfl rfl rfl rfl rfl;have a3:R' 59 = .int .i64 x109.1:=hd 3 _ _ _ rfl rfl rfl rfl rfl;exact zE2 (v:=.agg #[.int .i64 ((gtD x109.2.2.1 p1).1),.int .i64 ((gtD x109.2.2.1 p1).2.1),.int .i64 x97.1,.int .i64 x109.1]) (by simp [execOp,Instr.build,zAL,a0,a1,a2,a3,underlying,Try.underlying99,Try.zeroValue99,Try.sizeOf3,go_sem,Instr.fill]) ⟨_,rfl,zBr zAe (zBr zAe (zBr zAe zAe))⟩) <|
            zA9.cons (OblR.made _ rfl rfl rfl rfl fun A' R' w' ho hd=>by exact zC5 Try.zeroValue99 (fun A w=>zBr zAe (zBr zAe (zBr zAe zAe))) (Nat.le_trans hF.size ho.ch.size)) <|
            zA9.cons (OblR.took 20 _ _ rfl rfl rfl rfl rfl fun A' R' w' ho hd u hok hav hin hop hds=>by have a1:Rep zA0 A' w' (R' 60) ((gtD x109.2.2.1 p1).1,(gtD x109.2.2.1 p1).2.1,x97.1,x109.1):=hd 1 _ _ _ rfl rfl rfl rfl rfl;obtain ⟨b,hb,hB',hbx⟩:=hok;have hop':=hop _ _ rfl rfl rfl rfl;exact zBY a1 (hop'.symm.trans hb) hb ⟨b,hb,hB',hbx⟩ hav (FldS.id _) Try.sizeOf99 rfl) <|
            zA9.nil
        intro done ρ σ A R w hdn hI
        replace h0:R 0=v0:=(hI.reg rfl).trans h0
        have z117:=hI.inivR 0 rfl
        obtain ⟨b7_117,e_b7_117⟩:=hI.boxv hdn 21 rfl rfl
        have z119:=(hI.opnR hdn 21 20 rfl rfl rfl rfl rfl).symm.trans e_b7_117
        have h7:R 7=(.pointer (some ⟨b7_117,0,none⟩)):=(hI.opvR hdn 20 19 rfl rfl rfl rfl rfl).symm.trans z119
        have eS_v0:=hI.inisR 0 rfl
        replace hAA:=hI.lowK hAA hA0 hN (hO.geK (⟨fun _ h=>h,trivial⟩))
        replace hF:Ch S0 w0 w:=hF.tr hI.ch (hO.geK (⟨fun _ h=>h,trivial⟩))
        replace hO:IniOK [⟨v0,S113,trR (fun k=>w0.heap.size≤k∨S0 k) (oPt 71 (oPr (oRd zA2) (oPr (oRd (eSl zA1)) (oPr (oSl 4 (oRd zBK)) (oSl 99 (oRd zA0)))))) x109.2 []⟩,ob (.pointer (some ⟨b7_117,0,none⟩)) (.box w0.heap.size 99 zA0 ((gtD x109.2.2.1 p1).1,(gtD x109.2.2.1 p1).2.1,x97.1,x109.1))] A w:=hI.left hdn [(0,⟨v0,S113,trR (fun k=>w0.heap.size≤k∨S0 k) (oPt 71 (oPr (oRd zA2) (oPr (oRd (eSl zA1)) (oPr (oSl 4 (oRd zBK)) (oSl 99 (oRd zA0)))))) x109.2 []⟩),(21,ob (.pointer (some ⟨b7_117,0,none⟩)) (.box w0.heap.size 99 zA0 ((gtD x109.2.2.1 p1).1,(gtD x109.2.2.1 p1).2.1,x97.1,x109.1)))] ⟨rfl,rfl,z117,eS_v0,rfl,⟨rfl,rfl,e_b7_117,rfl,rfl,trivial⟩⟩
        replace hA:=hI.avok
        clear hI
        refine HT.seq ?_
        obtain ⟨h120,p_h120⟩:=((((((zAJ (hO.own 0 _ rfl).2).ptr).snd rfl).snd (zBR _ _ _)).snd (zBR _ _ _))).open1 rfl
        replace hO:IniOK [⟨v0,S113,trR (fun k=>w0.heap.size≤k∨S0 k) (oPt 71 (oPr (oRd zA2) (oPr (oRd (eSl zA1)) (oPr (oSl 4 (oRd zBK)) (oSl 99 (oRd zA0)))))) x109.2 [((padd v0 3),[h120])]⟩,ob (.pointer (some ⟨b7_117,0,none⟩)) (.box w0.heap.size 99 zA0 ((gtD x109.2.2.1 p1).1,(gtD x109.2.2.1 p1).2.1,x97.1,x109.1))] A w:=hO.repin 0 rfl (trP.pin p_h120)
        obtain ⟨x122,q123,hr⟩:=zAK hr
        refine HT.draw (by kernel_rfl) (l:=⟨_,true,.raw v0⟩::⟨_,true,.raw v0⟩::⟨_,true,.raw (padd v0 3)⟩::⟨_,true,.raw h120⟩::⟨_,true,.rep zA0 A ((gtD x109.2.2.1 p1).1,(gtD x109.2.2.1 p1).2.1,x97.1,x109.1)⟩::⟨_,true,.raw (.int .i64 x122)⟩::⟨_,true,.raw (.int .i64 x122)⟩::[]) (tl:=[]) (by kernel_rfl) (by kernel_rfl) (by kernel_rfl) (by kernel_rfl) ?_ ?_
        · exact
            Obls.cons (Obl.plain rfl rfl fun R' w' hw hs hd=>by have a0:R' 0=v0:=(hs 0 rfl).trans h0;exact zA5 a0) <|
            Obls.cons (Obl.plain rfl rfl fun R' w' hw hs hd=>by have a0:R' 61=v0:=hd 0 _ _ _ rfl rfl rfl rfl rfl;exact zB4 (zAJ (hO.own 0 _ rfl).2).ptr.ad a0) <|
            Obls.cons (Obl.plain rfl rfl fun R' w' hw hs hd=>by have a0:R' 62=v0:=hd 0 _ _ _ rfl rfl rfl rfl rfl;exact zAb ((zAJ (hO.own 0 _ rfl).2).ptr).ad a0 zGj Try.sizeOf39 (by decide) rfl) <|
            Obls.cons (Obl.plain rfl rfl fun R' w' hw hs hd=>by have a0:R' 63=(padd v0 3):=hd 0 _ _ _ rfl rfl rfl rfl rfl;exact zBv (((hO.fr hw).own 0 _ rfl).2.2 _ (.head _)) a0 Try.isAgg39 Try.sizeOf39) <|
            Obls.cons (Obl.plain rfl rfl fun R' w' hw hs hd=>by have a0:R' 7=(.pointer (some ⟨b7_117,0,none⟩)):=(hs 7 rfl).trans h7;exact (zAD ((hO.fr hw).ok 1 _ rfl).1 a0 (Fld.id _) rfl Try.isAgg99 Try.sizeOf99)) <|
            Obls.cons (Obl.plain rfl rfl fun R' w' hw hs hd=>by have a0:R' 64=h120:=hd 0 _ _ _ rfl rfl rfl rfl rfl;have ra0:Rep (eSl zA0) A0 w' (R' 64) _:=(zII (((((((zAJ ((hO.fr hw).own 0 _ rfl).2).ptr).snd rfl).snd (zBR _ _ _)).snd (zBR _ _ _))).pin (((hO.fr hw).own 0 _ rfl).2.2 _ (.head _)) rfl) hAA (fun k o hk ha=>(((hO.fr hw).own 0 _ rfl).1 k hk).elim (fun h=>Nat.not_lt.2 h (hA0 k o ha)) fun h=>hN k o ha h)).eq a0;have a1:Rep zA0 A w' (R' 65) ((gtD x109.2.2.1 p1).1,(gtD x109.2.2.1 p1).2.1,x97.1,x109.1):=hd 1 _ _ _ rfl rfl rfl rfl rfl;exact zAl Try.call78 (zC3 (q123 rfl) (hA00.fr ((Nat.le_trans hF.size hw.size))) ra0 (a1.down hAA))) <|
            Obls.cons (Obl.plain rfl rfl fun R' w' hw hs hd=>by have a0:R' 66 = .int .i64 x122:=hd 0 _ _ _ rfl rfl rfl rfl rfl;exact zA6 a0) <|
            Obls.nil
        intro R w hw hs hF'
        replace h0:R 0=v0:=(hs 0 rfl).trans h0
        replace h7:R 7=(.pointer (some ⟨b7_117,0,none⟩)):=(hs 7 rfl).trans h7
        have h8:R 8 = .int .i64 x122:=hF' 6 _ _ rfl rfl rfl
        replace hO:=hO.fr hw
        replace hA:=hA.fr hw.size
        replace hF:=hF.tr (hw.ch noB) fun _ h=>False.elim h
        clear hs hF' hw
        refine zA4 ?_
        replace hO:IniOK [⟨v0,S113,trR (fun k=>w0.heap.size≤k∨S0 k) (oPt 71 (oPr (oRd zA2) (oPr (oRd (eSl zA1)) (oPr (oSl 4 (oRd zBK)) (oSl 99 (oRd zA0)))))) x109.2 []⟩,ob (.pointer (some ⟨b7_117,0,none⟩)) (.box w0.heap.size 99 zA0 ((gtD x109.2.2.1 p1).1,(gtD x109.2.2.1 p1).2.1,x97.1,x109.1))] A w:=hO.repin 0 rfl trP.nopin
        refine HT.seq ?_
        refine HT.seq ?_
        refine HT.text (l:=⟨_,true,.raw (.int .i64 x122)⟩::⟨_,true,.raw (.bool (decide (x122<(0:Int))))⟩::[]) (tl:=[]) (by kernel_rfl) (by kernel_rfl) (by kernel_rfl) ?_ ?_
        · exact
            Obls.cons (Obl.plain rfl rfl fun R' w' hw hs hd=>by have a0:R' 8 = .int .i64 x122:=(hs 8 rfl).trans h8;exact zA5 a0) <|
            Obls.cons (Obl.plain rfl rfl fun R' w' hw hs hd=>by have a0:R' 67 = .int .i64 x122:=hd 0 _ _ _ rfl rfl rfl rfl rfl;exact zBI a0 rfl) <|
            Obls.nil
        intro R w hw hs hF'
        replace h0:R 0=v0:=(hs 0 rfl).trans h0
        replace h7:R 7=(.pointer (some ⟨b7_117,0,none⟩)):=(hs 7 rfl).trans h7
        replace h8:R 8 = .int .i64 x122:=(hs 8 rfl).trans h8
        have h68:R 68 = .bool (decide (x122<(0:Int))):=hF' 1 _ _ rfl rfl rfl
        replace hO:=hO.fr hw
        replace hA:=hA.fr hw.size
        replace hF:=hF.tr (hw.ch noB) fun _ h=>False.elim h
        clear hs hF' hw
        refine zA4 ?_
        refine HT.cond (decide (x122<(0:Int))) h68 (fun c124=>?_) (fun c124=>?_)
        · have hr := zAq c124 hr
          refine HT.seq ?_
          obtain ⟨h125,p_h125⟩:=((((((zAJ (hO.own 0 _ rfl).2).ptr).snd rfl).snd (zBR _ _ _)).snd (zBR _ _ _))).open1 rfl
          replace hO:IniOK [⟨v0,S113,trR (fun k=>w0.heap.size≤k∨S0 k) (oPt 71 (oPr (oRd zA2) (oPr (oRd (eSl zA1)) (oPr (oSl 4 (oRd zBK)) (oSl 99 (oRd zA0)))))) x109.2 [((padd v0 3),[h125])]⟩,ob (.pointer (some ⟨b7_117,0,none⟩)) (.box w0.heap.size 99 zA0 ((gtD x109.2.2.1 p1).1,(gtD x109.2.2.1 p1).2.1,x97.1,x109.1))] A w:=hO.repin 0 rfl (trP.pin p_h125)
          refine HT.text (l:=⟨_,true,.raw v0⟩::⟨_,true,.raw v0⟩::⟨_,true,.raw (padd v0 3)⟩::⟨_,true,.raw h125⟩::⟨_,true,.raw (.int .i64 (x109.2.2.2.2.length:Int))⟩::⟨_,true,.raw (.int .i64 (x109.2.2.2.2.length:Int))⟩::[]) (tl:=[]) (by kernel_rfl) (by kernel_rfl) (by kernel_rfl) ?_ ?_
          · exact
              Obls.cons (Obl.plain rfl rfl fun R' w' hw hs hd=>by have a0:R' 0=v0:=(hs 0 rfl).trans h0;exact zA5 a0) <|
              Obls.cons (Obl.plain rfl rfl fun R' w' hw hs hd=>by have a0:R' 69=v0:=hd 0 _ _ _ rfl rfl rfl rfl rfl;exact zB4 (zAJ (hO.own 0 _ rfl).2).ptr.ad a0) <|
              Obls.cons (Obl.plain rfl rfl fun R' w' hw hs hd=>by have a0:R' 70=v0:=hd 0 _ _ _ rfl rfl rfl rfl rfl;exact zAb ((zAJ (hO.own 0 _ rfl).2).ptr).ad a0 zGj Try.sizeOf39 (by decide) rfl) <|
              Obls.cons (Obl.plain rfl rfl fun R' w' hw hs hd=>by have a0:R' 71=(padd v0 3):=hd 0 _ _ _ rfl rfl rfl rfl rfl;exact zBv (((hO.fr hw).own 0 _ rfl).2.2 _ (.head _)) a0 Try.isAgg39 Try.sizeOf39) <|
              Obls.cons (Obl.plain rfl rfl fun R' w' hw hs hd=>by have a0:R' 72=h125:=hd 0 _ _ _ rfl rfl rfl rfl rfl;exact zFZ (((((((zAJ (hO.own 0 _ rfl).2).ptr).snd rfl).snd (zBR _ _ _)).snd (zBR _ _ _))).pin ((hO.own 0 _ rfl).2.2 _ (.head _)) rfl) a0 Try.underlying39) <|
              Obls.cons (Obl.plain rfl rfl fun R' w' hw hs hd=>by have a0:R' 73 = .int .i64 (x109.2.2.2.2.length:Int):=hd 0 _ _ _ rfl rfl rfl rfl rfl;exact zA6 a0) <|
              Obls.nil
          intro R w hw hs hF'
          replace h0:R 0=v0:=(hs 0 rfl).trans h0
          replace h7:R 7=(.pointer (some ⟨b7_117,0,none⟩)):=(hs 7 rfl).trans h7
          have h8:R 8 = .int .i64 (x109.2.2.2.2.length:Int):=hF' 5 _ _ rfl rfl rfl
          replace hO:=hO.fr hw
          replace hA:=hA.fr hw.size
          replace hF:=hF.tr (hw.ch noB) fun _ h=>False.elim h
          clear hs hF' hw
          refine zA4 ?_
          replace hO:IniOK [⟨v0,S113,trR (fun k=>w0.heap.size≤k∨S0 k) (oPt 71 (oPr (oRd zA2) (oPr (oRd (eSl zA1)) (oPr (oSl 4 (oRd zBK)) (oSl 99 (oRd zA0)))))) x109.2 []⟩,ob (.pointer (some ⟨b7_117,0,none⟩)) (.box w0.heap.size 99 zA0 ((gtD x109.2.2.1 p1).1,(gtD x109.2.2.1 p1).2.1,x97.1,x109.1))] A w:=hO.repin 0 rfl trP.nopin
          obtain ⟨h127,p_h127⟩:=((((((zAJ (hO.own 0 _ rfl).2).ptr).snd rfl).snd (zBR _ _ _)).snd (zBR _ _ _))).open1 rfl
          replace hO:IniOK [⟨v0,S113,trR (fun k=>w0.heap.size≤k∨S0 k) (oPt 71 (oPr (oRd zA2) (oPr (oRd (eSl zA1)) (oPr (oSl 4 (oRd zBK)) (oSl 99 (oRd zA0)))))) x109.2 [((padd v0 3),[h127])]⟩,ob (.pointer (some ⟨b7_117,0,none⟩)) (.box w0.heap.size 99 zA0 ((gtD x109.2.2.1 p1).1,(gtD x109.2.2.1 p1).2.1,x97.1,x109.1))] A w:=hO.repin 0 rfl (trP.pin p_h127)
          obtain ⟨e129,hr⟩:=zAF hr
          refine HT.drawR [⟨v0,S113,trR (fun k=>w0.heap.size≤k∨S0 k) (oPt 71 (oPr (oRd zA2) (oPr (oRd (eSl zA1)) (oPr (oSl 4 (oRd zBK)) (oSl 99 (oRd zA0)))))) x109.2 [((padd v0 3),[h127])]⟩,ob (.pointer (some ⟨b7_117,0,none⟩)) (.box w0.heap.size 99 zA0 ((gtD x109.2.2.1 p1).1,(gtD x109.2.2.1 p1).2.1,x97.1,x109.1))] (⟨_,true,[],none,true,fun A=>.raw v0⟩::⟨_,true,[],none,true,fun A=>.raw v0⟩::⟨_,true,[],none,true,fun A=>.raw v0⟩::⟨_,true,[],none,true,fun A=>.raw (padd v0 3)⟩::⟨_,true,[],none,true,fun A=>.raw h127⟩::⟨_,true,[],none,true,fun A=>.rep zA0 A ((gtD x109.2.2.1 p1).1,(gtD x109.2.2.1 p1).2.1,x97.1,x109.1)⟩::⟨_,true,[],none,true,fun A=>.rep (eSl zA0) A ([((gtD x109.2.2.1 p1).1,(gtD x109.2.2.1 p1).2.1,x97.1,x109.1)]:List zA3)⟩::⟨_,true,[0],some (.gen (fun k=>w0.heap.size≤k∨S0 k) (pdP (oSl 99 (oRd zA0)) (padd v0 3) (fun z A w S=>(trP (oPt 71 (oPr (oRd zA2) (oPr (oRd (eSl zA1)) (oPr (oSl 4 (oRd zBK)) (oSl 99 (oRd zA0)))))) (x109.2.1,x109.2.2.1,x109.2.2.2.1,z) []).P A w S v0) (x109.2.2.2.2++([((gtD x109.2.2.1 p1).1,(gtD x109.2.2.1 p1).2.1,x97.1,x109.1)]:List zA3)))),true,fun A=>.any⟩::⟨_,true,[],none,true,fun A=>.raw v0⟩::⟨_,true,[],none,true,fun A=>.raw (padd v0 3)⟩::⟨_,true,[9],some (.gen (fun k=>w0.heap.size≤k∨S0 k) (fixP v0 (trP (oPt 71 (oPr (oRd zA2) (oPr (oRd (eSl zA1)) (oPr (oSl 4 (oRd zBK)) (oSl 99 (oRd zA0)))))) (x109.2.1,x109.2.2.1,x109.2.2.2.1,(x109.2.2.2.2++([((gtD x109.2.2.1 p1).1,(gtD x109.2.2.1 p1).2.1,x97.1,x109.1)]:List zA3))) []))),false,fun A=>.any⟩::[]) (by kernel_rfl) (by kernel_rfl) (by kernel_rfl) (Wf.mk' (by kernel_rfl) (UAll.cons zAA (UAll.cons zAA (UAll.cons zAA (UAll.cons zAA (UAll.cons zAA (UAll.cons zAn (UAll.cons zAn (UAll.cons zAG (UAll.cons zAA (UAll.cons zAA (UAll.cons zAG (UAll.nil)))))))))))) (by kernel_rfl) (by kernel_rfl)) hO hA ?_ ?_
          · exact
              zA9.cons (OblR.plain rfl rfl rfl rfl fun A' R' w' ho hd=>by have a0:R' 0=v0:=(ho.old 0 rfl).trans h0;exact zA5 a0) <|
              zA9.cons (OblR.plain rfl rfl rfl rfl fun A' R' w' ho hd=>by have a0:R' 0=v0:=(ho.old 0 rfl).trans h0;exact zA5 a0) <|
              zA9.cons (OblR.plain rfl rfl rfl rfl fun A' R' w' ho hd=>by have a0:R' 75=v0:=hd 0 _ _ _ rfl rfl rfl rfl rfl;exact zB4 (zAJ (hO.own 0 _ rfl).2).ptr.ad a0) <|
              zA9.cons (OblR.plain rfl rfl rfl rfl fun A' R' w' ho hd=>by have a0:R' 76=v0:=hd 0 _ _ _ rfl rfl rfl rfl rfl;exact zAb ((zAJ (hO.own 0 _ rfl).2).ptr).ad a0 zGj Try.sizeOf39 (by decide) rfl) <|
              zA9.cons (OblR.plain rfl rfl rfl rfl fun A' R' w' ho hd=>by have a0:R' 77=(padd v0 3):=hd 0 _ _ _ rfl rfl rfl rfl rfl;exact zBv ((ho.rdo 0 _ rfl rfl).2.2 _ (.head _)) a0 Try.isAgg39 Try.sizeOf39) <|
              zA9.cons (OblR.plain rfl rfl rfl rfl fun A' R' w' ho hd=>by have a0:R' 7=(.pointer (some ⟨b7_117,0,none⟩)):=(ho.old 7 rfl).trans h7;exact (zAD (ho.rd 1 _ rfl rfl) a0 (Fld.id _) rfl Try.isAgg99 Try.sizeOf99)) <|
              zA9.cons (OblR.plain rfl rfl rfl rfl fun A' R' w' ho hd=>by have a0:Rep zA0 A' w' (R' 79) ((gtD x109.2.2.1 p1).1,(gtD x109.2.2.1 p1).2.1,x97.1,x109.1):=hd 0 _ _ _ rfl rfl rfl rfl rfl;exact zFW [_] (E:=zA0) ⟨a0,trivial⟩ Try.underlying39 Try.sizeOf99 Try.zeroValue99 rfl rfl rfl ho.av) <|
              zA9.cons (OblR.tookS 0 _ _ rfl rfl rfl rfl rfl fun A' R' w' ho hd u S hok hown hav hin hop hds=>by have a0:R' 78=h127:=hd 0 _ _ _ rfl rfl rfl rfl rfl;have a1:Rep (eSl zA0) A' w' (R' 80) ([((gtD x109.2.2.1 p1).1,(gtD x109.2.2.1 p1).2.1,x97.1,x109.1)]:List zA3):=hd 1 _ _ _ rfl rfl rfl rfl rfl;have e0:=(hin _ rfl).1;rw [e0] at hown ⊢;exact zG1 (((((zAJ hown.2).ptr).snd rfl).snd (zBR _ _ _)).snd (zBR _ _ _)) (hown.2.2 _ (.head _)) a0 hav hown.1 (fun k hk=>.inl (Nat.le_trans (Nat.le_trans hF.size ho.ch.size) hk)) (fun k hk=>SP.lt _ hown.2 hk) a1 Try.underlying39 zM2 e129) <|
              zA9.cons (OblR.plain rfl rfl rfl rfl fun A' R' w' ho hd=>by have a0:R' 74=v0:=hd 0 _ _ _ rfl rfl rfl rfl rfl;exact zB4 (zAJ (hO.own 0 _ rfl).2).ptr.ad a0) <|
              zA9.cons (OblR.plain rfl rfl rfl rfl fun A' R' w' ho hd=>by have a0:R' 82=v0:=hd 0 _ _ _ rfl rfl rfl rfl rfl;exact zAb ((zAJ (hO.own 0 _ rfl).2).ptr).ad a0 zGj Try.sizeOf39 (by decide) rfl) <|
              zA9.cons (OblR.tookS 9 _ _ rfl rfl rfl rfl rfl fun A' R' w' ho hd u S hok hown hav hin hop hds=>by have a0:R' 83=(padd v0 3):=hd 0 _ _ _ rfl rfl rfl rfl rfl;exact zHq hown.2 (hop _ _ rfl rfl rfl rfl).symm a0 hav hown.1 Try.sizeOf39 (fun _ _ _ h=>h)) <|
              zA9.nil
          intro done ρ σ A R w hdn hI
          replace h8:R 8 = .int .i64 (x109.2.2.2.2.length:Int):=(hI.reg rfl).trans h8
          obtain ⟨u130,e_u130⟩:∃ u,ρ 12=u:=⟨_,rfl⟩
          have z131:=hI.inivR 1 rfl
          obtain ⟨S132,eS_v0⟩:∃ S,σ 12=S:=⟨_,rfl⟩
          replace hAA:=hI.lowK hAA hA0 hN (hO.geK (⟨fun _ h=>h,⟨.inl rfl,trivial⟩⟩))
          replace hF:Ch S0 w0 w:=hF.tr hI.ch (hO.geK (⟨fun _ h=>h,⟨.inl rfl,trivial⟩⟩))
          replace hO:IniOK [⟨u130,S132,.gen (fun k=>w0.heap.size≤k∨S0 k) (fixP v0 (trP (oPt 71 (oPr (oRd zA2) (oPr (oRd (eSl zA1)) (oPr (oSl 4 (oRd zBK)) (oSl 99 (oRd zA0)))))) (x109.2.1,x109.2.2.1,x109.2.2.2.1,(x109.2.2.2.2++([((gtD x109.2.2.1 p1).1,(gtD x109.2.2.1 p1).2.1,x97.1,x109.1)]:List zA3))) []))⟩] A w:=hI.left hdn [(12,⟨u130,S132,.gen (fun k=>w0.heap.size≤k∨S0 k) (fixP v0 (trP (oPt 71 (oPr (oRd zA2) (oPr (oRd (eSl zA1)) (oPr (oSl 4 (oRd zBK)) (oSl 99 (oRd zA0)))))) (x109.2.1,x109.2.2.1,x109.2.2.2.1,(x109.2.2.2.2++([((gtD x109.2.2.1 p1).1,(gtD x109.2.2.1 p1).2.1,x97.1,x109.1)]:List zA3))) []))⟩)] ⟨rfl,rfl,e_u130,eS_v0,rfl,trivial⟩
          replace hA:=hI.avok
          clear hI
          replace hO:IniOK [⟨v0,S132,trR (fun k=>w0.heap.size≤k∨S0 k) (oPt 71 (oPr (oRd zA2) (oPr (oRd (eSl zA1)) (oPr (oSl 4 (oRd zBK)) (oSl 99 (oRd zA0)))))) (x109.2.1,x109.2.2.1,x109.2.2.2.1,(x109.2.2.2.2++([((gtD x109.2.2.1 p1).1,(gtD x109.2.2.1 p1).2.1,x97.1,x109.1)]:List zA3))) []⟩] A w:=hO.refix 0 rfl
          refine HT.seq ?_
          obtain ⟨e133,hr⟩:=zAF hr
          refine HT.text (l:=⟨_,true,.raw (.int .i64 (x109.2.2.2.2.length:Int))⟩::⟨_,true,.raw (.int .i64 ((x109.2.2.2.2.length:Int)+(2:Int)))⟩::⟨_,true,.raw (.int .i64 ((x109.2.2.2.2.length:Int)+(2:Int)))⟩::[]) (tl:=[]) (by kernel_rfl) (by kernel_rfl) (by kernel_rfl) ?_ ?_
          · exact
              Obls.cons (Obl.plain rfl rfl fun R' w' hw hs hd=>by have a0:R' 8 = .int .i64 (x109.2.2.2.2.length:Int):=(hs 8 rfl).trans h8;exact zA5 a0) <|
              Obls.cons (Obl.plain rfl rfl fun R' w' hw hs hd=>by have a0:R' 84 = .int .i64 (x109.2.2.2.2.length:Int):=hd 0 _ _ _ rfl rfl rfl rfl rfl;exact zB8 a0 rfl e133) <|
              Obls.cons (Obl.plain rfl rfl fun R' w' hw hs hd=>by have a0:R' 85 = .int .i64 ((x109.2.2.2.2.length:Int)+(2:Int)):=hd 0 _ _ _ rfl rfl rfl rfl rfl;exact zA6 a0) <|
              Obls.nil
          intro R w hw hs hF'
          have h4:R 4 = .int .i64 ((x109.2.2.2.2.length:Int)+(2:Int)):=hF' 2 _ _ rfl rfl rfl
          replace hO:=hO.fr hw
          replace hA:=hA.fr hw.size
          replace hF:=hF.tr (hw.ch noB) fun _ h=>False.elim h
          clear hs hF' hw
          refine zA4 ?_
          refine HT.ret ?_
          obtain rfl:=Option.some.inj hr
          exact ⟨.inr rfl,[R 4],⟨rfl,trivial⟩,h4,zCx rfl (hO.own 0 _ rfl) (hO.ok 0 _ rfl).2 hAA hF⟩
        · have hr := zAp c124 hr
          refine HT.skip ?_
          refine HT.seq ?_
          obtain ⟨e134,hr⟩:=zAF hr
          refine HT.text (l:=⟨_,true,.raw (.int .i64 x122)⟩::⟨_,true,.raw (.int .i64 (x122+(2:Int)))⟩::⟨_,true,.raw (.int .i64 (x122+(2:Int)))⟩::[]) (tl:=[]) (by kernel_rfl) (by kernel_rfl) (by kernel_rfl) ?_ ?_
          · exact
              Obls.cons (Obl.plain rfl rfl fun R' w' hw hs hd=>by have a0:R' 8 = .int .i64 x122:=(hs 8 rfl).trans h8;exact zA5 a0) <|
              Obls.cons (Obl.plain rfl rfl fun R' w' hw hs hd=>by have a0:R' 84 = .int .i64 x122:=hd 0 _ _ _ rfl rfl rfl rfl rfl;exact zB8 a0 rfl e134) <|
              Obls.cons (Obl.plain rfl rfl fun R' w' hw hs hd=>by have a0:R' 85 = .int .i64 (x122+(2:Int)):=hd 0 _ _ _ rfl rfl rfl rfl rfl;exact zA6 a0) <|
              Obls.nil
          intro R w hw hs hF'
          have h4:R 4 = .int .i64 (x122+(2:Int)):=hF' 2 _ _ rfl rfl rfl
          replace hO:=hO.fr hw
          replace hO:IniOK [⟨v0,S113,trR (fun k=>w0.heap.size≤k∨S0 k) (oPt 71 (oPr (oRd zA2) (oPr (oRd (eSl zA1)) (oPr (oSl 4 (oRd zBK)) (oSl 99 (oRd zA0)))))) x109.2 []⟩] A w:=hO.sub [(0,⟨v0,S113,trR (fun k=>w0.heap.size≤k∨S0 k) (oPt 71 (oPr (oRd zA2) (oPr (oRd (eSl zA1)) (oPr (oSl 4 (oRd zBK)) (oSl 99 (oRd zA0)))))) x109.2 []⟩)] ⟨rfl,rfl,trivial⟩
          replace hA:=hA.fr hw.size
          replace hF:=hF.tr (hw.ch noB) fun _ h=>False.elim h
          clear hs hF' hw
          refine zA4 ?_
          refine HT.ret ?_
          obtain rfl:=Option.some.inj hr
          exact ⟨.inr rfl,[R 4],⟨rfl,trivial⟩,h4,zCx rfl (hO.own 0 _ rfl) (hO.ok 0 _ rfl).2 hAA hF⟩
theorem zEa {q : Nat} {fu : Nat} {A0 : Av} {p0 : zB2} {p1 : Int} {r : Int × zB2} (hr : zAu q fu p0 p1 = some r) {w : World} {v0 : Value} {v1 : Value} {S0 : Nat → Prop} (hA : AvOK A0 w) (hN : ∀ b o, A0 b o → ¬ S0 b) (h0 : (trP (oPt 71 (oPr (oRd zA2) (oPr (oRd (eSl zA1)) (oPr (oSl 4 (oRd zBK)) (oSl 99 (oRd zA0)))))) p0 []).P (addS A0 S0) w S0 v0) (h1 : v1 = .int .i64 p1) :
    Calls Try.prog 45 #[v0,v1] w fun e w'=>∃ v,e = .returned v∧(v = .int .i64 r.1∧Gave (oPt 71 (oPr (oRd zA2) (oPr (oRd (eSl zA1)) (oPr (oSl 4 (oRd zBK)) (oSl 99 (oRd zA0)))))) A0 S0 w v0 r.2 w'):=zEP q hr hA hN h0 h1
def zBB (fu:Nat) (p0:zAH):Option (zAR × Bool):=
  cl true (zBf fu p0) fun x4=>
  bif (!x4) then (
    some (((0:Int),([]:List zA3)),false)
  ) else (
    cl true (zBJ fu p0) fun x11=>
    ck (mkOK (x11.length:Int)) <|
    cl true (zAu fu fu (p0,x11,(List.replicate (x11.length:Int).toNat false),([]:List zA3)) (0:Int)) fun x21=>
    some ((x21.1,x21.2.2.2.2),true)
  )
set_option linter.unusedSimpArgs false in
set_option maxRecDepth 100000 in
set_option maxHeartbeats 4000000 in
theorem zDL {fu : Nat} {A0 : Av} {p0 : zAH} {r : zAR × Bool} (hr : zBB fu p0 = some r) {w : World} {v0 : Value} (hA : AvOK A0 w) (h0 : Rep zA2 A0 w v0 p0) :
    Calls Try.prog 19 #[v0] w fun e w'=>∃ v,e = .returned v∧(∃ (u0:Value) (S0:Nat→Prop) (A1:Av),GPost A0 (fun _=>False) w [⟨u0,S0,trR (geB w.heap.size) (oPr (oRd (eInt .i64)) (oSl 99 (oRd zA0))) r.1 []⟩] A1 w'∧(Fact.tup2 (.raw u0) (.raw (.bool r.2))).ok v w'):=by
  unfold zBB at hr
  obtain ⟨w0,hw0⟩:∃ w0,w0=w:=⟨_,rfl⟩
  have hF:Fr w0 w:=hw0 ▸ Fr.refl _
  have hA0:∀ b o,A0 b o→b<w0.heap.size:=fun b o h=>hw0 ▸ hA b o h
  have hA00:AvOK A0 w0:=hA0
  rw [show GPost A0 (fun _=>False) w=GPost A0 (fun _=>False) w0 from by rw [hw0]]
  rw [show w.heap.size=w0.heap.size from by rw [hw0]]
  clear hw0
  obtain ⟨A,hAe⟩:∃ A,A=A0:=⟨_,rfl⟩
  have hAA:∀ b o,A0 b o→A b o:=fun b o h=>hAe ▸ h
  replace hA:AvOK A w:=hAe ▸ hA
  have hO:IniOK [] A w:=IniOK.nil
  refine zAI [.cell 2 41,.tmp 3] Try.func19 Try.ntmps19 (by decide) rfl rfl (Nat.le_of_ble_eq_true rfl) ?_
  intro R hR
  have f_v0:Rep zA2 A w v0 p0:=hAe ▸ h0
  replace h0:R 0=v0:=hR 0 _ rfl
  clear hR hAe
  refine HT.seq ?_
  refine HT.textR [] (⟨_,true,[],some (.box w0.heap.size 29 zA2 p0),true,fun A=>.any⟩::⟨_,true,[],some (trR (geB w0.heap.size) (oPt 41 (oPr (oRd (eInt .i64)) (oSl 99 (oRd zA0)))) ((0:Int),([]:List zA3)) []),true,fun A=>.any⟩::⟨_,true,[],none,true,fun A=>.raw (.bool false)⟩::[]) (by kernel_rfl) (by kernel_rfl) (Wf.mk' (by kernel_rfl) (UAll.cons zAG (UAll.cons zAG (UAll.cons zAA (UAll.nil)))) (by kernel_rfl) (by kernel_rfl)) hO hA ?_ ?_
  · exact
      zA9.cons (OblR.made _ rfl rfl rfl rfl fun A' R' w' ho hd=>by have a0:R' 0=v0:=(ho.old 0 rfl).trans h0;have ra0:=(f_v0.stp ho.stp).eq a0;exact zB9 ra0 (Nat.le_trans hF.size ho.ch.size)) <|
      zA9.cons (OblR.madeS _ rfl rfl rfl rfl fun A' R' w' ho hd=>by exact zCU Try.zeroValue41 (fun A w=>zHy (zFz zAe) zDg) (fun k hk=>Nat.le_trans (Nat.le_trans hF.size ho.ch.size) hk)) <|
      zA9.cons (OblR.plain rfl rfl rfl rfl fun A' R' w' ho hd=>by exact zA6 rfl) <|
      zA9.nil
  intro done ρ σ A R w hdn hI
  obtain ⟨b1_0,e_b1_0⟩:=hI.boxv hdn 0 rfl rfl
  have h1:R 1=(.pointer (some ⟨b1_0,0,none⟩)):=(hI.opvR hdn 0 0 rfl rfl rfl rfl rfl).symm.trans e_b1_0
  obtain ⟨u2,e_u2⟩:∃ u,ρ 1=u:=⟨_,rfl⟩
  have h2:R 2=u2:=(hI.opvR hdn 1 1 rfl rfl rfl rfl rfl).symm.trans e_u2
  obtain ⟨S3,eS_u2⟩:∃ S,σ 1=S:=⟨_,rfl⟩
  replace hAA:=hI.low' hAA hA0 (hO.ge (trivial))
  replace hF:Fr w0 w:=hF.tr hI.ch (hO.ge (trivial))
  replace hO:IniOK [ob (.pointer (some ⟨b1_0,0,none⟩)) (.box w0.heap.size 29 zA2 p0),⟨u2,S3,trR (geB w0.heap.size) (oPt 41 (oPr (oRd (eInt .i64)) (oSl 99 (oRd zA0)))) ((0:Int),([]:List zA3)) []⟩] A w:=hI.left hdn [(0,ob (.pointer (some ⟨b1_0,0,none⟩)) (.box w0.heap.size 29 zA2 p0)),(1,⟨u2,S3,trR (geB w0.heap.size) (oPt 41 (oPr (oRd (eInt .i64)) (oSl 99 (oRd zA0)))) ((0:Int),([]:List zA3)) []⟩)] ⟨rfl,rfl,e_b1_0,rfl,rfl,⟨rfl,rfl,e_u2,eS_u2,rfl,trivial⟩⟩
  replace hA:=hI.avok
  clear hI
  refine HT.seq ?_
  refine HT.seq ?_
  obtain ⟨x4,q5,hr⟩:=zAK hr
  refine HT.text (l:=⟨_,true,.rep zA2 A p0⟩::⟨_,true,.raw (.bool x4)⟩::⟨_,true,.raw (.bool (!x4))⟩::[]) (tl:=[]) (by kernel_rfl) (by kernel_rfl) (by kernel_rfl) ?_ ?_
  · exact
      Obls.cons (Obl.plain rfl rfl fun R' w' hw hs hd=>by have a0:R' 1=(.pointer (some ⟨b1_0,0,none⟩)):=(hs 1 rfl).trans h1;exact (zAD ((hO.fr hw).ok 0 _ rfl).1 a0 (Fld.id _) rfl Try.isAgg29 Try.sizeOf29)) <|
      Obls.cons (Obl.plain rfl rfl fun R' w' hw hs hd=>by have a0:Rep zA2 A w' (R' 7) p0:=hd 0 _ _ _ rfl rfl rfl rfl rfl;exact zAl Try.call34 (zDM (q5 rfl) (hA.fr hw.size) a0)) <|
      Obls.cons (Obl.plain rfl rfl fun R' w' hw hs hd=>by have a0:R' 8 = .bool x4:=hd 0 _ _ _ rfl rfl rfl rfl rfl;exact zD7 a0) <|
      Obls.nil
  intro R w hw hs hF'
  replace h1:R 1=(.pointer (some ⟨b1_0,0,none⟩)):=(hs 1 rfl).trans h1
  replace h2:R 2=u2:=(hs 2 rfl).trans h2
  have h9:R 9 = .bool (!x4):=hF' 2 _ _ rfl rfl rfl
  replace hO:=hO.fr hw
  replace hA:=hA.fr hw.size
  replace hF:=hF.trans hw
  clear hs hF' hw
  refine zA4 ?_
  refine HT.cond (!x4) h9 (fun c6=>?_) (fun c6=>?_)
  · have hr := zAq c6 hr
    refine HT.seq ?_
    refine HT.textR [ob (.pointer (some ⟨b1_0,0,none⟩)) (.box w0.heap.size 29 zA2 p0),⟨u2,S3,trR (geB w0.heap.size) (oPt 41 (oPr (oRd (eInt .i64)) (oSl 99 (oRd zA0)))) ((0:Int),([]:List zA3)) []⟩] (⟨_,true,[],some (trR (geB w0.heap.size) (oPr (oRd (eInt .i64)) (oSl 99 (oRd zA0))) ((0:Int),([]:List zA3)) []),true,fun A=>.any⟩::⟨_,true,[1,2],some (trR (geB w0.heap.size) (oPt 41 (oPr (oRd (eInt .i64)) (oSl 99 (oRd zA0)))) ((0:Int),([]:List zA3)) []),false,fun A=>.any⟩::⟨_,true,[],none,true,fun A=>.raw (.bool false)⟩::[]) (by kernel_rfl) (by kernel_rfl) (Wf.mk' (by kernel_rfl) (UAll.cons zAG (UAll.cons zAG (UAll.cons zAA (UAll.nil)))) (by kernel_rfl) (by kernel_rfl)) hO hA ?_ ?_
    · exact
        zA9.cons (OblR.madeS _ rfl rfl rfl rfl fun A' R' w' ho hd=>by exact zI2 (v:=.agg #[.int .i64 0,.slice none 0 0]) (by simp [execOp,Instr.build,zAL,underlying,Try.underlying41,Try.zeroValue41,Try.sizeOf3,Try.sizeOf39,go_sem,Instr.fill]) ⟨⟨_,rfl,zHy (zFz zAe) zDg⟩,fun q hq=>by cases hq⟩ (fun k hk=>Nat.le_trans (Nat.le_trans hF.size ho.ch.size) hk)) <|
        zA9.cons (OblR.tookM 1 [2] _ rfl rfl rfl rfl fun A' R' w' ho hd ρ σ hok hav hin hop hds hdd=>by have a0:R' 2=u2:=(ho.old 2 rfl).trans h2;have k1:=hok 1 (.head _) _ rfl;have e0:=(hin 1 (.head _) _ rfl).1;rw [e0] at k1 ⊢;exact zCu rfl (zAJ k1.2.2).ptr (hok 2 (.tail _ (.head _)) _ rfl).2.2.1 (hop 2 (.tail _ (.head _)) _ _ rfl rfl rfl rfl).symm a0 hav hdd k1.2.1 (hok 2 (.tail _ (.head _)) _ rfl).2.1 Try.sizeOf41 (fun _ _ _ h=>h)) <|
        zA9.cons (OblR.plain rfl rfl rfl rfl fun A' R' w' ho hd=>by exact zA6 rfl) <|
        zA9.nil
    intro done ρ σ A R w hdn hI
    replace h2:R 2=u2:=(hI.reg rfl).trans h2
    have z7:=hI.inivR 0 rfl
    have z8:=hI.inivR 1 rfl
    have z9:=(hI.opnR hdn 3 1 rfl rfl rfl rfl rfl).trans z8
    obtain ⟨S10,eS_u2⟩:∃ S,σ 3=S:=⟨_,rfl⟩
    have h3:R 3 = .bool false:=hI.fact hdn (i:=2) rfl rfl rfl
    replace hAA:=hI.low' hAA hA0 (hO.ge (⟨rfl,⟨fun _ h=>h,trivial⟩⟩))
    replace hF:Fr w0 w:=hF.tr hI.ch (hO.ge (⟨rfl,⟨fun _ h=>h,trivial⟩⟩))
    replace hO:IniOK [⟨u2,S10,trR (geB w0.heap.size) (oPt 41 (oPr (oRd (eInt .i64)) (oSl 99 (oRd zA0)))) ((0:Int),([]:List zA3)) []⟩] A w:=hI.left hdn [(3,⟨u2,S10,trR (geB w0.heap.size) (oPt 41 (oPr (oRd (eInt .i64)) (oSl 99 (oRd zA0)))) ((0:Int),([]:List zA3)) []⟩)] ⟨rfl,rfl,z9,eS_u2,rfl,trivial⟩
    replace hA:=hI.avok
    clear hI
    refine HT.ret ?_
    obtain rfl:=Option.some.inj hr
    obtain ⟨v_2,S_2,e_2,hO⟩:=hO.unbox 0 rfl h2 Try.isAgg41 Try.sizeOf41
    obtain ⟨A1,hA1,hG1⟩:=GPost.of hO hA hAA (fun k hk=>.inl (hO.ge (⟨fun _ h=>h,trivial⟩) k hk)) (hF.ch (fun _=>False))
    exact ⟨.inr rfl,[v_2,R 3],⟨e_2,⟨rfl,trivial⟩⟩,v_2,S_2,A1,hG1,⟨_,_,rfl,rfl,h3⟩⟩
  · have hr := zAp c6 hr
    refine HT.skip ?_
    refine HT.seq ?_
    obtain ⟨x11,q12,hr⟩:=zAK hr
    refine HT.text (l:=⟨_,true,.rep zA2 A p0⟩::⟨_,true,.rep (eSl zA1) A x11⟩::⟨_,true,.rep (eSl zA1) A x11⟩::[]) (tl:=[]) (by kernel_rfl) (by kernel_rfl) (by kernel_rfl) ?_ ?_
    · exact
        Obls.cons (Obl.plain rfl rfl fun R' w' hw hs hd=>by have a0:R' 1=(.pointer (some ⟨b1_0,0,none⟩)):=(hs 1 rfl).trans h1;exact (zAD ((hO.fr hw).ok 0 _ rfl).1 a0 (Fld.id _) rfl Try.isAgg29 Try.sizeOf29)) <|
        Obls.cons (Obl.plain rfl rfl fun R' w' hw hs hd=>by have a0:Rep zA2 A w' (R' 11) p0:=hd 0 _ _ _ rfl rfl rfl rfl rfl;exact zAl Try.call44 (zDt (q12 rfl) (hA.fr hw.size) a0)) <|
        Obls.cons (Obl.plain rfl rfl fun R' w' hw hs hd=>by have a0:Rep (eSl zA1) A w' (R' 12) x11:=hd 0 _ _ _ rfl rfl rfl rfl rfl;exact zA6 a0) <|
        Obls.nil
    intro R w hw hs hF'
    replace h1:R 1=(.pointer (some ⟨b1_0,0,none⟩)):=(hs 1 rfl).trans h1
    replace h2:R 2=u2:=(hs 2 rfl).trans h2
    obtain ⟨u13,h4,f_u13⟩:∃ u,R 4=u∧Rep (eSl zA1) A w u x11:=⟨_,rfl,hF' 2 _ _ rfl rfl rfl⟩
    replace hO:=hO.fr hw
    replace hA:=hA.fr hw.size
    replace hF:=hF.trans hw
    clear hs hF' hw
    refine zA4 ?_
    refine HT.seq ?_
    obtain ⟨e14,hr⟩:=zAF hr
    refine HT.drawR [ob (.pointer (some ⟨b1_0,0,none⟩)) (.box w0.heap.size 29 zA2 p0),⟨u2,S3,trR (geB w0.heap.size) (oPt 41 (oPr (oRd (eInt .i64)) (oSl 99 (oRd zA0)))) ((0:Int),([]:List zA3)) []⟩] (⟨_,true,[],none,true,fun A=>.rep zA2 A p0⟩::⟨_,true,[],none,true,fun A=>.raw u13⟩::⟨_,true,[],none,true,fun A=>.raw u13⟩::⟨_,true,[],none,true,fun A=>.raw (.int .i64 (x11.length:Int))⟩::⟨_,true,[],some (.vec w0.heap.size 4 zBK (List.replicate (x11.length:Int).toNat false)),true,fun A=>.any⟩::⟨_,true,[6],some (trR (geB w0.heap.size) (oPr (oRd zA2) (oPr (oRd (eSl zA1)) (oPr (oSl 4 (oRd zBK)) (oSl 99 (oRd zA0))))) (p0,x11,(List.replicate (x11.length:Int).toNat false),([]:List zA3)) []),true,fun A=>.any⟩::⟨_,true,[7],some (trR (geB w0.heap.size) (oPt 71 (oPr (oRd zA2) (oPr (oRd (eSl zA1)) (oPr (oSl 4 (oRd zBK)) (oSl 99 (oRd zA0)))))) (p0,x11,(List.replicate (x11.length:Int).toNat false),([]:List zA3)) []),true,fun A=>.any⟩::⟨_,true,[8],some (trR (geB w0.heap.size) (oPt 71 (oPr (oRd zA2) (oPr (oRd (eSl zA1)) (oPr (oSl 4 (oRd zBK)) (oSl 99 (oRd zA0)))))) (p0,x11,(List.replicate (x11.length:Int).toNat false),([]:List zA3)) []),true,fun A=>.any⟩::[]) (by kernel_rfl) (by kernel_rfl) (by kernel_rfl) (Wf.mk' (by kernel_rfl) (UAll.cons zAn (UAll.cons zAA (UAll.cons zAA (UAll.cons zAA (UAll.cons zAG (UAll.cons zAG (UAll.cons zAG (UAll.cons zAG (UAll.nil))))))))) (by kernel_rfl) (by kernel_rfl)) hO hA ?_ ?_
    · exact
        zA9.cons (OblR.plain rfl rfl rfl rfl fun A' R' w' ho hd=>by have a0:R' 1=(.pointer (some ⟨b1_0,0,none⟩)):=(ho.old 1 rfl).trans h1;exact (zAD (ho.rd 0 _ rfl rfl) a0 (Fld.id _) rfl Try.isAgg29 Try.sizeOf29)) <|
        zA9.cons (OblR.plain rfl rfl rfl rfl fun A' R' w' ho hd=>by have a0:R' 4=u13:=(ho.old 4 rfl).trans h4;exact zA5 a0) <|
        zA9.cons (OblR.plain rfl rfl rfl rfl fun A' R' w' ho hd=>by have a0:R' 4=u13:=(ho.old 4 rfl).trans h4;exact zA5 a0) <|
        zA9.cons (OblR.plain rfl rfl rfl rfl fun A' R' w' ho hd=>by have a0:R' 15=u13:=hd 0 _ _ _ rfl rfl rfl rfl rfl;have ra0:=(f_u13.stp ho.stp).eq a0;exact zAd (aT:=#[]) ra0 Try.underlying65) <|
        zA9.cons (OblR.made _ rfl rfl rfl rfl fun A' R' w' ho hd=>by have a0:R' 16 = .int .i64 (x11.length:Int):=hd 0 _ _ _ rfl rfl rfl rfl rfl;have a1:R' 16 = .int .i64 (x11.length:Int):=hd 0 _ _ _ rfl rfl rfl rfl rfl;exact zIB a0 a1 e14 Try.underlying69 el_4 Try.zeroValue4 (fun A w=>zCr) (Nat.le_trans hF.size ho.ch.size)) <|
        zA9.cons (OblR.tookS 6 _ _ rfl rfl rfl rfl rfl fun A' R' w' ho hd u S hok hown hav hin hop hds=>by have a0:Rep zA2 A' w' (R' 13) p0:=hd 0 _ _ _ rfl rfl rfl rfl rfl;have a1:R' 14=u13:=hd 1 _ _ _ rfl rfl rfl rfl rfl;have ra1:=(f_u13.stp ho.stp).eq a1;obtain ⟨c15a,c15n,c15k,c15,c15r⟩:=zJ6 a0;obtain ⟨c16a,c16n,c16k,c16,c16r⟩:=zJG ra1;obtain ⟨gc,ge,go⟩:=zGg hok hown;obtain ⟨ga,gn,gk,rfl⟩:=zGO go;have gx:R' 17 = .slice ga gn gk:=((hop _ _ rfl rfl rfl rfl).symm).trans ge;exact zI6 (v:=.agg #[.slice c15a c15n c15k,.slice c16a c16n c16k,.slice ga gn gk,.slice none 0 0]) (by simp [execOp,Instr.build,zAL,c15,c16,gx,underlying,Try.underlying71,Try.zeroValue71,Try.sizeOf29,Try.sizeOf39,Try.sizeOf65,Try.sizeOf69,go_sem,Instr.fill]) ⟨⟨_,rfl,zIa (zFz c15r) (zIa (zFz c16r) (zLa go zDg))⟩,fun q hq=>by cases hq⟩ hav (zL4 hok hown)) <|
        zA9.cons (OblR.tookS 7 _ _ rfl rfl rfl rfl rfl fun A' R' w' ho hd u S hok hown hav hin hop hds=>by exact zK8 hown.2 (hop _ _ rfl rfl rfl rfl).symm hav hown.1 (fun k hk=>Nat.le_trans (Nat.le_trans hF.size ho.ch.size) hk)) <|
        zA9.cons (OblR.tookS 8 _ _ rfl rfl rfl rfl rfl fun A' R' w' ho hd u S hok hown hav hin hop hds=>by exact zG0 (hop _ _ rfl rfl rfl rfl).symm (trP.nopin hown.2) hav hown.1) <|
        zA9.nil
    intro done ρ σ A R w hdn hI
    replace h2:R 2=u2:=(hI.reg rfl).trans h2
    have z17:=hI.inivR 0 rfl
    have z18:=hI.inivR 1 rfl
    obtain ⟨u19,e_u19⟩:∃ u,ρ 9=u:=⟨_,rfl⟩
    have h5:R 5=u19:=(hI.opvR hdn 9 7 rfl rfl rfl rfl rfl).symm.trans e_u19
    have eS_u2:=hI.inisR 1 rfl
    obtain ⟨S20,eS_u19⟩:∃ S,σ 9=S:=⟨_,rfl⟩
    replace hAA:=hI.low' hAA hA0 (hO.ge (⟨rfl,⟨fun _ h=>h,trivial⟩⟩))
    replace hF:Fr w0 w:=hF.tr hI.ch (hO.ge (⟨rfl,⟨fun _ h=>h,trivial⟩⟩))
    replace hO:IniOK [⟨u2,S3,trR (geB w0.heap.size) (oPt 41 (oPr (oRd (eInt .i64)) (oSl 99 (oRd zA0)))) ((0:Int),([]:List zA3)) []⟩,⟨u19,S20,trR (geB w0.heap.size) (oPt 71 (oPr (oRd zA2) (oPr (oRd (eSl zA1)) (oPr (oSl 4 (oRd zBK)) (oSl 99 (oRd zA0)))))) (p0,x11,(List.replicate (x11.length:Int).toNat false),([]:List zA3)) []⟩] A w:=hI.left hdn [(1,⟨u2,S3,trR (geB w0.heap.size) (oPt 41 (oPr (oRd (eInt .i64)) (oSl 99 (oRd zA0)))) ((0:Int),([]:List zA3)) []⟩),(9,⟨u19,S20,trR (geB w0.heap.size) (oPt 71 (oPr (oRd zA2) (oPr (oRd (eSl zA1)) (oPr (oSl 4 (oRd zBK)) (oSl 99 (oRd zA0)))))) (p0,x11,(List.replicate (x11.length:Int).toNat false),([]:List zA3)) []⟩)] ⟨rfl,rfl,z18,eS_u2,rfl,⟨rfl,rfl,e_u19,eS_u19,rfl,trivial⟩⟩
    replace hA:=hI.avok
    clear hI
    refine HT.seq ?_
    obtain ⟨x21,q22,hr⟩:=zAK hr
    refine HT.textR [⟨u2,S3,trR (geB w0.heap.size) (oPt 41 (oPr (oRd (eInt .i64)) (oSl 99 (oRd zA0)))) ((0:Int),([]:List zA3)) []⟩,⟨u19,S20,trR (geB w0.heap.size) (oPt 71 (oPr (oRd zA2) (oPr (oRd (eSl zA1)) (oPr (oSl 4 (oRd zBK)) (oSl 99 (oRd zA0)))))) (p0,x11,(List.replicate (x11.length:Int).toNat false),([]:List zA3)) []⟩] (⟨_,true,[],none,true,fun A=>.raw u19⟩::⟨_,true,[1],some (trR (geB w0.heap.size) (oPt 71 (oPr (oRd zA2) (oPr (oRd (eSl zA1)) (oPr (oSl 4 (oRd zBK)) (oSl 99 (oRd zA0)))))) x21.2 []),false,fun A=>.raw (.int .i64 x21.1)⟩::⟨_,true,[],none,true,fun A=>.raw (.int .i64 x21.1)⟩::[]) (by kernel_rfl) (by kernel_rfl) (Wf.mk' (by kernel_rfl) (UAll.cons zAA (UAll.cons zAA (UAll.cons zAA (UAll.nil)))) (by kernel_rfl) (by kernel_rfl)) hO hA ?_ ?_
    · exact
        zA9.cons (OblR.plain rfl rfl rfl rfl fun A' R' w' ho hd=>by have a0:R' 5=u19:=(ho.old 5 rfl).trans h5;exact zA5 a0) <|
        zA9.cons (OblR.tookS 1 _ _ rfl rfl rfl rfl rfl fun A' R' w' ho hd u S hok hown hav hin hop hds=>by have a0:R' 20=u19:=hd 0 _ _ _ rfl rfl rfl rfl rfl;have e0:=(hin _ rfl).1;rw [e0] at hown ⊢;have hu0:zAL R' (.tmp 20)=u19:=a0;exact zCH Try.call45 (zAJ hown.2) hav hown.1 (fun k hk=>Nat.le_trans (Nat.le_trans hF.size ho.ch.size) hk) (fun k hk=>SP.lt _ hown.2 hk) (fun S1 hS1 hP=>by simp only [List.map,hu0];exact zEa (q22 rfl) (ho.av.subS _) (fun b o h=>h.2) hP rfl) (fun _ _ _ h=>h)) <|
        zA9.cons (OblR.plain rfl rfl rfl rfl fun A' R' w' ho hd=>by have a0:R' 21 = .int .i64 x21.1:=hd 0 _ _ _ rfl rfl rfl rfl rfl;exact zA6 a0) <|
        zA9.nil
    intro done ρ σ A R w hdn hI
    replace h2:R 2=u2:=(hI.reg rfl).trans h2
    replace h5:R 5=u19:=(hI.reg rfl).trans h5
    have z23:=hI.inivR 0 rfl
    have z24:=hI.inivR 1 rfl
    have z25:=(hI.opnR hdn 3 1 rfl rfl rfl rfl rfl).trans z24
    have eS_u2:=hI.inisR 0 rfl
    obtain ⟨S26,eS_u19⟩:∃ S,σ 3=S:=⟨_,rfl⟩
    have h6:R 6 = .int .i64 x21.1:=hI.fact hdn (i:=2) rfl rfl rfl
    replace hAA:=hI.low' hAA hA0 (hO.ge (⟨fun _ h=>h,⟨fun _ h=>h,trivial⟩⟩))
    replace hF:Fr w0 w:=hF.tr hI.ch (hO.ge (⟨fun _ h=>h,⟨fun _ h=>h,trivial⟩⟩))
    replace hO:IniOK [⟨u2,S3,trR (geB w0.heap.size) (oPt 41 (oPr (oRd (eInt .i64)) (oSl 99 (oRd zA0)))) ((0:Int),([]:List zA3)) []⟩,⟨u19,S26,trR (geB w0.heap.size) (oPt 71 (oPr (oRd zA2) (oPr (oRd (eSl zA1)) (oPr (oSl 4 (oRd zBK)) (oSl 99 (oRd zA0)))))) x21.2 []⟩] A w:=hI.left hdn [(0,⟨u2,S3,trR (geB w0.heap.size) (oPt 41 (oPr (oRd (eInt .i64)) (oSl 99 (oRd zA0)))) ((0:Int),([]:List zA3)) []⟩),(3,⟨u19,S26,trR (geB w0.heap.size) (oPt 71 (oPr (oRd zA2) (oPr (oRd (eSl zA1)) (oPr (oSl 4 (oRd zBK)) (oSl 99 (oRd zA0)))))) x21.2 []⟩)] ⟨rfl,rfl,z23,eS_u2,rfl,⟨rfl,rfl,z25,eS_u19,rfl,trivial⟩⟩
    replace hA:=hI.avok
    clear hI
    refine HT.seq ?_
    refine HT.textR [⟨u2,S3,trR (geB w0.heap.size) (oPt 41 (oPr (oRd (eInt .i64)) (oSl 99 (oRd zA0)))) ((0:Int),([]:List zA3)) []⟩,⟨u19,S26,trR (geB w0.heap.size) (oPt 71 (oPr (oRd zA2) (oPr (oRd (eSl zA1)) (oPr (oSl 4 (oRd zBK)) (oSl 99 (oRd zA0)))))) x21.2 []⟩] (⟨_,true,[],none,true,fun A=>.raw (.int .i64 x21.1)⟩::⟨_,true,[],none,true,fun A=>.raw u19⟩::⟨_,true,[],none,true,fun A=>.raw u19⟩::⟨_,true,[],none,true,fun A=>.raw (padd u19 3)⟩::⟨_,true,[1],some (trR (geB w0.heap.size) (oSl 99 (oRd zA0)) x21.2.2.2.2 []),true,fun A=>.any⟩::⟨_,true,[6],some (trR (geB w0.heap.size) (oPr (oRd (eInt .i64)) (oSl 99 (oRd zA0))) (x21.1,x21.2.2.2.2) []),true,fun A=>.any⟩::⟨_,true,[0,7],some (trR (geB w0.heap.size) (oPt 41 (oPr (oRd (eInt .i64)) (oSl 99 (oRd zA0)))) (x21.1,x21.2.2.2.2) []),false,fun A=>.any⟩::⟨_,true,[],none,true,fun A=>.raw (.bool true)⟩::[]) (by kernel_rfl) (by kernel_rfl) (Wf.mk' (by kernel_rfl) (UAll.cons zAA (UAll.cons zAA (UAll.cons zAA (UAll.cons zAA (UAll.cons zAG (UAll.cons zAG (UAll.cons zAG (UAll.cons zAA (UAll.nil))))))))) (by kernel_rfl) (by kernel_rfl)) hO hA ?_ ?_
    · exact
        zA9.cons (OblR.plain rfl rfl rfl rfl fun A' R' w' ho hd=>by have a0:R' 6 = .int .i64 x21.1:=(ho.old 6 rfl).trans h6;exact zA5 a0) <|
        zA9.cons (OblR.plain rfl rfl rfl rfl fun A' R' w' ho hd=>by have a0:R' 5=u19:=(ho.old 5 rfl).trans h5;exact zA5 a0) <|
        zA9.cons (OblR.plain rfl rfl rfl rfl fun A' R' w' ho hd=>by have a0:R' 23=u19:=hd 0 _ _ _ rfl rfl rfl rfl rfl;exact zB4 (zAJ (hO.own 1 _ rfl).2).ptr.ad a0) <|
        zA9.cons (OblR.plain rfl rfl rfl rfl fun A' R' w' ho hd=>by have a0:R' 24=u19:=hd 0 _ _ _ rfl rfl rfl rfl rfl;exact zAb ((zAJ (hO.own 1 _ rfl).2).ptr).ad a0 zGj Try.sizeOf39 (by decide) rfl) <|
        zA9.cons (OblR.tookS 1 _ _ rfl rfl rfl rfl rfl fun A' R' w' ho hd u S hok hown hav hin hop hds=>by have a0:R' 25=(padd u19 3):=hd 0 _ _ _ rfl rfl rfl rfl rfl;have e0:=(hin _ rfl).1;rw [e0] at hown ⊢;exact zJE (((((zAJ hown.2).ptr).snd rfl).snd (zBR _ _ _)).snd (zBR _ _ _)) a0 hav hown.1 Try.isAgg39 Try.sizeOf39) <|
        zA9.cons (OblR.tookS 6 _ _ rfl rfl rfl rfl rfl fun A' R' w' ho hd u S hok hown hav hin hop hds=>by have a0:R' 22 = .int .i64 x21.1:=hd 0 _ _ _ rfl rfl rfl rfl rfl;obtain ⟨gc,ge,go⟩:=hown.2.1;obtain ⟨ga,gn,gk,rfl⟩:=zGO go;have gx:R' 26 = .slice ga gn gk:=((hop _ _ rfl rfl rfl rfl).symm).trans ge;exact zI6 (v:=.agg #[.int .i64 x21.1,.slice ga gn gk]) (by simp [execOp,Instr.build,zAL,a0,gx,underlying,Try.underlying41,Try.zeroValue41,Try.sizeOf3,Try.sizeOf39,go_sem,Instr.fill]) ⟨⟨_,rfl,zIa (zFz zAe) go⟩,fun q hq=>by cases hq⟩ hav hown.1) <|
        zA9.cons (OblR.tookM 0 [7] _ rfl rfl rfl rfl fun A' R' w' ho hd ρ σ hok hav hin hop hds hdd=>by have a0:R' 2=u2:=(ho.old 2 rfl).trans h2;have k1:=hok 0 (.head _) _ rfl;have e0:=(hin 0 (.head _) _ rfl).1;rw [e0] at k1 ⊢;exact zCu rfl (zAJ k1.2.2).ptr (hok 7 (.tail _ (.head _)) _ rfl).2.2.1 (hop 7 (.tail _ (.head _)) _ _ rfl rfl rfl rfl).symm a0 hav hdd k1.2.1 (hok 7 (.tail _ (.head _)) _ rfl).2.1 Try.sizeOf41 (fun _ _ _ h=>h)) <|
        zA9.cons (OblR.plain rfl rfl rfl rfl fun A' R' w' ho hd=>by exact zA6 rfl) <|
        zA9.nil
    intro done ρ σ A R w hdn hI
    replace h2:R 2=u2:=(hI.reg rfl).trans h2
    have z27:=hI.inivR 0 rfl
    have z28:=(hI.opnR hdn 8 6 rfl rfl rfl rfl rfl).trans z27
    obtain ⟨S29,eS_u2⟩:∃ S,σ 8=S:=⟨_,rfl⟩
    have h3:R 3 = .bool true:=hI.fact hdn (i:=7) rfl rfl rfl
    replace hAA:=hI.low' hAA hA0 (hO.ge (⟨fun _ h=>h,⟨fun _ h=>h,trivial⟩⟩))
    replace hF:Fr w0 w:=hF.tr hI.ch (hO.ge (⟨fun _ h=>h,⟨fun _ h=>h,trivial⟩⟩))
    replace hO:IniOK [⟨u2,S29,trR (geB w0.heap.size) (oPt 41 (oPr (oRd (eInt .i64)) (oSl 99 (oRd zA0)))) (x21.1,x21.2.2.2.2) []⟩] A w:=hI.left hdn [(8,⟨u2,S29,trR (geB w0.heap.size) (oPt 41 (oPr (oRd (eInt .i64)) (oSl 99 (oRd zA0)))) (x21.1,x21.2.2.2.2) []⟩)] ⟨rfl,rfl,z28,eS_u2,rfl,trivial⟩
    replace hA:=hI.avok
    clear hI
    refine HT.ret ?_
    obtain rfl:=Option.some.inj hr
    obtain ⟨v_2,S_2,e_2,hO⟩:=hO.unbox 0 rfl h2 Try.isAgg41 Try.sizeOf41
    obtain ⟨A1,hA1,hG1⟩:=GPost.of hO hA hAA (fun k hk=>.inl (hO.ge (⟨fun _ h=>h,trivial⟩) k hk)) (hF.ch (fun _=>False))
    exact ⟨.inr rfl,[v_2,R 3],⟨e_2,⟨rfl,trivial⟩⟩,v_2,S_2,A1,hG1,⟨_,_,rfl,rfl,h3⟩⟩
theorem zES {fu : Nat} {A0 : Av} {p0 : zAH} {r : zAR × Bool} (hr : zBB fu p0 = some r) {w : World} {v0 : Value} (hA : AvOK A0 w) (h0 : Rep zA2 A0 w v0 p0) :
    Calls Try.prog 19 #[v0] w fun e w'=>∃ v,e = .returned v∧((∃ a b,v = .tuple #[a,b]∧Rep zA8 A0 w' a r.1∧b = .bool r.2)∧Fr w w'):=by
  refine Calls.mono (zDL hr hA h0) ?_
  rintro e w' ⟨v,he,u0,S0,A1,hG,a0,a1,hv,e0,e1⟩
  exact ⟨v,he,⟨a0,a1,hv,(zJu (hG.ini.own 0 _ rfl).2 hG.low (fun k o hk ha=>Nat.not_lt.2 ((hG.ini.own 0 _ rfl).1 k hk) (hA k o ha))).eq e0,e1⟩,hG.ch.no⟩
def zBx (fu:Nat) (p0:zA3) (p1:zA3):Option Bool:=
  bif (p0.1 != p1.1) then (
    some false
  ) else (
    bif (p0.2.1 != p1.2.1) then (
      some false
    ) else (
      bif (p0.2.2.1 != p1.2.2.1) then (
        some false
      ) else (
        bif (p0.2.2.2 != p1.2.2.2) then (
          some false
        ) else (
          some true
        )
      )
    )
  )
set_option maxRecDepth 100000 in
set_option maxHeartbeats 4000000 in
theorem zEL {fu : Nat} {A0 : Av} {p0 : zA3} {p1 : zA3} {r : Bool} (hr : zBx fu p0 p1 = some r) {w : World} {v0 : Value} {v1 : Value} (hA : AvOK A0 w) (h0 : Rep zA0 A0 w v0 p0) (h1 : Rep zA0 A0 w v1 p1) :
    Calls Try.prog 79 #[v0,v1] w fun e w'=>∃ v,e = .returned v∧(v = .bool r∧Fr w w'):=by
  unfold zBx at hr
  obtain ⟨w0,hw0⟩:∃ w0,w0=w:=⟨_,rfl⟩
  have hF:Fr w0 w:=hw0 ▸ Fr.refl _
  have hA0:∀ b o,A0 b o→b<w0.heap.size:=fun b o h=>hw0 ▸ hA b o h
  have hA00:AvOK A0 w0:=hA0
  rw [show Fr w=Fr w0 from hw0 ▸ rfl]
  clear hw0
  obtain ⟨A,hAe⟩:∃ A,A=A0:=⟨_,rfl⟩
  have hAA:∀ b o,A0 b o→A b o:=fun b o h=>hAe ▸ h
  replace hA:AvOK A w:=hAe ▸ hA
  have hO:IniOK [] A w:=IniOK.nil
  refine zAI [.tmp 4] Try.func79 Try.ntmps79 (by decide) rfl rfl (Nat.le_of_ble_eq_true rfl) ?_
  intro R hR
  have f_v0:Rep zA0 A w v0 p0:=hAe ▸ h0
  replace h0:R 0=v0:=hR 0 _ rfl
  have f_v1:Rep zA0 A w v1 p1:=hAe ▸ h1
  replace h1:R 1=v1:=hR 1 _ rfl
  clear hR hAe
  refine HT.seq ?_
  refine HT.textR [] (⟨_,true,[],some (.box w0.heap.size 99 zA0 p0),true,fun A=>.any⟩::⟨_,true,[],some (.box w0.heap.size 99 zA0 p1),true,fun A=>.any⟩::⟨_,true,[],none,true,fun A=>.raw (.bool false)⟩::[]) (by kernel_rfl) (by kernel_rfl) (Wf.mk' (by kernel_rfl) (UAll.cons zAG (UAll.cons zAG (UAll.cons zAA (UAll.nil)))) (by kernel_rfl) (by kernel_rfl)) hO hA ?_ ?_
  · exact
      zA9.cons (OblR.made _ rfl rfl rfl rfl fun A' R' w' ho hd=>by have a0:R' 0=v0:=(ho.old 0 rfl).trans h0;have ra0:=(f_v0.stp ho.stp).eq a0;exact zB9 ra0 (Nat.le_trans hF.size ho.ch.size)) <|
      zA9.cons (OblR.made _ rfl rfl rfl rfl fun A' R' w' ho hd=>by have a0:R' 1=v1:=(ho.old 1 rfl).trans h1;have ra0:=(f_v1.stp ho.stp).eq a0;exact zB9 ra0 (Nat.le_trans hF.size ho.ch.size)) <|
      zA9.cons (OblR.plain rfl rfl rfl rfl fun A' R' w' ho hd=>by exact zA6 rfl) <|
      zA9.nil
  intro done ρ σ A R w hdn hI
  obtain ⟨b2_0,e_b2_0⟩:=hI.boxv hdn 0 rfl rfl
  have h2:R 2=(.pointer (some ⟨b2_0,0,none⟩)):=(hI.opvR hdn 0 0 rfl rfl rfl rfl rfl).symm.trans e_b2_0
  obtain ⟨b3_1,e_b3_1⟩:=hI.boxv hdn 1 rfl rfl
  have h3:R 3=(.pointer (some ⟨b3_1,0,none⟩)):=(hI.opvR hdn 1 1 rfl rfl rfl rfl rfl).symm.trans e_b3_1
  replace hAA:=hI.low' hAA hA0 (hO.ge (trivial))
  replace hF:Fr w0 w:=hF.tr hI.ch (hO.ge (trivial))
  replace hO:IniOK [ob (.pointer (some ⟨b2_0,0,none⟩)) (.box w0.heap.size 99 zA0 p0),ob (.pointer (some ⟨b3_1,0,none⟩)) (.box w0.heap.size 99 zA0 p1)] A w:=hI.left hdn [(0,ob (.pointer (some ⟨b2_0,0,none⟩)) (.box w0.heap.size 99 zA0 p0)),(1,ob (.pointer (some ⟨b3_1,0,none⟩)) (.box w0.heap.size 99 zA0 p1))] ⟨rfl,rfl,e_b2_0,rfl,rfl,⟨rfl,rfl,e_b3_1,rfl,rfl,trivial⟩⟩
  replace hA:=hI.avok
  clear hI
  refine HT.seq ?_
  refine HT.seq ?_
  refine HT.text (l:=⟨_,true,.raw (.pointer (some ⟨b2_0,0,none⟩))⟩::⟨_,true,.raw (.int .i64 p0.1)⟩::⟨_,true,.raw (.pointer (some ⟨b3_1,0,none⟩))⟩::⟨_,true,.raw (.int .i64 p1.1)⟩::⟨_,true,.raw (.bool (p0.1 != p1.1))⟩::[]) (tl:=[]) (by kernel_rfl) (by kernel_rfl) (by kernel_rfl) ?_ ?_
  · exact
      Obls.cons (Obl.plain rfl rfl fun R' w' hw hs hd=>by have a0:R' 2=(.pointer (some ⟨b2_0,0,none⟩)):=(hs 2 rfl).trans h2;exact zAB a0 zHa Try.sizeOf3 (by decide) rfl) <|
      Obls.cons (Obl.plain rfl rfl fun R' w' hw hs hd=>by have a0:R' 5=(.pointer (some ⟨b2_0,0,none⟩)):=hd 0 _ _ _ rfl rfl rfl rfl rfl;exact OpF.int (zAD ((hO.fr hw).ok 0 _ rfl).1 a0 zCZ rfl Try.isAgg3 Try.sizeOf3)) <|
      Obls.cons (Obl.plain rfl rfl fun R' w' hw hs hd=>by have a0:R' 3=(.pointer (some ⟨b3_1,0,none⟩)):=(hs 3 rfl).trans h3;exact zAB a0 zHa Try.sizeOf3 (by decide) rfl) <|
      Obls.cons (Obl.plain rfl rfl fun R' w' hw hs hd=>by have a0:R' 7=(.pointer (some ⟨b3_1,0,none⟩)):=hd 0 _ _ _ rfl rfl rfl rfl rfl;exact OpF.int (zAD ((hO.fr hw).ok 1 _ rfl).1 a0 zCZ rfl Try.isAgg3 Try.sizeOf3)) <|
      Obls.cons (Obl.plain rfl rfl fun R' w' hw hs hd=>by have a0:R' 6 = .int .i64 p0.1:=hd 0 _ _ _ rfl rfl rfl rfl rfl;have a1:R' 8 = .int .i64 p1.1:=hd 1 _ _ _ rfl rfl rfl rfl rfl;exact zDK a0 a1) <|
      Obls.nil
  intro R w hw hs hF'
  replace h2:R 2=(.pointer (some ⟨b2_0,0,none⟩)):=(hs 2 rfl).trans h2
  replace h3:R 3=(.pointer (some ⟨b3_1,0,none⟩)):=(hs 3 rfl).trans h3
  have h9:R 9 = .bool (p0.1 != p1.1):=hF' 4 _ _ rfl rfl rfl
  replace hO:=hO.fr hw
  replace hA:=hA.fr hw.size
  replace hF:=hF.trans hw
  clear hs hF' hw
  refine zA4 ?_
  refine HT.cond (p0.1 != p1.1) h9 (fun c3=>?_) (fun c3=>?_)
  · have hr := zAq c3 hr
    refine HT.seq ?_
    refine HT.text (l:=⟨_,true,.raw (.bool false)⟩::[]) (tl:=[]) (by kernel_rfl) (by kernel_rfl) (by kernel_rfl) ?_ ?_
    · exact
        Obls.cons (Obl.plain rfl rfl fun R' w' hw hs hd=>by exact zA6 rfl) <|
        Obls.nil
    intro R w hw hs hF'
    have h4:R 4 = .bool false:=hF' 0 _ _ rfl rfl rfl
    replace hO:=hO.fr hw
    replace hO:IniOK [] A w:=hO.sub [] trivial
    replace hA:=hA.fr hw.size
    replace hF:=hF.trans hw
    clear hs hF' hw
    refine zA4 ?_
    refine HT.ret ?_
    obtain rfl:=Option.some.inj hr
    exact ⟨.inr rfl,[R 4],⟨rfl,trivial⟩,h4,hF⟩
  · have hr := zAp c3 hr
    refine HT.skip ?_
    refine HT.seq ?_
    refine HT.seq ?_
    refine HT.text (l:=⟨_,true,.raw (.pointer (some ⟨b2_0,1,none⟩))⟩::⟨_,true,.raw (.int .i64 p0.2.1)⟩::⟨_,true,.raw (.pointer (some ⟨b3_1,1,none⟩))⟩::⟨_,true,.raw (.int .i64 p1.2.1)⟩::⟨_,true,.raw (.bool (p0.2.1 != p1.2.1))⟩::[]) (tl:=[]) (by kernel_rfl) (by kernel_rfl) (by kernel_rfl) ?_ ?_
    · exact
        Obls.cons (Obl.plain rfl rfl fun R' w' hw hs hd=>by have a0:R' 2=(.pointer (some ⟨b2_0,0,none⟩)):=(hs 2 rfl).trans h2;exact zAB a0 zHA Try.sizeOf3 (by decide) rfl) <|
        Obls.cons (Obl.plain rfl rfl fun R' w' hw hs hd=>by have a0:R' 10=(.pointer (some ⟨b2_0,1,none⟩)):=hd 0 _ _ _ rfl rfl rfl rfl rfl;exact OpF.int (zAD ((hO.fr hw).ok 0 _ rfl).1 a0 zCh rfl Try.isAgg3 Try.sizeOf3)) <|
        Obls.cons (Obl.plain rfl rfl fun R' w' hw hs hd=>by have a0:R' 3=(.pointer (some ⟨b3_1,0,none⟩)):=(hs 3 rfl).trans h3;exact zAB a0 zHA Try.sizeOf3 (by decide) rfl) <|
        Obls.cons (Obl.plain rfl rfl fun R' w' hw hs hd=>by have a0:R' 12=(.pointer (some ⟨b3_1,1,none⟩)):=hd 0 _ _ _ rfl rfl rfl rfl rfl;exact OpF.int (zAD ((hO.fr hw).ok 1 _ rfl).1 a0 zCh rfl Try.isAgg3 Try.sizeOf3)) <|
        Obls.cons (Obl.plain rfl rfl fun R' w' hw hs hd=>by have a0:R' 11 = .int .i64 p0.2.1:=hd 0 _ _ _ rfl rfl rfl rfl rfl;have a1:R' 13 = .int .i64 p1.2.1:=hd 1 _ _ _ rfl rfl rfl rfl rfl;exact zDK a0 a1) <|
        Obls.nil
    intro R w hw hs hF'
    replace h2:R 2=(.pointer (some ⟨b2_0,0,none⟩)):=(hs 2 rfl).trans h2
    replace h3:R 3=(.pointer (some ⟨b3_1,0,none⟩)):=(hs 3 rfl).trans h3
    have h14:R 14 = .bool (p0.2.1 != p1.2.1):=hF' 4 _ _ rfl rfl rfl
    replace hO:=hO.fr hw
    replace hA:=hA.fr hw.size
    replace hF:=hF.trans hw
    clear hs hF' hw
    refine zA4 ?_
    refine HT.cond (p0.2.1 != p1.2.1) h14 (fun c4=>?_) (fun c4=>?_)
    · have hr := zAq c4 hr
      refine HT.seq ?_
      refine HT.text (l:=⟨_,true,.raw (.bool false)⟩::[]) (tl:=[]) (by kernel_rfl) (by kernel_rfl) (by kernel_rfl) ?_ ?_
      · exact
          Obls.cons (Obl.plain rfl rfl fun R' w' hw hs hd=>by exact zA6 rfl) <|
          Obls.nil
      intro R w hw hs hF'
      have h4:R 4 = .bool false:=hF' 0 _ _ rfl rfl rfl
      replace hO:=hO.fr hw
      replace hO:IniOK [] A w:=hO.sub [] trivial
      replace hA:=hA.fr hw.size
      replace hF:=hF.trans hw
      clear hs hF' hw
      refine zA4 ?_
      refine HT.ret ?_
      obtain rfl:=Option.some.inj hr
      exact ⟨.inr rfl,[R 4],⟨rfl,trivial⟩,h4,hF⟩
    · have hr := zAp c4 hr
      refine HT.skip ?_
      refine HT.seq ?_
      refine HT.seq ?_
      refine HT.text (l:=⟨_,true,.raw (.pointer (some ⟨b2_0,2,none⟩))⟩::⟨_,true,.raw (.int .i64 p0.2.2.1)⟩::⟨_,true,.raw (.pointer (some ⟨b3_1,2,none⟩))⟩::⟨_,true,.raw (.int .i64 p1.2.2.1)⟩::⟨_,true,.raw (.bool (p0.2.2.1 != p1.2.2.1))⟩::[]) (tl:=[]) (by kernel_rfl) (by kernel_rfl) (by kernel_rfl) ?_ ?_
      · exact
          Obls.cons (Obl.plain rfl rfl fun R' w' hw hs hd=>by have a0:R' 2=(.pointer (some ⟨b2_0,0,none⟩)):=(hs 2 rfl).trans h2;exact zAB a0 zHO Try.sizeOf3 (by decide) rfl) <|
          Obls.cons (Obl.plain rfl rfl fun R' w' hw hs hd=>by have a0:R' 15=(.pointer (some ⟨b2_0,2,none⟩)):=hd 0 _ _ _ rfl rfl rfl rfl rfl;exact OpF.int (zAD ((hO.fr hw).ok 0 _ rfl).1 a0 zCd rfl Try.isAgg3 Try.sizeOf3)) <|
          Obls.cons (Obl.plain rfl rfl fun R' w' hw hs hd=>by have a0:R' 3=(.pointer (some ⟨b3_1,0,none⟩)):=(hs 3 rfl).trans h3;exact zAB a0 zHO Try.sizeOf3 (by decide) rfl) <|
          Obls.cons (Obl.plain rfl rfl fun R' w' hw hs hd=>by have a0:R' 17=(.pointer (some ⟨b3_1,2,none⟩)):=hd 0 _ _ _ rfl rfl rfl rfl rfl;exact OpF.int (zAD ((hO.fr hw).ok 1 _ rfl).1 a0 zCd rfl Try.isAgg3 Try.sizeOf3)) <|
          Obls.cons (Obl.plain rfl rfl fun R' w' hw hs hd=>by have a0:R' 16 = .int .i64 p0.2.2.1:=hd 0 _ _ _ rfl rfl rfl rfl rfl;have a1:R' 18 = .int .i64 p1.2.2.1:=hd 1 _ _ _ rfl rfl rfl rfl rfl;exact zDK a0 a1) <|
          Obls.nil
      intro R w hw hs hF'
      replace h2:R 2=(.pointer (some ⟨b2_0,0,none⟩)):=(hs 2 rfl).trans h2
      replace h3:R 3=(.pointer (some ⟨b3_1,0,none⟩)):=(hs 3 rfl).trans h3
      have h19:R 19 = .bool (p0.2.2.1 != p1.2.2.1):=hF' 4 _ _ rfl rfl rfl
      replace hO:=hO.fr hw
      replace hA:=hA.fr hw.size
      replace hF:=hF.trans hw
      clear hs hF' hw
      refine zA4 ?_
      refine HT.cond (p0.2.2.1 != p1.2.2.1) h19 (fun c5=>?_) (fun c5=>?_)
      · have hr := zAq c5 hr
        refine HT.seq ?_
        refine HT.text (l:=⟨_,true,.raw (.bool false)⟩::[]) (tl:=[]) (by kernel_rfl) (by kernel_rfl) (by kernel_rfl) ?_ ?_
        · exact
            Obls.cons (Obl.plain rfl rfl fun R' w' hw hs hd=>by exact zA6 rfl) <|
            Obls.nil
        intro R w hw hs hF'
        have h4:R 4 = .bool false:=hF' 0 _ _ rfl rfl rfl
        replace hO:=hO.fr hw
        replace hO:IniOK [] A w:=hO.sub [] trivial
        replace hA:=hA.fr hw.size
        replace hF:=hF.trans hw
        clear hs hF' hw
        refine zA4 ?_
        refine HT.ret ?_
        obtain rfl:=Option.some.inj hr
        exact ⟨.inr rfl,[R 4],⟨rfl,trivial⟩,h4,hF⟩
      · have hr := zAp c5 hr
        refine HT.skip ?_
        refine HT.seq ?_
        refine HT.seq ?_
        refine HT.text (l:=⟨_,true,.raw (.pointer (some ⟨b2_0,3,none⟩))⟩::⟨_,true,.raw (.int .i64 p0.2.2.2)⟩::⟨_,true,.raw (.pointer (some ⟨b3_1,3,none⟩))⟩::⟨_,true,.raw (.int .i64 p1.2.2.2)⟩::⟨_,true,.raw (.bool (p0.2.2.2 != p1.2.2.2))⟩::[]) (tl:=[]) (by kernel_rfl) (by kernel_rfl) (by kernel_rfl) ?_ ?_
        · exact
            Obls.cons (Obl.plain rfl rfl fun R' w' hw hs hd=>by have a0:R' 2=(.pointer (some ⟨b2_0,0,none⟩)):=(hs 2 rfl).trans h2;exact zAB a0 zHB Try.sizeOf3 (by decide) rfl) <|
            Obls.cons (Obl.plain rfl rfl fun R' w' hw hs hd=>by have a0:R' 20=(.pointer (some ⟨b2_0,3,none⟩)):=hd 0 _ _ _ rfl rfl rfl rfl rfl;exact OpF.int (zAD ((hO.fr hw).ok 0 _ rfl).1 a0 zCX rfl Try.isAgg3 Try.sizeOf3)) <|
            Obls.cons (Obl.plain rfl rfl fun R' w' hw hs hd=>by have a0:R' 3=(.pointer (some ⟨b3_1,0,none⟩)):=(hs 3 rfl).trans h3;exact zAB a0 zHB Try.sizeOf3 (by decide) rfl) <|
            Obls.cons (Obl.plain rfl rfl fun R' w' hw hs hd=>by have a0:R' 22=(.pointer (some ⟨b3_1,3,none⟩)):=hd 0 _ _ _ rfl rfl rfl rfl rfl;exact OpF.int (zAD ((hO.fr hw).ok 1 _ rfl).1 a0 zCX rfl Try.isAgg3 Try.sizeOf3)) <|
            Obls.cons (Obl.plain rfl rfl fun R' w' hw hs hd=>by have a0:R' 21 = .int .i64 p0.2.2.2:=hd 0 _ _ _ rfl rfl rfl rfl rfl;have a1:R' 23 = .int .i64 p1.2.2.2:=hd 1 _ _ _ rfl rfl rfl rfl rfl;exact zDK a0 a1) <|
            Obls.nil
        intro R w hw hs hF'
        have h24:R 24 = .bool (p0.2.2.2 != p1.2.2.2):=hF' 4 _ _ rfl rfl rfl
        replace hO:=hO.fr hw
        replace hO:IniOK [] A w:=hO.sub [] trivial
        replace hA:=hA.fr hw.size
        replace hF:=hF.trans hw
        clear hs hF' hw
        refine zA4 ?_
        refine HT.cond (p0.2.2.2 != p1.2.2.2) h24 (fun c6=>?_) (fun c6=>?_)
        · have hr := zAq c6 hr
          refine HT.seq ?_
          refine HT.text (l:=⟨_,true,.raw (.bool false)⟩::[]) (tl:=[]) (by kernel_rfl) (by kernel_rfl) (by kernel_rfl) ?_ ?_
          · exact
              Obls.cons (Obl.plain rfl rfl fun R' w' hw hs hd=>by exact zA6 rfl) <|
              Obls.nil
          intro R w hw hs hF'
          have h4:R 4 = .bool false:=hF' 0 _ _ rfl rfl rfl
          replace hO:=hO.fr hw
          replace hA:=hA.fr hw.size
          replace hF:=hF.trans hw
          clear hs hF' hw
          refine zA4 ?_
          refine HT.ret ?_
          obtain rfl:=Option.some.inj hr
          exact ⟨.inr rfl,[R 4],⟨rfl,trivial⟩,h4,hF⟩
        · have hr := zAp c6 hr
          refine HT.skip ?_
          refine HT.seq ?_
          refine HT.text (l:=⟨_,true,.raw (.bool true)⟩::[]) (tl:=[]) (by kernel_rfl) (by kernel_rfl) (by kernel_rfl) ?_ ?_
          · exact
              Obls.cons (Obl.plain rfl rfl fun R' w' hw hs hd=>by exact zA6 rfl) <|
              Obls.nil
          intro R w hw hs hF'
          have h4:R 4 = .bool true:=hF' 0 _ _ rfl rfl rfl
          replace hO:=hO.fr hw
          replace hA:=hA.fr hw.size
          replace hF:=hF.trans hw
          clear hs hF' hw
          refine zA4 ?_
          refine HT.ret ?_
          obtain rfl:=Option.some.inj hr
          exact ⟨.inr rfl,[R 4],⟨rfl,trivial⟩,h4,hF⟩
def zB7 (fu : Nat) (p0 : List zA3) (p1 : List zA3) : Nat → Int → Option (Ex Bool Unit)
  | 0,_=>none
  | k+1,y5=>
    bif (decide (y5 < (p0.length : Int))) then (
      ck (inR y5 p0.length) <|
      ck (inR y5 p1.length) <|
      cl true (zBx fu (gtD p0 y5) (gtD p1 y5)) fun x9=>
      bif (!x9) then (
        some (Ex.ret false)
      ) else (
        ck (i64B (y5+(1:Int))) <|
        zB7 fu p0 p1 k (y5+(1:Int))
      )
    ) else (
      some (Ex.go ())
    )
def zBq (fu:Nat) (p0:List zA3) (p1:List zA3):Option Bool:=
  bif ((p0.length : Int) != (p1.length : Int)) then (
    some false
  ) else (
    cl true (zB7 fu p0 p1 fu (0:Int)) fun rl2=>
    exM rl2 (fun r=>some r) fun s4=>
    some true
  )
set_option maxRecDepth 100000 in
set_option maxHeartbeats 4000000 in
theorem zEJ {fu : Nat} {A : Av} {p0 : List zA3} {p1 : List zA3} {r : Bool} (hr : zBq fu p0 p1 = some r) {w : World} {v0 : Value} {v1 : Value} (hA : AvOK A w) (h0 : Rep (eSl zA0) A w v0 p0) (h1 : Rep (eSl zA0) A w v1 p1) :
    Calls Try.prog 46 #[v0,v1] w fun e w'=>∃ v,e = .returned v∧(v = .bool r∧Fr w w'):=by
  unfold zBq at hr
  obtain ⟨w0,hw0⟩:∃ w0,w0=w:=⟨_,rfl⟩
  have hF:Fr w0 w:=hw0 ▸ Fr.refl _
  rw [show Fr w=Fr w0 from hw0 ▸ rfl]
  clear hw0
  refine zAI [.tmp 4] Try.func46 Try.ntmps46 (by decide) rfl rfl (Nat.le_of_ble_eq_true rfl) ?_
  intro R hR
  have f_v0:=h0
  replace h0:R 0=v0:=hR 0 _ rfl
  have f_v1:=h1
  replace h1:R 1=v1:=hR 1 _ rfl
  clear hR
  refine HT.seq ?_
  refine HT.text (l:=⟨_,true,.raw (.bool false)⟩::[]) (tl:=[]) (by kernel_rfl) (by kernel_rfl) (by kernel_rfl) ?_ ?_
  · exact
      Obls.cons (Obl.plain rfl rfl fun R' w' hw hs hd=>by exact zA6 rfl) <|
      Obls.nil
  intro R w hw hs hF'
  replace h0:R 0=v0:=(hs 0 rfl).trans h0
  replace h1:R 1=v1:=(hs 1 rfl).trans h1
  replace f_v0:=f_v0.fr hw
  replace f_v1:=f_v1.fr hw
  replace hA:=hA.fr hw.size
  replace hF:=hF.trans hw
  clear hs hF' hw
  refine zA4 ?_
  refine HT.seq ?_
  refine HT.seq ?_
  refine HT.text (l:=⟨_,true,.raw v0⟩::⟨_,true,.raw (.int .i64 (p0.length:Int))⟩::⟨_,true,.raw v1⟩::⟨_,true,.raw (.int .i64 (p1.length:Int))⟩::⟨_,true,.raw (.bool ((p0.length:Int) != (p1.length:Int)))⟩::[]) (tl:=[]) (by kernel_rfl) (by kernel_rfl) (by kernel_rfl) ?_ ?_
  · exact
      Obls.cons (Obl.plain rfl rfl fun R' w' hw hs hd=>by have a0:R' 0=v0:=(hs 0 rfl).trans h0;exact zA5 a0) <|
      Obls.cons (Obl.plain rfl rfl fun R' w' hw hs hd=>by have a0:R' 6=v0:=hd 0 _ _ _ rfl rfl rfl rfl rfl;have ra0:=(f_v0.fr hw).eq a0;exact zAd (aT:=#[]) ra0 Try.underlying39) <|
      Obls.cons (Obl.plain rfl rfl fun R' w' hw hs hd=>by have a0:R' 1=v1:=(hs 1 rfl).trans h1;exact zA5 a0) <|
      Obls.cons (Obl.plain rfl rfl fun R' w' hw hs hd=>by have a0:R' 8=v1:=hd 0 _ _ _ rfl rfl rfl rfl rfl;have ra0:=(f_v1.fr hw).eq a0;exact zAd (aT:=#[]) ra0 Try.underlying39) <|
      Obls.cons (Obl.plain rfl rfl fun R' w' hw hs hd=>by have a0:R' 7 = .int .i64 (p0.length:Int):=hd 0 _ _ _ rfl rfl rfl rfl rfl;have a1:R' 9 = .int .i64 (p1.length:Int):=hd 1 _ _ _ rfl rfl rfl rfl rfl;exact zDK a0 a1) <|
      Obls.nil
  intro R w hw hs hF'
  replace h0:R 0=v0:=(hs 0 rfl).trans h0
  replace h1:R 1=v1:=(hs 1 rfl).trans h1
  have h10:R 10 = .bool ((p0.length:Int) != (p1.length:Int)):=hF' 4 _ _ rfl rfl rfl
  replace f_v0:=f_v0.fr hw
  replace f_v1:=f_v1.fr hw
  replace hA:=hA.fr hw.size
  replace hF:=hF.trans hw
  clear hs hF' hw
  refine zA4 ?_
  refine HT.cond ((p0.length:Int) != (p1.length:Int)) h10 (fun c1=>?_) (fun c1=>?_)
  · have hr := zAq c1 hr
    refine HT.seq ?_
    refine HT.text (l:=⟨_,true,.raw (.bool false)⟩::[]) (tl:=[]) (by kernel_rfl) (by kernel_rfl) (by kernel_rfl) ?_ ?_
    · exact
        Obls.cons (Obl.plain rfl rfl fun R' w' hw hs hd=>by exact zA6 rfl) <|
        Obls.nil
    intro R w hw hs hF'
    have h4:R 4 = .bool false:=hF' 0 _ _ rfl rfl rfl
    replace hA:=hA.fr hw.size
    replace hF:=hF.trans hw
    clear hs hF' hw
    refine zA4 ?_
    refine HT.ret ?_
    obtain rfl:=Option.some.inj hr
    exact ⟨.inr rfl,[R 4],⟨rfl,trivial⟩,h4,hF⟩
  · have hr := zAp c1 hr
    refine HT.skip ?_
    refine HT.seq ?_
    refine HT.seq ?_
    refine HT.text (l:=⟨_,true,.raw (.int .i64 (0:Int))⟩::[]) (tl:=[]) (by kernel_rfl) (by kernel_rfl) (by kernel_rfl) ?_ ?_
    · exact
        Obls.cons (Obl.plain rfl rfl fun R' w' hw hs hd=>by exact zA6 rfl) <|
        Obls.nil
    intro R w hw hs hF'
    replace h0:R 0=v0:=(hs 0 rfl).trans h0
    replace h1:R 1=v1:=(hs 1 rfl).trans h1
    have h5:R 5 = .int .i64 (0:Int):=hF' 0 _ _ rfl rfl rfl
    replace f_v0:=f_v0.fr hw
    replace f_v1:=f_v1.fr hw
    replace hA:=hA.fr hw.size
    replace hF:=hF.trans hw
    clear hs hF' hw
    refine zA4 ?_
    obtain ⟨rl2,q3,hr⟩:=zAK hr
    replace q3:=q3 rfl
    refine HT.cut0 (fun R w=>∃ (s4:Unit),rl2=Ex.go s4∧AvOK A w∧Fr w0 w) ?_ ?_
    · refine HT.block ?_
      refine HT.loop (fun k R w=>∃ (y5:Int),zB7 fu p0 p1 k y5=some rl2∧AvOK A w∧Fr w0 w∧R 0=v0∧R 1=v1∧R 5 = .int .i64 y5∧Rep (eSl zA0) A w v0 p0∧Rep (eSl zA0) A w v1 p1) fu ⟨_,q3,hA,hF,h0,h1,h5,f_v0,f_v1⟩ ?_
      have hr0:=hr;clear hr q3
      rintro k R w ⟨y5,hr,hA,hF,h0,h1,h5,f_v0,f_v1⟩
      rcases k with _ | k
      · cases (show none=some _ from hr)
      rw [zB7] at hr
      refine HT.seq ?_
      refine HT.seq ?_
      refine HT.text (l:=⟨_,true,.raw (.int .i64 y5)⟩::⟨_,true,.raw v0⟩::⟨_,true,.raw (.int .i64 (p0.length:Int))⟩::⟨_,true,.raw (.bool (decide (y5<(p0.length:Int))))⟩::[]) (tl:=[]) (by kernel_rfl) (by kernel_rfl) (by kernel_rfl) ?_ ?_
      · exact
          Obls.cons (Obl.plain rfl rfl fun R' w' hw hs hd=>by have a0:R' 5 = .int .i64 y5:=(hs 5 rfl).trans h5;exact zA5 a0) <|
          Obls.cons (Obl.plain rfl rfl fun R' w' hw hs hd=>by have a0:R' 0=v0:=(hs 0 rfl).trans h0;exact zA5 a0) <|
          Obls.cons (Obl.plain rfl rfl fun R' w' hw hs hd=>by have a0:R' 12=v0:=hd 0 _ _ _ rfl rfl rfl rfl rfl;have ra0:=(f_v0.fr hw).eq a0;exact zAd (aT:=#[]) ra0 Try.underlying39) <|
          Obls.cons (Obl.plain rfl rfl fun R' w' hw hs hd=>by have a0:R' 11 = .int .i64 y5:=hd 0 _ _ _ rfl rfl rfl rfl rfl;have a1:R' 13 = .int .i64 (p0.length:Int):=hd 1 _ _ _ rfl rfl rfl rfl rfl;exact zBI a0 a1) <|
          Obls.nil
      intro R w hw hs hF'
      replace h0:R 0=v0:=(hs 0 rfl).trans h0
      replace h1:R 1=v1:=(hs 1 rfl).trans h1
      replace h5:R 5 = .int .i64 y5:=(hs 5 rfl).trans h5
      have h14:R 14 = .bool (decide (y5<(p0.length:Int))):=hF' 3 _ _ rfl rfl rfl
      replace f_v0:=f_v0.fr hw
      replace f_v1:=f_v1.fr hw
      replace hA:=hA.fr hw.size
      replace hF:=hF.trans hw
      clear hs hF' hw
      refine zA4 ?_
      refine HT.cond (decide (y5<(p0.length:Int))) h14 (fun c6=>?_) (fun c6=>?_)
      · have hr := zAq c6 hr
        refine HT.skip ?_
        refine HT.seq ?_
        refine HT.block ?_
        refine HT.seq ?_
        obtain ⟨e7,hr⟩:=zAF hr
        obtain ⟨e8,hr⟩:=zAF hr
        obtain ⟨x9,q10,hr⟩:=zAK hr
        refine HT.draw (by kernel_rfl) (l:=⟨_,true,.raw v0⟩::⟨_,true,.raw (.int .i64 y5)⟩::⟨_,true,.qtr zA0 A (gtD p0 y5)⟩::⟨_,true,.rep zA0 A (gtD p0 y5)⟩::⟨_,true,.raw v1⟩::⟨_,true,.raw (.int .i64 y5)⟩::⟨_,true,.qtr zA0 A (gtD p1 y5)⟩::⟨_,true,.rep zA0 A (gtD p1 y5)⟩::⟨_,true,.raw (.bool x9)⟩::⟨_,true,.raw (.bool (!x9))⟩::[]) (tl:=[]) (by kernel_rfl) (by kernel_rfl) (by kernel_rfl) (by kernel_rfl) ?_ ?_
        · exact
            Obls.cons (Obl.plain rfl rfl fun R' w' hw hs hd=>by have a0:R' 0=v0:=(hs 0 rfl).trans h0;exact zA5 a0) <|
            Obls.cons (Obl.plain rfl rfl fun R' w' hw hs hd=>by have a0:R' 5 = .int .i64 y5:=(hs 5 rfl).trans h5;exact zA5 a0) <|
            Obls.cons (Obl.plain rfl rfl fun R' w' hw hs hd=>by have a0:R' 17=v0:=hd 0 _ _ _ rfl rfl rfl rfl rfl;have a1:R' 18 = .int .i64 y5:=hd 1 _ _ _ rfl rfl rfl rfl rfl;have ra0:=(f_v0.fr hw).eq a0;exact zAN ra0 a1 Try.underlying39 Try.sizeOf99 e7) <|
            Obls.cons (Obl.plain rfl rfl fun R' w' hw hs hd=>by have a0:QRep zA0 A w' (R' 19) (gtD p0 y5):=hd 0 _ _ _ rfl rfl rfl rfl rfl;exact (zAv a0.ptr Try.isAgg99 Try.sizeOf99)) <|
            Obls.cons (Obl.plain rfl rfl fun R' w' hw hs hd=>by have a0:R' 1=v1:=(hs 1 rfl).trans h1;exact zA5 a0) <|
            Obls.cons (Obl.plain rfl rfl fun R' w' hw hs hd=>by have a0:R' 5 = .int .i64 y5:=(hs 5 rfl).trans h5;exact zA5 a0) <|
            Obls.cons (Obl.plain rfl rfl fun R' w' hw hs hd=>by have a0:R' 21=v1:=hd 0 _ _ _ rfl rfl rfl rfl rfl;have a1:R' 22 = .int .i64 y5:=hd 1 _ _ _ rfl rfl rfl rfl rfl;have ra0:=(f_v1.fr hw).eq a0;exact zAN ra0 a1 Try.underlying39 Try.sizeOf99 e8) <|
            Obls.cons (Obl.plain rfl rfl fun R' w' hw hs hd=>by have a0:QRep zA0 A w' (R' 23) (gtD p1 y5):=hd 0 _ _ _ rfl rfl rfl rfl rfl;exact (zAv a0.ptr Try.isAgg99 Try.sizeOf99)) <|
            Obls.cons (Obl.plain rfl rfl fun R' w' hw hs hd=>by have a0:Rep zA0 A w' (R' 20) (gtD p0 y5):=hd 0 _ _ _ rfl rfl rfl rfl rfl;have a1:Rep zA0 A w' (R' 24) (gtD p1 y5):=hd 1 _ _ _ rfl rfl rfl rfl rfl;exact zAl Try.call79 (zEL (q10 rfl) (hA.fr hw.size) a0 a1)) <|
            Obls.cons (Obl.plain rfl rfl fun R' w' hw hs hd=>by have a0:R' 25 = .bool x9:=hd 0 _ _ _ rfl rfl rfl rfl rfl;exact zD7 a0) <|
            Obls.nil
        intro R w hw hs hF'
        replace h0:R 0=v0:=(hs 0 rfl).trans h0
        replace h1:R 1=v1:=(hs 1 rfl).trans h1
        replace h5:R 5 = .int .i64 y5:=(hs 5 rfl).trans h5
        have h26:R 26 = .bool (!x9):=hF' 9 _ _ rfl rfl rfl
        replace f_v0:=f_v0.fr hw
        replace f_v1:=f_v1.fr hw
        replace hA:=hA.fr hw.size
        replace hF:=hF.trans hw
        clear hs hF' hw
        refine zA4 ?_
        refine HT.cond (!x9) h26 (fun c11=>?_) (fun c11=>?_)
        · have hr := zAq c11 hr
          refine HT.seq ?_
          refine HT.text (l:=⟨_,true,.raw (.bool false)⟩::[]) (tl:=[]) (by kernel_rfl) (by kernel_rfl) (by kernel_rfl) ?_ ?_
          · exact
              Obls.cons (Obl.plain rfl rfl fun R' w' hw hs hd=>by exact zA6 rfl) <|
              Obls.nil
          intro R w hw hs hF'
          have h4:R 4 = .bool false:=hF' 0 _ _ rfl rfl rfl
          replace hA:=hA.fr hw.size
          replace hF:=hF.trans hw
          clear hs hF' hw
          refine zA4 ?_
          refine HT.ret ?_
          obtain rfl:=Option.some.inj hr
          have hr:=hr0
          replace hr:some _=some _:=hr
          obtain rfl:=Option.some.inj hr
          exact ⟨.inr rfl,[R 4],⟨rfl,trivial⟩,h4,hF⟩
        · have hr := zAp c11 hr
          refine HT.skip ?_
          obtain ⟨e12,hr⟩:=zAF hr
          refine HT.text (l:=⟨_,true,.raw (.int .i64 y5)⟩::⟨_,true,.raw (.int .i64 (y5+(1:Int)))⟩::⟨_,true,.raw (.int .i64 (y5+(1:Int)))⟩::[]) (tl:=[]) (by kernel_rfl) (by kernel_rfl) (by kernel_rfl) ?_ ?_
          · exact
              Obls.cons (Obl.plain rfl rfl fun R' w' hw hs hd=>by have a0:R' 5 = .int .i64 y5:=(hs 5 rfl).trans h5;exact zA5 a0) <|
              Obls.cons (Obl.plain rfl rfl fun R' w' hw hs hd=>by have a0:R' 15 = .int .i64 y5:=hd 0 _ _ _ rfl rfl rfl rfl rfl;exact zB8 a0 rfl e12) <|
              Obls.cons (Obl.plain rfl rfl fun R' w' hw hs hd=>by have a0:R' 16 = .int .i64 (y5+(1:Int)):=hd 0 _ _ _ rfl rfl rfl rfl rfl;exact zA6 a0) <|
              Obls.nil
          intro R w hw hs hF'
          replace h0:R 0=v0:=(hs 0 rfl).trans h0
          replace h1:R 1=v1:=(hs 1 rfl).trans h1
          have h5:R 5 = .int .i64 (y5+(1:Int)):=hF' 2 _ _ rfl rfl rfl
          replace f_v0:=f_v0.fr hw
          replace f_v1:=f_v1.fr hw
          replace hA:=hA.fr hw.size
          replace hF:=hF.trans hw
          clear hs hF' hw
          refine zA4 ?_
          exact Exists.intro k (And.intro (Nat.lt_succ_self k) ⟨_,hr,hA,hF,h0,h1,h5,f_v0,f_v1⟩)
      · have hr := zAp c6 hr
        refine HT.exit ?_
        obtain rfl:=Option.some.inj hr
        exact Exists.intro _ ⟨rfl,hA,hF⟩
    rintro R w ⟨s4,rfl,hA,hF⟩
    have hr:=zDj hr
    refine HT.seq ?_
    refine HT.text (l:=⟨_,true,.raw (.bool true)⟩::[]) (tl:=[]) (by kernel_rfl) (by kernel_rfl) (by kernel_rfl) ?_ ?_
    · exact
        Obls.cons (Obl.plain rfl rfl fun R' w' hw hs hd=>by exact zA6 rfl) <|
        Obls.nil
    intro R w hw hs hF'
    have h4:R 4 = .bool true:=hF' 0 _ _ rfl rfl rfl
    replace hA:=hA.fr hw.size
    replace hF:=hF.trans hw
    clear hs hF' hw
    refine zA4 ?_
    refine HT.ret ?_
    obtain rfl:=Option.some.inj hr
    exact ⟨.inr rfl,[R 4],⟨rfl,trivial⟩,h4,hF⟩
def zBa (fu:Nat) (p0:zAR) (p1:zAR):Option Bool:=
  bif (p0.1 != p1.1) then (
    some false
  ) else (
    cl true (zBq fu p0.2 p1.2) fun x4=>
    bif (!x4) then (
      some false
    ) else (
      some true
    )
  )
set_option maxRecDepth 100000 in
set_option maxHeartbeats 4000000 in
theorem zD1 {fu : Nat} {A0 : Av} {p0 : zAR} {p1 : zAR} {r : Bool} (hr : zBa fu p0 p1 = some r) {w : World} {v0 : Value} {v1 : Value} (hA : AvOK A0 w) (h0 : Rep zA8 A0 w v0 p0) (h1 : Rep zA8 A0 w v1 p1) :
    Calls Try.prog 20 #[v0,v1] w fun e w'=>∃ v,e = .returned v∧(v = .bool r∧Fr w w'):=by
  unfold zBa at hr
  obtain ⟨w0,hw0⟩:∃ w0,w0=w:=⟨_,rfl⟩
  have hF:Fr w0 w:=hw0 ▸ Fr.refl _
  have hA0:∀ b o,A0 b o→b<w0.heap.size:=fun b o h=>hw0 ▸ hA b o h
  have hA00:AvOK A0 w0:=hA0
  rw [show Fr w=Fr w0 from hw0 ▸ rfl]
  clear hw0
  obtain ⟨A,hAe⟩:∃ A,A=A0:=⟨_,rfl⟩
  have hAA:∀ b o,A0 b o→A b o:=fun b o h=>hAe ▸ h
  replace hA:AvOK A w:=hAe ▸ hA
  have hO:IniOK [] A w:=IniOK.nil
  refine zAI [.tmp 4] Try.func20 Try.ntmps20 (by decide) rfl rfl (Nat.le_of_ble_eq_true rfl) ?_
  intro R hR
  have f_v0:Rep zA8 A w v0 p0:=hAe ▸ h0
  replace h0:R 0=v0:=hR 0 _ rfl
  have f_v1:Rep zA8 A w v1 p1:=hAe ▸ h1
  replace h1:R 1=v1:=hR 1 _ rfl
  clear hR hAe
  refine HT.seq ?_
  refine HT.textR [] (⟨_,true,[],some (.box w0.heap.size 41 zA8 p0),true,fun A=>.any⟩::⟨_,true,[],some (.box w0.heap.size 41 zA8 p1),true,fun A=>.any⟩::⟨_,true,[],none,true,fun A=>.raw (.bool false)⟩::[]) (by kernel_rfl) (by kernel_rfl) (Wf.mk' (by kernel_rfl) (UAll.cons zAG (UAll.cons zAG (UAll.cons zAA (UAll.nil)))) (by kernel_rfl) (by kernel_rfl)) hO hA ?_ ?_
  · exact
      zA9.cons (OblR.made _ rfl rfl rfl rfl fun A' R' w' ho hd=>by have a0:R' 0=v0:=(ho.old 0 rfl).trans h0;have ra0:=(f_v0.stp ho.stp).eq a0;exact zB9 ra0 (Nat.le_trans hF.size ho.ch.size)) <|
      zA9.cons (OblR.made _ rfl rfl rfl rfl fun A' R' w' ho hd=>by have a0:R' 1=v1:=(ho.old 1 rfl).trans h1;have ra0:=(f_v1.stp ho.stp).eq a0;exact zB9 ra0 (Nat.le_trans hF.size ho.ch.size)) <|
      zA9.cons (OblR.plain rfl rfl rfl rfl fun A' R' w' ho hd=>by exact zA6 rfl) <|
      zA9.nil
  intro done ρ σ A R w hdn hI
  obtain ⟨b2_0,e_b2_0⟩:=hI.boxv hdn 0 rfl rfl
  have h2:R 2=(.pointer (some ⟨b2_0,0,none⟩)):=(hI.opvR hdn 0 0 rfl rfl rfl rfl rfl).symm.trans e_b2_0
  obtain ⟨b3_1,e_b3_1⟩:=hI.boxv hdn 1 rfl rfl
  have h3:R 3=(.pointer (some ⟨b3_1,0,none⟩)):=(hI.opvR hdn 1 1 rfl rfl rfl rfl rfl).symm.trans e_b3_1
  replace hAA:=hI.low' hAA hA0 (hO.ge (trivial))
  replace hF:Fr w0 w:=hF.tr hI.ch (hO.ge (trivial))
  replace hO:IniOK [ob (.pointer (some ⟨b2_0,0,none⟩)) (.box w0.heap.size 41 zA8 p0),ob (.pointer (some ⟨b3_1,0,none⟩)) (.box w0.heap.size 41 zA8 p1)] A w:=hI.left hdn [(0,ob (.pointer (some ⟨b2_0,0,none⟩)) (.box w0.heap.size 41 zA8 p0)),(1,ob (.pointer (some ⟨b3_1,0,none⟩)) (.box w0.heap.size 41 zA8 p1))] ⟨rfl,rfl,e_b2_0,rfl,rfl,⟨rfl,rfl,e_b3_1,rfl,rfl,trivial⟩⟩
  replace hA:=hI.avok
  clear hI
  refine HT.seq ?_
  refine HT.seq ?_
  refine HT.text (l:=⟨_,true,.raw (.pointer (some ⟨b2_0,0,none⟩))⟩::⟨_,true,.raw (.int .i64 p0.1)⟩::⟨_,true,.raw (.pointer (some ⟨b3_1,0,none⟩))⟩::⟨_,true,.raw (.int .i64 p1.1)⟩::⟨_,true,.raw (.bool (p0.1 != p1.1))⟩::[]) (tl:=[]) (by kernel_rfl) (by kernel_rfl) (by kernel_rfl) ?_ ?_
  · exact
      Obls.cons (Obl.plain rfl rfl fun R' w' hw hs hd=>by have a0:R' 2=(.pointer (some ⟨b2_0,0,none⟩)):=(hs 2 rfl).trans h2;exact zAB a0 zIQ Try.sizeOf3 (by decide) rfl) <|
      Obls.cons (Obl.plain rfl rfl fun R' w' hw hs hd=>by have a0:R' 5=(.pointer (some ⟨b2_0,0,none⟩)):=hd 0 _ _ _ rfl rfl rfl rfl rfl;exact OpF.int (zAD ((hO.fr hw).ok 0 _ rfl).1 a0 zEF rfl Try.isAgg3 Try.sizeOf3)) <|
      Obls.cons (Obl.plain rfl rfl fun R' w' hw hs hd=>by have a0:R' 3=(.pointer (some ⟨b3_1,0,none⟩)):=(hs 3 rfl).trans h3;exact zAB a0 zIQ Try.sizeOf3 (by decide) rfl) <|
      Obls.cons (Obl.plain rfl rfl fun R' w' hw hs hd=>by have a0:R' 7=(.pointer (some ⟨b3_1,0,none⟩)):=hd 0 _ _ _ rfl rfl rfl rfl rfl;exact OpF.int (zAD ((hO.fr hw).ok 1 _ rfl).1 a0 zEF rfl Try.isAgg3 Try.sizeOf3)) <|
      Obls.cons (Obl.plain rfl rfl fun R' w' hw hs hd=>by have a0:R' 6 = .int .i64 p0.1:=hd 0 _ _ _ rfl rfl rfl rfl rfl;have a1:R' 8 = .int .i64 p1.1:=hd 1 _ _ _ rfl rfl rfl rfl rfl;exact zDK a0 a1) <|
      Obls.nil
  intro R w hw hs hF'
  replace h2:R 2=(.pointer (some ⟨b2_0,0,none⟩)):=(hs 2 rfl).trans h2
  replace h3:R 3=(.pointer (some ⟨b3_1,0,none⟩)):=(hs 3 rfl).trans h3
  have h9:R 9 = .bool (p0.1 != p1.1):=hF' 4 _ _ rfl rfl rfl
  replace hO:=hO.fr hw
  replace hA:=hA.fr hw.size
  replace hF:=hF.trans hw
  clear hs hF' hw
  refine zA4 ?_
  refine HT.cond (p0.1 != p1.1) h9 (fun c3=>?_) (fun c3=>?_)
  · have hr := zAq c3 hr
    refine HT.seq ?_
    refine HT.text (l:=⟨_,true,.raw (.bool false)⟩::[]) (tl:=[]) (by kernel_rfl) (by kernel_rfl) (by kernel_rfl) ?_ ?_
    · exact
        Obls.cons (Obl.plain rfl rfl fun R' w' hw hs hd=>by exact zA6 rfl) <|
        Obls.nil
    intro R w hw hs hF'
    have h4:R 4 = .bool false:=hF' 0 _ _ rfl rfl rfl
    replace hO:=hO.fr hw
    replace hO:IniOK [] A w:=hO.sub [] trivial
    replace hA:=hA.fr hw.size
    replace hF:=hF.trans hw
    clear hs hF' hw
    refine zA4 ?_
    refine HT.ret ?_
    obtain rfl:=Option.some.inj hr
    exact ⟨.inr rfl,[R 4],⟨rfl,trivial⟩,h4,hF⟩
  · have hr := zAp c3 hr
    refine HT.skip ?_
    refine HT.seq ?_
    refine HT.seq ?_
    obtain ⟨x4,q5,hr⟩:=zAK hr
    refine HT.text (l:=⟨_,true,.raw (.pointer (some ⟨b2_0,1,none⟩))⟩::⟨_,true,.rep (eSl zA0) A p0.2⟩::⟨_,true,.raw (.pointer (some ⟨b3_1,1,none⟩))⟩::⟨_,true,.rep (eSl zA0) A p1.2⟩::⟨_,true,.raw (.bool x4)⟩::⟨_,true,.raw (.bool (!x4))⟩::[]) (tl:=[]) (by kernel_rfl) (by kernel_rfl) (by kernel_rfl) ?_ ?_
    · exact
        Obls.cons (Obl.plain rfl rfl fun R' w' hw hs hd=>by have a0:R' 2=(.pointer (some ⟨b2_0,0,none⟩)):=(hs 2 rfl).trans h2;exact zAB a0 zEU Try.sizeOf39 (by decide) rfl) <|
        Obls.cons (Obl.plain rfl rfl fun R' w' hw hs hd=>by have a0:R' 10=(.pointer (some ⟨b2_0,1,none⟩)):=hd 0 _ _ _ rfl rfl rfl rfl rfl;exact (zAD ((hO.fr hw).ok 0 _ rfl).1 a0 zDQ rfl Try.isAgg39 Try.sizeOf39)) <|
        Obls.cons (Obl.plain rfl rfl fun R' w' hw hs hd=>by have a0:R' 3=(.pointer (some ⟨b3_1,0,none⟩)):=(hs 3 rfl).trans h3;exact zAB a0 zEU Try.sizeOf39 (by decide) rfl) <|
        Obls.cons (Obl.plain rfl rfl fun R' w' hw hs hd=>by have a0:R' 12=(.pointer (some ⟨b3_1,1,none⟩)):=hd 0 _ _ _ rfl rfl rfl rfl rfl;exact (zAD ((hO.fr hw).ok 1 _ rfl).1 a0 zDQ rfl Try.isAgg39 Try.sizeOf39)) <|
        Obls.cons (Obl.plain rfl rfl fun R' w' hw hs hd=>by have a0:Rep (eSl zA0) A w' (R' 11) p0.2:=hd 0 _ _ _ rfl rfl rfl rfl rfl;have a1:Rep (eSl zA0) A w' (R' 13) p1.2:=hd 1 _ _ _ rfl rfl rfl rfl rfl;exact zAl Try.call46 (zEJ (q5 rfl) (hA.fr hw.size) a0 a1)) <|
        Obls.cons (Obl.plain rfl rfl fun R' w' hw hs hd=>by have a0:R' 14 = .bool x4:=hd 0 _ _ _ rfl rfl rfl rfl rfl;exact zD7 a0) <|
        Obls.nil
    intro R w hw hs hF'
    have h15:R 15 = .bool (!x4):=hF' 5 _ _ rfl rfl rfl
    replace hO:=hO.fr hw
    replace hO:IniOK [] A w:=hO.sub [] trivial
    replace hA:=hA.fr hw.size
    replace hF:=hF.trans hw
    clear hs hF' hw
    refine zA4 ?_
    refine HT.cond (!x4) h15 (fun c6=>?_) (fun c6=>?_)
    · have hr := zAq c6 hr
      refine HT.seq ?_
      refine HT.text (l:=⟨_,true,.raw (.bool false)⟩::[]) (tl:=[]) (by kernel_rfl) (by kernel_rfl) (by kernel_rfl) ?_ ?_
      · exact
          Obls.cons (Obl.plain rfl rfl fun R' w' hw hs hd=>by exact zA6 rfl) <|
          Obls.nil
      intro R w hw hs hF'
      have h4:R 4 = .bool false:=hF' 0 _ _ rfl rfl rfl
      replace hO:=hO.fr hw
      replace hA:=hA.fr hw.size
      replace hF:=hF.trans hw
      clear hs hF' hw
      refine zA4 ?_
      refine HT.ret ?_
      obtain rfl:=Option.some.inj hr
      exact ⟨.inr rfl,[R 4],⟨rfl,trivial⟩,h4,hF⟩
    · have hr := zAp c6 hr
      refine HT.skip ?_
      refine HT.seq ?_
      refine HT.text (l:=⟨_,true,.raw (.bool true)⟩::[]) (tl:=[]) (by kernel_rfl) (by kernel_rfl) (by kernel_rfl) ?_ ?_
      · exact
          Obls.cons (Obl.plain rfl rfl fun R' w' hw hs hd=>by exact zA6 rfl) <|
          Obls.nil
      intro R w hw hs hF'
      have h4:R 4 = .bool true:=hF' 0 _ _ rfl rfl rfl
      replace hO:=hO.fr hw
      replace hA:=hA.fr hw.size
      replace hF:=hF.trans hw
      clear hs hF' hw
      refine zA4 ?_
      refine HT.ret ?_
      obtain rfl:=Option.some.inj hr
      exact ⟨.inr rfl,[R 4],⟨rfl,trivial⟩,h4,hF⟩
def zDI (fu:Nat) (p0:zA7) (p1:zA7):Option Bool:=
  bif (p0.1 != p1.1) then (
    some false
  ) else (
    bif (p0.2.1 != p1.2.1) then (
      some false
    ) else (
      bif (p0.2.2 != p1.2.2) then (
        some false
      ) else (
        some true
      )
    )
  )
set_option maxRecDepth 100000 in
set_option maxHeartbeats 4000000 in
theorem zG4 {fu : Nat} {A0 : Av} {p0 : zA7} {p1 : zA7} {r : Bool} (hr : zDI fu p0 p1 = some r) {w : World} {v0 : Value} {v1 : Value} (hA : AvOK A0 w) (h0 : Rep zA1 A0 w v0 p0) (h1 : Rep zA1 A0 w v1 p1) :
    Calls Try.prog 108 #[v0,v1] w fun e w'=>∃ v,e = .returned v∧(v = .bool r∧Fr w w'):=by
  unfold zDI at hr
  obtain ⟨w0,hw0⟩:∃ w0,w0=w:=⟨_,rfl⟩
  have hF:Fr w0 w:=hw0 ▸ Fr.refl _
  have hA0:∀ b o,A0 b o→b<w0.heap.size:=fun b o h=>hw0 ▸ hA b o h
  have hA00:AvOK A0 w0:=hA0
  rw [show Fr w=Fr w0 from hw0 ▸ rfl]
  clear hw0
  obtain ⟨A,hAe⟩:∃ A,A=A0:=⟨_,rfl⟩
  have hAA:∀ b o,A0 b o→A b o:=fun b o h=>hAe ▸ h
  replace hA:AvOK A w:=hAe ▸ hA
  have hO:IniOK [] A w:=IniOK.nil
  refine zAI [.tmp 4] Try.func108 Try.ntmps108 (by decide) rfl rfl (Nat.le_of_ble_eq_true rfl) ?_
  intro R hR
  have f_v0:Rep zA1 A w v0 p0:=hAe ▸ h0
  replace h0:R 0=v0:=hR 0 _ rfl
  have f_v1:Rep zA1 A w v1 p1:=hAe ▸ h1
  replace h1:R 1=v1:=hR 1 _ rfl
  clear hR hAe
  refine HT.seq ?_
  refine HT.textR [] (⟨_,true,[],some (.box w0.heap.size 82 zA1 p0),true,fun A=>.any⟩::⟨_,true,[],some (.box w0.heap.size 82 zA1 p1),true,fun A=>.any⟩::⟨_,true,[],none,true,fun A=>.raw (.bool false)⟩::[]) (by kernel_rfl) (by kernel_rfl) (Wf.mk' (by kernel_rfl) (UAll.cons zAG (UAll.cons zAG (UAll.cons zAA (UAll.nil)))) (by kernel_rfl) (by kernel_rfl)) hO hA ?_ ?_
  · exact
      zA9.cons (OblR.made _ rfl rfl rfl rfl fun A' R' w' ho hd=>by have a0:R' 0=v0:=(ho.old 0 rfl).trans h0;have ra0:=(f_v0.stp ho.stp).eq a0;exact zB9 ra0 (Nat.le_trans hF.size ho.ch.size)) <|
      zA9.cons (OblR.made _ rfl rfl rfl rfl fun A' R' w' ho hd=>by have a0:R' 1=v1:=(ho.old 1 rfl).trans h1;have ra0:=(f_v1.stp ho.stp).eq a0;exact zB9 ra0 (Nat.le_trans hF.size ho.ch.size)) <|
      zA9.cons (OblR.plain rfl rfl rfl rfl fun A' R' w' ho hd=>by exact zA6 rfl) <|
      zA9.nil
  intro done ρ σ A R w hdn hI
  obtain ⟨b2_0,e_b2_0⟩:=hI.boxv hdn 0 rfl rfl
  have h2:R 2=(.pointer (some ⟨b2_0,0,none⟩)):=(hI.opvR hdn 0 0 rfl rfl rfl rfl rfl).symm.trans e_b2_0
  obtain ⟨b3_1,e_b3_1⟩:=hI.boxv hdn 1 rfl rfl
  have h3:R 3=(.pointer (some ⟨b3_1,0,none⟩)):=(hI.opvR hdn 1 1 rfl rfl rfl rfl rfl).symm.trans e_b3_1
  replace hAA:=hI.low' hAA hA0 (hO.ge (trivial))
  replace hF:Fr w0 w:=hF.tr hI.ch (hO.ge (trivial))
  replace hO:IniOK [ob (.pointer (some ⟨b2_0,0,none⟩)) (.box w0.heap.size 82 zA1 p0),ob (.pointer (some ⟨b3_1,0,none⟩)) (.box w0.heap.size 82 zA1 p1)] A w:=hI.left hdn [(0,ob (.pointer (some ⟨b2_0,0,none⟩)) (.box w0.heap.size 82 zA1 p0)),(1,ob (.pointer (some ⟨b3_1,0,none⟩)) (.box w0.heap.size 82 zA1 p1))] ⟨rfl,rfl,e_b2_0,rfl,rfl,⟨rfl,rfl,e_b3_1,rfl,rfl,trivial⟩⟩
  replace hA:=hI.avok
  clear hI
  refine HT.seq ?_
  refine HT.seq ?_
  refine HT.text (l:=⟨_,true,.raw (.pointer (some ⟨b2_0,0,none⟩))⟩::⟨_,true,.raw (.int .i64 p0.1)⟩::⟨_,true,.raw (.pointer (some ⟨b3_1,0,none⟩))⟩::⟨_,true,.raw (.int .i64 p1.1)⟩::⟨_,true,.raw (.bool (p0.1 != p1.1))⟩::[]) (tl:=[]) (by kernel_rfl) (by kernel_rfl) (by kernel_rfl) ?_ ?_
  · exact
      Obls.cons (Obl.plain rfl rfl fun R' w' hw hs hd=>by have a0:R' 2=(.pointer (some ⟨b2_0,0,none⟩)):=(hs 2 rfl).trans h2;exact zAB a0 zCS Try.sizeOf3 (by decide) rfl) <|
      Obls.cons (Obl.plain rfl rfl fun R' w' hw hs hd=>by have a0:R' 5=(.pointer (some ⟨b2_0,0,none⟩)):=hd 0 _ _ _ rfl rfl rfl rfl rfl;exact OpF.int (zAD ((hO.fr hw).ok 0 _ rfl).1 a0 zAz rfl Try.isAgg3 Try.sizeOf3)) <|
      Obls.cons (Obl.plain rfl rfl fun R' w' hw hs hd=>by have a0:R' 3=(.pointer (some ⟨b3_1,0,none⟩)):=(hs 3 rfl).trans h3;exact zAB a0 zCS Try.sizeOf3 (by decide) rfl) <|
      Obls.cons (Obl.plain rfl rfl fun R' w' hw hs hd=>by have a0:R' 7=(.pointer (some ⟨b3_1,0,none⟩)):=hd 0 _ _ _ rfl rfl rfl rfl rfl;exact OpF.int (zAD ((hO.fr hw).ok 1 _ rfl).1 a0 zAz rfl Try.isAgg3 Try.sizeOf3)) <|
      Obls.cons (Obl.plain rfl rfl fun R' w' hw hs hd=>by have a0:R' 6 = .int .i64 p0.1:=hd 0 _ _ _ rfl rfl rfl rfl rfl;have a1:R' 8 = .int .i64 p1.1:=hd 1 _ _ _ rfl rfl rfl rfl rfl;exact zDK a0 a1) <|
      Obls.nil
  intro R w hw hs hF'
  replace h2:R 2=(.pointer (some ⟨b2_0,0,none⟩)):=(hs 2 rfl).trans h2
  replace h3:R 3=(.pointer (some ⟨b3_1,0,none⟩)):=(hs 3 rfl).trans h3
  have h9:R 9 = .bool (p0.1 != p1.1):=hF' 4 _ _ rfl rfl rfl
  replace hO:=hO.fr hw
  replace hA:=hA.fr hw.size
  replace hF:=hF.trans hw
  clear hs hF' hw
  refine zA4 ?_
  refine HT.cond (p0.1 != p1.1) h9 (fun c3=>?_) (fun c3=>?_)
  · have hr := zAq c3 hr
    refine HT.seq ?_
    refine HT.text (l:=⟨_,true,.raw (.bool false)⟩::[]) (tl:=[]) (by kernel_rfl) (by kernel_rfl) (by kernel_rfl) ?_ ?_
    · exact
        Obls.cons (Obl.plain rfl rfl fun R' w' hw hs hd=>by exact zA6 rfl) <|
        Obls.nil
    intro R w hw hs hF'
    have h4:R 4 = .bool false:=hF' 0 _ _ rfl rfl rfl
    replace hO:=hO.fr hw
    replace hO:IniOK [] A w:=hO.sub [] trivial
    replace hA:=hA.fr hw.size
    replace hF:=hF.trans hw
    clear hs hF' hw
    refine zA4 ?_
    refine HT.ret ?_
    obtain rfl:=Option.some.inj hr
    exact ⟨.inr rfl,[R 4],⟨rfl,trivial⟩,h4,hF⟩
  · have hr := zAp c3 hr
    refine HT.skip ?_
    refine HT.seq ?_
    refine HT.seq ?_
    refine HT.text (l:=⟨_,true,.raw (.pointer (some ⟨b2_0,1,none⟩))⟩::⟨_,true,.raw (.int .i64 p0.2.1)⟩::⟨_,true,.raw (.pointer (some ⟨b3_1,1,none⟩))⟩::⟨_,true,.raw (.int .i64 p1.2.1)⟩::⟨_,true,.raw (.bool (p0.2.1 != p1.2.1))⟩::[]) (tl:=[]) (by kernel_rfl) (by kernel_rfl) (by kernel_rfl) ?_ ?_
    · exact
        Obls.cons (Obl.plain rfl rfl fun R' w' hw hs hd=>by have a0:R' 2=(.pointer (some ⟨b2_0,0,none⟩)):=(hs 2 rfl).trans h2;exact zAB a0 zDX Try.sizeOf3 (by decide) rfl) <|
        Obls.cons (Obl.plain rfl rfl fun R' w' hw hs hd=>by have a0:R' 10=(.pointer (some ⟨b2_0,1,none⟩)):=hd 0 _ _ _ rfl rfl rfl rfl rfl;exact OpF.int (zAD ((hO.fr hw).ok 0 _ rfl).1 a0 zBH rfl Try.isAgg3 Try.sizeOf3)) <|
        Obls.cons (Obl.plain rfl rfl fun R' w' hw hs hd=>by have a0:R' 3=(.pointer (some ⟨b3_1,0,none⟩)):=(hs 3 rfl).trans h3;exact zAB a0 zDX Try.sizeOf3 (by decide) rfl) <|
        Obls.cons (Obl.plain rfl rfl fun R' w' hw hs hd=>by have a0:R' 12=(.pointer (some ⟨b3_1,1,none⟩)):=hd 0 _ _ _ rfl rfl rfl rfl rfl;exact OpF.int (zAD ((hO.fr hw).ok 1 _ rfl).1 a0 zBH rfl Try.isAgg3 Try.sizeOf3)) <|
        Obls.cons (Obl.plain rfl rfl fun R' w' hw hs hd=>by have a0:R' 11 = .int .i64 p0.2.1:=hd 0 _ _ _ rfl rfl rfl rfl rfl;have a1:R' 13 = .int .i64 p1.2.1:=hd 1 _ _ _ rfl rfl rfl rfl rfl;exact zDK a0 a1) <|
        Obls.nil
    intro R w hw hs hF'
    replace h2:R 2=(.pointer (some ⟨b2_0,0,none⟩)):=(hs 2 rfl).trans h2
    replace h3:R 3=(.pointer (some ⟨b3_1,0,none⟩)):=(hs 3 rfl).trans h3
    have h14:R 14 = .bool (p0.2.1 != p1.2.1):=hF' 4 _ _ rfl rfl rfl
    replace hO:=hO.fr hw
    replace hA:=hA.fr hw.size
    replace hF:=hF.trans hw
    clear hs hF' hw
    refine zA4 ?_
    refine HT.cond (p0.2.1 != p1.2.1) h14 (fun c4=>?_) (fun c4=>?_)
    · have hr := zAq c4 hr
      refine HT.seq ?_
      refine HT.text (l:=⟨_,true,.raw (.bool false)⟩::[]) (tl:=[]) (by kernel_rfl) (by kernel_rfl) (by kernel_rfl) ?_ ?_
      · exact
          Obls.cons (Obl.plain rfl rfl fun R' w' hw hs hd=>by exact zA6 rfl) <|
          Obls.nil
      intro R w hw hs hF'
      have h4:R 4 = .bool false:=hF' 0 _ _ rfl rfl rfl
      replace hO:=hO.fr hw
      replace hO:IniOK [] A w:=hO.sub [] trivial
      replace hA:=hA.fr hw.size
      replace hF:=hF.trans hw
      clear hs hF' hw
      refine zA4 ?_
      refine HT.ret ?_
      obtain rfl:=Option.some.inj hr
      exact ⟨.inr rfl,[R 4],⟨rfl,trivial⟩,h4,hF⟩
    · have hr := zAp c4 hr
      refine HT.skip ?_
      refine HT.seq ?_
      refine HT.seq ?_
      refine HT.text (l:=⟨_,true,.raw (.pointer (some ⟨b2_0,2,none⟩))⟩::⟨_,true,.raw (.bool p0.2.2)⟩::⟨_,true,.raw (.pointer (some ⟨b3_1,2,none⟩))⟩::⟨_,true,.raw (.bool p1.2.2)⟩::⟨_,true,.raw (.bool (p0.2.2 != p1.2.2))⟩::[]) (tl:=[]) (by kernel_rfl) (by kernel_rfl) (by kernel_rfl) ?_ ?_
      · exact
          Obls.cons (Obl.plain rfl rfl fun R' w' hw hs hd=>by have a0:R' 2=(.pointer (some ⟨b2_0,0,none⟩)):=(hs 2 rfl).trans h2;exact zAB a0 zEb Try.sizeOf4 (by decide) rfl) <|
          Obls.cons (Obl.plain rfl rfl fun R' w' hw hs hd=>by have a0:R' 15=(.pointer (some ⟨b2_0,2,none⟩)):=hd 0 _ _ _ rfl rfl rfl rfl rfl;exact OpF.bool (zAD ((hO.fr hw).ok 0 _ rfl).1 a0 zCv rfl Try.isAgg4 Try.sizeOf4)) <|
          Obls.cons (Obl.plain rfl rfl fun R' w' hw hs hd=>by have a0:R' 3=(.pointer (some ⟨b3_1,0,none⟩)):=(hs 3 rfl).trans h3;exact zAB a0 zEb Try.sizeOf4 (by decide) rfl) <|
          Obls.cons (Obl.plain rfl rfl fun R' w' hw hs hd=>by have a0:R' 17=(.pointer (some ⟨b3_1,2,none⟩)):=hd 0 _ _ _ rfl rfl rfl rfl rfl;exact OpF.bool (zAD ((hO.fr hw).ok 1 _ rfl).1 a0 zCv rfl Try.isAgg4 Try.sizeOf4)) <|
          Obls.cons (Obl.plain rfl rfl fun R' w' hw hs hd=>by have a0:R' 16 = .bool p0.2.2:=hd 0 _ _ _ rfl rfl rfl rfl rfl;have a1:R' 18 = .bool p1.2.2:=hd 1 _ _ _ rfl rfl rfl rfl rfl;exact zGQ Try.underlying4 a0 a1) <|
          Obls.nil
      intro R w hw hs hF'
      have h19:R 19 = .bool (p0.2.2 != p1.2.2):=hF' 4 _ _ rfl rfl rfl
      replace hO:=hO.fr hw
      replace hO:IniOK [] A w:=hO.sub [] trivial
      replace hA:=hA.fr hw.size
      replace hF:=hF.trans hw
      clear hs hF' hw
      refine zA4 ?_
      refine HT.cond (p0.2.2 != p1.2.2) h19 (fun c5=>?_) (fun c5=>?_)
      · have hr := zAq c5 hr
        refine HT.seq ?_
        refine HT.text (l:=⟨_,true,.raw (.bool false)⟩::[]) (tl:=[]) (by kernel_rfl) (by kernel_rfl) (by kernel_rfl) ?_ ?_
        · exact
            Obls.cons (Obl.plain rfl rfl fun R' w' hw hs hd=>by exact zA6 rfl) <|
            Obls.nil
        intro R w hw hs hF'
        have h4:R 4 = .bool false:=hF' 0 _ _ rfl rfl rfl
        replace hO:=hO.fr hw
        replace hA:=hA.fr hw.size
        replace hF:=hF.trans hw
        clear hs hF' hw
        refine zA4 ?_
        refine HT.ret ?_
        obtain rfl:=Option.some.inj hr
        exact ⟨.inr rfl,[R 4],⟨rfl,trivial⟩,h4,hF⟩
      · have hr := zAp c5 hr
        refine HT.skip ?_
        refine HT.seq ?_
        refine HT.text (l:=⟨_,true,.raw (.bool true)⟩::[]) (tl:=[]) (by kernel_rfl) (by kernel_rfl) (by kernel_rfl) ?_ ?_
        · exact
            Obls.cons (Obl.plain rfl rfl fun R' w' hw hs hd=>by exact zA6 rfl) <|
            Obls.nil
        intro R w hw hs hF'
        have h4:R 4 = .bool true:=hF' 0 _ _ rfl rfl rfl
        replace hO:=hO.fr hw
        replace hA:=hA.fr hw.size
        replace hF:=hF.trans hw
        clear hs hF' hw
        refine zA4 ?_
        refine HT.ret ?_
        obtain rfl:=Option.some.inj hr
        exact ⟨.inr rfl,[R 4],⟨rfl,trivial⟩,h4,hF⟩
def zBl (fu : Nat) (p0 : List zA7) (p1 : List zA7) : Nat → Int → Option (Ex Bool Unit)
  | 0,_=>none
  | k+1,y5=>
    bif (decide (y5 < (p0.length : Int))) then (
      ck (inR y5 p0.length) <|
      ck (inR y5 p1.length) <|
      cl true (zDI fu (gtD p0 y5) (gtD p1 y5)) fun x9=>
      bif (!x9) then (
        some (Ex.ret false)
      ) else (
        ck (i64B (y5+(1:Int))) <|
        zBl fu p0 p1 k (y5+(1:Int))
      )
    ) else (
      some (Ex.go ())
    )
def zCo (fu:Nat) (p0:List zA7) (p1:List zA7):Option Bool:=
  bif ((p0.length : Int) != (p1.length : Int)) then (
    some false
  ) else (
    cl true (zBl fu p0 p1 fu (0:Int)) fun rl2=>
    exM rl2 (fun r=>some r) fun s4=>
    some true
  )
set_option maxRecDepth 100000 in
set_option maxHeartbeats 4000000 in
theorem zFk {fu : Nat} {A : Av} {p0 : List zA7} {p1 : List zA7} {r : Bool} (hr : zCo fu p0 p1 = some r) {w : World} {v0 : Value} {v1 : Value} (hA : AvOK A w) (h0 : Rep (eSl zA1) A w v0 p0) (h1 : Rep (eSl zA1) A w v1 p1) :
    Calls Try.prog 92 #[v0,v1] w fun e w'=>∃ v,e = .returned v∧(v = .bool r∧Fr w w'):=by
  unfold zCo at hr
  obtain ⟨w0,hw0⟩:∃ w0,w0=w:=⟨_,rfl⟩
  have hF:Fr w0 w:=hw0 ▸ Fr.refl _
  rw [show Fr w=Fr w0 from hw0 ▸ rfl]
  clear hw0
  refine zAI [.tmp 4] Try.func92 Try.ntmps92 (by decide) rfl rfl (Nat.le_of_ble_eq_true rfl) ?_
  intro R hR
  have f_v0:=h0
  replace h0:R 0=v0:=hR 0 _ rfl
  have f_v1:=h1
  replace h1:R 1=v1:=hR 1 _ rfl
  clear hR
  refine HT.seq ?_
  refine HT.text (l:=⟨_,true,.raw (.bool false)⟩::[]) (tl:=[]) (by kernel_rfl) (by kernel_rfl) (by kernel_rfl) ?_ ?_
  · exact
      Obls.cons (Obl.plain rfl rfl fun R' w' hw hs hd=>by exact zA6 rfl) <|
      Obls.nil
  intro R w hw hs hF'
  replace h0:R 0=v0:=(hs 0 rfl).trans h0
  replace h1:R 1=v1:=(hs 1 rfl).trans h1
  replace f_v0:=f_v0.fr hw
  replace f_v1:=f_v1.fr hw
  replace hA:=hA.fr hw.size
  replace hF:=hF.trans hw
  clear hs hF' hw
  refine zA4 ?_
  refine HT.seq ?_
  refine HT.seq ?_
  refine HT.text (l:=⟨_,true,.raw v0⟩::⟨_,true,.raw (.int .i64 (p0.length:Int))⟩::⟨_,true,.raw v1⟩::⟨_,true,.raw (.int .i64 (p1.length:Int))⟩::⟨_,true,.raw (.bool ((p0.length:Int) != (p1.length:Int)))⟩::[]) (tl:=[]) (by kernel_rfl) (by kernel_rfl) (by kernel_rfl) ?_ ?_
  · exact
      Obls.cons (Obl.plain rfl rfl fun R' w' hw hs hd=>by have a0:R' 0=v0:=(hs 0 rfl).trans h0;exact zA5 a0) <|
      Obls.cons (Obl.plain rfl rfl fun R' w' hw hs hd=>by have a0:R' 6=v0:=hd 0 _ _ _ rfl rfl rfl rfl rfl;have ra0:=(f_v0.fr hw).eq a0;exact zAd (aT:=#[]) ra0 Try.underlying65) <|
      Obls.cons (Obl.plain rfl rfl fun R' w' hw hs hd=>by have a0:R' 1=v1:=(hs 1 rfl).trans h1;exact zA5 a0) <|
      Obls.cons (Obl.plain rfl rfl fun R' w' hw hs hd=>by have a0:R' 8=v1:=hd 0 _ _ _ rfl rfl rfl rfl rfl;have ra0:=(f_v1.fr hw).eq a0;exact zAd (aT:=#[]) ra0 Try.underlying65) <|
      Obls.cons (Obl.plain rfl rfl fun R' w' hw hs hd=>by have a0:R' 7 = .int .i64 (p0.length:Int):=hd 0 _ _ _ rfl rfl rfl rfl rfl;have a1:R' 9 = .int .i64 (p1.length:Int):=hd 1 _ _ _ rfl rfl rfl rfl rfl;exact zDK a0 a1) <|
      Obls.nil
  intro R w hw hs hF'
  replace h0:R 0=v0:=(hs 0 rfl).trans h0
  replace h1:R 1=v1:=(hs 1 rfl).trans h1
  have h10:R 10 = .bool ((p0.length:Int) != (p1.length:Int)):=hF' 4 _ _ rfl rfl rfl
  replace f_v0:=f_v0.fr hw
  replace f_v1:=f_v1.fr hw
  replace hA:=hA.fr hw.size
  replace hF:=hF.trans hw
  clear hs hF' hw
  refine zA4 ?_
  refine HT.cond ((p0.length:Int) != (p1.length:Int)) h10 (fun c1=>?_) (fun c1=>?_)
  · have hr := zAq c1 hr
    refine HT.seq ?_
    refine HT.text (l:=⟨_,true,.raw (.bool false)⟩::[]) (tl:=[]) (by kernel_rfl) (by kernel_rfl) (by kernel_rfl) ?_ ?_
    · exact
        Obls.cons (Obl.plain rfl rfl fun R' w' hw hs hd=>by exact zA6 rfl) <|
        Obls.nil
    intro R w hw hs hF'
    have h4:R 4 = .bool false:=hF' 0 _ _ rfl rfl rfl
    replace hA:=hA.fr hw.size
    replace hF:=hF.trans hw
    clear hs hF' hw
    refine zA4 ?_
    refine HT.ret ?_
    obtain rfl:=Option.some.inj hr
    exact ⟨.inr rfl,[R 4],⟨rfl,trivial⟩,h4,hF⟩
  · have hr := zAp c1 hr
    refine HT.skip ?_
    refine HT.seq ?_
    refine HT.seq ?_
    refine HT.text (l:=⟨_,true,.raw (.int .i64 (0:Int))⟩::[]) (tl:=[]) (by kernel_rfl) (by kernel_rfl) (by kernel_rfl) ?_ ?_
    · exact
        Obls.cons (Obl.plain rfl rfl fun R' w' hw hs hd=>by exact zA6 rfl) <|
        Obls.nil
    intro R w hw hs hF'
    replace h0:R 0=v0:=(hs 0 rfl).trans h0
    replace h1:R 1=v1:=(hs 1 rfl).trans h1
    have h5:R 5 = .int .i64 (0:Int):=hF' 0 _ _ rfl rfl rfl
    replace f_v0:=f_v0.fr hw
    replace f_v1:=f_v1.fr hw
    replace hA:=hA.fr hw.size
    replace hF:=hF.trans hw
    clear hs hF' hw
    refine zA4 ?_
    obtain ⟨rl2,q3,hr⟩:=zAK hr
    replace q3:=q3 rfl
    refine HT.cut0 (fun R w=>∃ (s4:Unit),rl2=Ex.go s4∧AvOK A w∧Fr w0 w) ?_ ?_
    · refine HT.block ?_
      refine HT.loop (fun k R w=>∃ (y5:Int),zBl fu p0 p1 k y5=some rl2∧AvOK A w∧Fr w0 w∧R 0=v0∧R 1=v1∧R 5 = .int .i64 y5∧Rep (eSl zA1) A w v0 p0∧Rep (eSl zA1) A w v1 p1) fu ⟨_,q3,hA,hF,h0,h1,h5,f_v0,f_v1⟩ ?_
      have hr0:=hr;clear hr q3
      rintro k R w ⟨y5,hr,hA,hF,h0,h1,h5,f_v0,f_v1⟩
      rcases k with _ | k
      · cases (show none=some _ from hr)
      rw [zBl] at hr
      refine HT.seq ?_
      refine HT.seq ?_
      refine HT.text (l:=⟨_,true,.raw (.int .i64 y5)⟩::⟨_,true,.raw v0⟩::⟨_,true,.raw (.int .i64 (p0.length:Int))⟩::⟨_,true,.raw (.bool (decide (y5<(p0.length:Int))))⟩::[]) (tl:=[]) (by kernel_rfl) (by kernel_rfl) (by kernel_rfl) ?_ ?_
      · exact
          Obls.cons (Obl.plain rfl rfl fun R' w' hw hs hd=>by have a0:R' 5 = .int .i64 y5:=(hs 5 rfl).trans h5;exact zA5 a0) <|
          Obls.cons (Obl.plain rfl rfl fun R' w' hw hs hd=>by have a0:R' 0=v0:=(hs 0 rfl).trans h0;exact zA5 a0) <|
          Obls.cons (Obl.plain rfl rfl fun R' w' hw hs hd=>by have a0:R' 12=v0:=hd 0 _ _ _ rfl rfl rfl rfl rfl;have ra0:=(f_v0.fr hw).eq a0;exact zAd (aT:=#[]) ra0 Try.underlying65) <|
          Obls.cons (Obl.plain rfl rfl fun R' w' hw hs hd=>by have a0:R' 11 = .int .i64 y5:=hd 0 _ _ _ rfl rfl rfl rfl rfl;have a1:R' 13 = .int .i64 (p0.length:Int):=hd 1 _ _ _ rfl rfl rfl rfl rfl;exact zBI a0 a1) <|
          Obls.nil
      intro R w hw hs hF'
      replace h0:R 0=v0:=(hs 0 rfl).trans h0
      replace h1:R 1=v1:=(hs 1 rfl).trans h1
      replace h5:R 5 = .int .i64 y5:=(hs 5 rfl).trans h5
      have h14:R 14 = .bool (decide (y5<(p0.length:Int))):=hF' 3 _ _ rfl rfl rfl
      replace f_v0:=f_v0.fr hw
      replace f_v1:=f_v1.fr hw
      replace hA:=hA.fr hw.size
      replace hF:=hF.trans hw
      clear hs hF' hw
      refine zA4 ?_
      refine HT.cond (decide (y5<(p0.length:Int))) h14 (fun c6=>?_) (fun c6=>?_)
      · have hr := zAq c6 hr
        refine HT.skip ?_
        refine HT.seq ?_
        refine HT.block ?_
        refine HT.seq ?_
        obtain ⟨e7,hr⟩:=zAF hr
        obtain ⟨e8,hr⟩:=zAF hr
        obtain ⟨x9,q10,hr⟩:=zAK hr
        refine HT.draw (by kernel_rfl) (l:=⟨_,true,.raw v0⟩::⟨_,true,.raw (.int .i64 y5)⟩::⟨_,true,.qtr zA1 A (gtD p0 y5)⟩::⟨_,true,.rep zA1 A (gtD p0 y5)⟩::⟨_,true,.raw v1⟩::⟨_,true,.raw (.int .i64 y5)⟩::⟨_,true,.qtr zA1 A (gtD p1 y5)⟩::⟨_,true,.rep zA1 A (gtD p1 y5)⟩::⟨_,true,.raw (.bool x9)⟩::⟨_,true,.raw (.bool (!x9))⟩::[]) (tl:=[]) (by kernel_rfl) (by kernel_rfl) (by kernel_rfl) (by kernel_rfl) ?_ ?_
        · exact
            Obls.cons (Obl.plain rfl rfl fun R' w' hw hs hd=>by have a0:R' 0=v0:=(hs 0 rfl).trans h0;exact zA5 a0) <|
            Obls.cons (Obl.plain rfl rfl fun R' w' hw hs hd=>by have a0:R' 5 = .int .i64 y5:=(hs 5 rfl).trans h5;exact zA5 a0) <|
            Obls.cons (Obl.plain rfl rfl fun R' w' hw hs hd=>by have a0:R' 17=v0:=hd 0 _ _ _ rfl rfl rfl rfl rfl;have a1:R' 18 = .int .i64 y5:=hd 1 _ _ _ rfl rfl rfl rfl rfl;have ra0:=(f_v0.fr hw).eq a0;exact zAN ra0 a1 Try.underlying65 Try.sizeOf82 e7) <|
            Obls.cons (Obl.plain rfl rfl fun R' w' hw hs hd=>by have a0:QRep zA1 A w' (R' 19) (gtD p0 y5):=hd 0 _ _ _ rfl rfl rfl rfl rfl;exact (zAv a0.ptr Try.isAgg82 Try.sizeOf82)) <|
            Obls.cons (Obl.plain rfl rfl fun R' w' hw hs hd=>by have a0:R' 1=v1:=(hs 1 rfl).trans h1;exact zA5 a0) <|
            Obls.cons (Obl.plain rfl rfl fun R' w' hw hs hd=>by have a0:R' 5 = .int .i64 y5:=(hs 5 rfl).trans h5;exact zA5 a0) <|
            Obls.cons (Obl.plain rfl rfl fun R' w' hw hs hd=>by have a0:R' 21=v1:=hd 0 _ _ _ rfl rfl rfl rfl rfl;have a1:R' 22 = .int .i64 y5:=hd 1 _ _ _ rfl rfl rfl rfl rfl;have ra0:=(f_v1.fr hw).eq a0;exact zAN ra0 a1 Try.underlying65 Try.sizeOf82 e8) <|
            Obls.cons (Obl.plain rfl rfl fun R' w' hw hs hd=>by have a0:QRep zA1 A w' (R' 23) (gtD p1 y5):=hd 0 _ _ _ rfl rfl rfl rfl rfl;exact (zAv a0.ptr Try.isAgg82 Try.sizeOf82)) <|
            Obls.cons (Obl.plain rfl rfl fun R' w' hw hs hd=>by have a0:Rep zA1 A w' (R' 20) (gtD p0 y5):=hd 0 _ _ _ rfl rfl rfl rfl rfl;have a1:Rep zA1 A w' (R' 24) (gtD p1 y5):=hd 1 _ _ _ rfl rfl rfl rfl rfl;exact zAl Try.call108 (zG4 (q10 rfl) (hA.fr hw.size) a0 a1)) <|
            Obls.cons (Obl.plain rfl rfl fun R' w' hw hs hd=>by have a0:R' 25 = .bool x9:=hd 0 _ _ _ rfl rfl rfl rfl rfl;exact zD7 a0) <|
            Obls.nil
        intro R w hw hs hF'
        replace h0:R 0=v0:=(hs 0 rfl).trans h0
        replace h1:R 1=v1:=(hs 1 rfl).trans h1
        replace h5:R 5 = .int .i64 y5:=(hs 5 rfl).trans h5
        have h26:R 26 = .bool (!x9):=hF' 9 _ _ rfl rfl rfl
        replace f_v0:=f_v0.fr hw
        replace f_v1:=f_v1.fr hw
        replace hA:=hA.fr hw.size
        replace hF:=hF.trans hw
        clear hs hF' hw
        refine zA4 ?_
        refine HT.cond (!x9) h26 (fun c11=>?_) (fun c11=>?_)
        · have hr := zAq c11 hr
          refine HT.seq ?_
          refine HT.text (l:=⟨_,true,.raw (.bool false)⟩::[]) (tl:=[]) (by kernel_rfl) (by kernel_rfl) (by kernel_rfl) ?_ ?_
          · exact
              Obls.cons (Obl.plain rfl rfl fun R' w' hw hs hd=>by exact zA6 rfl) <|
              Obls.nil
          intro R w hw hs hF'
          have h4:R 4 = .bool false:=hF' 0 _ _ rfl rfl rfl
          replace hA:=hA.fr hw.size
          replace hF:=hF.trans hw
          clear hs hF' hw
          refine zA4 ?_
          refine HT.ret ?_
          obtain rfl:=Option.some.inj hr
          have hr:=hr0
          replace hr:some _=some _:=hr
          obtain rfl:=Option.some.inj hr
          exact ⟨.inr rfl,[R 4],⟨rfl,trivial⟩,h4,hF⟩
        · have hr := zAp c11 hr
          refine HT.skip ?_
          obtain ⟨e12,hr⟩:=zAF hr
          refine HT.text (l:=⟨_,true,.raw (.int .i64 y5)⟩::⟨_,true,.raw (.int .i64 (y5+(1:Int)))⟩::⟨_,true,.raw (.int .i64 (y5+(1:Int)))⟩::[]) (tl:=[]) (by kernel_rfl) (by kernel_rfl) (by kernel_rfl) ?_ ?_
          · exact
              Obls.cons (Obl.plain rfl rfl fun R' w' hw hs hd=>by have a0:R' 5 = .int .i64 y5:=(hs 5 rfl).trans h5;exact zA5 a0) <|
              Obls.cons (Obl.plain rfl rfl fun R' w' hw hs hd=>by have a0:R' 15 = .int .i64 y5:=hd 0 _ _ _ rfl rfl rfl rfl rfl;exact zB8 a0 rfl e12) <|
              Obls.cons (Obl.plain rfl rfl fun R' w' hw hs hd=>by have a0:R' 16 = .int .i64 (y5+(1:Int)):=hd 0 _ _ _ rfl rfl rfl rfl rfl;exact zA6 a0) <|
              Obls.nil
          intro R w hw hs hF'
          replace h0:R 0=v0:=(hs 0 rfl).trans h0
          replace h1:R 1=v1:=(hs 1 rfl).trans h1
          have h5:R 5 = .int .i64 (y5+(1:Int)):=hF' 2 _ _ rfl rfl rfl
          replace f_v0:=f_v0.fr hw
          replace f_v1:=f_v1.fr hw
          replace hA:=hA.fr hw.size
          replace hF:=hF.trans hw
          clear hs hF' hw
          refine zA4 ?_
          exact Exists.intro k (And.intro (Nat.lt_succ_self k) ⟨_,hr,hA,hF,h0,h1,h5,f_v0,f_v1⟩)
      · have hr := zAp c6 hr
        refine HT.exit ?_
        obtain rfl:=Option.some.inj hr
        exact Exists.intro _ ⟨rfl,hA,hF⟩
    rintro R w ⟨s4,rfl,hA,hF⟩
    have hr:=zDj hr
    refine HT.seq ?_
    refine HT.text (l:=⟨_,true,.raw (.bool true)⟩::[]) (tl:=[]) (by kernel_rfl) (by kernel_rfl) (by kernel_rfl) ?_ ?_
    · exact
        Obls.cons (Obl.plain rfl rfl fun R' w' hw hs hd=>by exact zA6 rfl) <|
        Obls.nil
    intro R w hw hs hF'
    have h4:R 4 = .bool true:=hF' 0 _ _ rfl rfl rfl
    replace hA:=hA.fr hw.size
    replace hF:=hF.trans hw
    clear hs hF' hw
    refine zA4 ?_
    refine HT.ret ?_
    obtain rfl:=Option.some.inj hr
    exact ⟨.inr rfl,[R 4],⟨rfl,trivial⟩,h4,hF⟩
def zDF (fu:Nat) (p0:zAO) (p1:zAO):Option Bool:=
  cl true (zCo fu p0 p1) fun x3=>
  bif (!x3) then (
    some false
  ) else (
    some true
  )
set_option maxRecDepth 100000 in
set_option maxHeartbeats 4000000 in
theorem zGD {fu : Nat} {A0 : Av} {p0 : zAO} {p1 : zAO} {r : Bool} (hr : zDF fu p0 p1 = some r) {w : World} {v0 : Value} {v1 : Value} (hA : AvOK A0 w) (h0 : Rep zAC A0 w v0 p0) (h1 : Rep zAC A0 w v1 p1) :
    Calls Try.prog 63 #[v0,v1] w fun e w'=>∃ v,e = .returned v∧(v = .bool r∧Fr w w'):=by
  unfold zDF at hr
  obtain ⟨w0,hw0⟩:∃ w0,w0=w:=⟨_,rfl⟩
  have hF:Fr w0 w:=hw0 ▸ Fr.refl _
  have hA0:∀ b o,A0 b o→b<w0.heap.size:=fun b o h=>hw0 ▸ hA b o h
  have hA00:AvOK A0 w0:=hA0
  rw [show Fr w=Fr w0 from hw0 ▸ rfl]
  clear hw0
  obtain ⟨A,hAe⟩:∃ A,A=A0:=⟨_,rfl⟩
  have hAA:∀ b o,A0 b o→A b o:=fun b o h=>hAe ▸ h
  replace hA:AvOK A w:=hAe ▸ hA
  have hO:IniOK [] A w:=IniOK.nil
  refine zAI [.tmp 4] Try.func63 Try.ntmps63 (by decide) rfl rfl (Nat.le_of_ble_eq_true rfl) ?_
  intro R hR
  have f_v0:Rep zAC A w v0 p0:=hAe ▸ h0
  replace h0:R 0=v0:=hR 0 _ rfl
  have f_v1:Rep zAC A w v1 p1:=hAe ▸ h1
  replace h1:R 1=v1:=hR 1 _ rfl
  clear hR hAe
  refine HT.seq ?_
  refine HT.textR [] (⟨_,true,[],some (.box w0.heap.size 79 zAC p0),true,fun A=>.any⟩::⟨_,true,[],some (.box w0.heap.size 79 zAC p1),true,fun A=>.any⟩::⟨_,true,[],none,true,fun A=>.raw (.bool false)⟩::[]) (by kernel_rfl) (by kernel_rfl) (Wf.mk' (by kernel_rfl) (UAll.cons zAG (UAll.cons zAG (UAll.cons zAA (UAll.nil)))) (by kernel_rfl) (by kernel_rfl)) hO hA ?_ ?_
  · exact
      zA9.cons (OblR.made _ rfl rfl rfl rfl fun A' R' w' ho hd=>by have a0:R' 0=v0:=(ho.old 0 rfl).trans h0;have ra0:=(f_v0.stp ho.stp).eq a0;exact zB9 ra0 (Nat.le_trans hF.size ho.ch.size)) <|
      zA9.cons (OblR.made _ rfl rfl rfl rfl fun A' R' w' ho hd=>by have a0:R' 1=v1:=(ho.old 1 rfl).trans h1;have ra0:=(f_v1.stp ho.stp).eq a0;exact zB9 ra0 (Nat.le_trans hF.size ho.ch.size)) <|
      zA9.cons (OblR.plain rfl rfl rfl rfl fun A' R' w' ho hd=>by exact zA6 rfl) <|
      zA9.nil
  intro done ρ σ A R w hdn hI
  obtain ⟨b2_0,e_b2_0⟩:=hI.boxv hdn 0 rfl rfl
  have h2:R 2=(.pointer (some ⟨b2_0,0,none⟩)):=(hI.opvR hdn 0 0 rfl rfl rfl rfl rfl).symm.trans e_b2_0
  obtain ⟨b3_1,e_b3_1⟩:=hI.boxv hdn 1 rfl rfl
  have h3:R 3=(.pointer (some ⟨b3_1,0,none⟩)):=(hI.opvR hdn 1 1 rfl rfl rfl rfl rfl).symm.trans e_b3_1
  replace hAA:=hI.low' hAA hA0 (hO.ge (trivial))
  replace hF:Fr w0 w:=hF.tr hI.ch (hO.ge (trivial))
  replace hO:IniOK [ob (.pointer (some ⟨b2_0,0,none⟩)) (.box w0.heap.size 79 zAC p0),ob (.pointer (some ⟨b3_1,0,none⟩)) (.box w0.heap.size 79 zAC p1)] A w:=hI.left hdn [(0,ob (.pointer (some ⟨b2_0,0,none⟩)) (.box w0.heap.size 79 zAC p0)),(1,ob (.pointer (some ⟨b3_1,0,none⟩)) (.box w0.heap.size 79 zAC p1))] ⟨rfl,rfl,e_b2_0,rfl,rfl,⟨rfl,rfl,e_b3_1,rfl,rfl,trivial⟩⟩
  replace hA:=hI.avok
  clear hI
  refine HT.seq ?_
  refine HT.seq ?_
  obtain ⟨x3,q4,hr⟩:=zAK hr
  refine HT.text (l:=⟨_,true,.raw (.pointer (some ⟨b2_0,0,none⟩))⟩::⟨_,true,.rep (eSl zA1) A p0⟩::⟨_,true,.raw (.pointer (some ⟨b3_1,0,none⟩))⟩::⟨_,true,.rep (eSl zA1) A p1⟩::⟨_,true,.raw (.bool x3)⟩::⟨_,true,.raw (.bool (!x3))⟩::[]) (tl:=[]) (by kernel_rfl) (by kernel_rfl) (by kernel_rfl) ?_ ?_
  · exact
      Obls.cons (Obl.plain rfl rfl fun R' w' hw hs hd=>by have a0:R' 2=(.pointer (some ⟨b2_0,0,none⟩)):=(hs 2 rfl).trans h2;exact zAB a0 zDV Try.sizeOf65 (by decide) rfl) <|
      Obls.cons (Obl.plain rfl rfl fun R' w' hw hs hd=>by have a0:R' 5=(.pointer (some ⟨b2_0,0,none⟩)):=hd 0 _ _ _ rfl rfl rfl rfl rfl;exact (zAD ((hO.fr hw).ok 0 _ rfl).1 a0 zBM rfl Try.isAgg65 Try.sizeOf65)) <|
      Obls.cons (Obl.plain rfl rfl fun R' w' hw hs hd=>by have a0:R' 3=(.pointer (some ⟨b3_1,0,none⟩)):=(hs 3 rfl).trans h3;exact zAB a0 zDV Try.sizeOf65 (by decide) rfl) <|
      Obls.cons (Obl.plain rfl rfl fun R' w' hw hs hd=>by have a0:R' 7=(.pointer (some ⟨b3_1,0,none⟩)):=hd 0 _ _ _ rfl rfl rfl rfl rfl;exact (zAD ((hO.fr hw).ok 1 _ rfl).1 a0 zBM rfl Try.isAgg65 Try.sizeOf65)) <|
      Obls.cons (Obl.plain rfl rfl fun R' w' hw hs hd=>by have a0:Rep (eSl zA1) A w' (R' 6) p0:=hd 0 _ _ _ rfl rfl rfl rfl rfl;have a1:Rep (eSl zA1) A w' (R' 8) p1:=hd 1 _ _ _ rfl rfl rfl rfl rfl;exact zAl Try.call92 (zFk (q4 rfl) (hA.fr hw.size) a0 a1)) <|
      Obls.cons (Obl.plain rfl rfl fun R' w' hw hs hd=>by have a0:R' 9 = .bool x3:=hd 0 _ _ _ rfl rfl rfl rfl rfl;exact zD7 a0) <|
      Obls.nil
  intro R w hw hs hF'
  have h10:R 10 = .bool (!x3):=hF' 5 _ _ rfl rfl rfl
  replace hO:=hO.fr hw
  replace hO:IniOK [] A w:=hO.sub [] trivial
  replace hA:=hA.fr hw.size
  replace hF:=hF.trans hw
  clear hs hF' hw
  refine zA4 ?_
  refine HT.cond (!x3) h10 (fun c5=>?_) (fun c5=>?_)
  · have hr := zAq c5 hr
    refine HT.seq ?_
    refine HT.text (l:=⟨_,true,.raw (.bool false)⟩::[]) (tl:=[]) (by kernel_rfl) (by kernel_rfl) (by kernel_rfl) ?_ ?_
    · exact
        Obls.cons (Obl.plain rfl rfl fun R' w' hw hs hd=>by exact zA6 rfl) <|
        Obls.nil
    intro R w hw hs hF'
    have h4:R 4 = .bool false:=hF' 0 _ _ rfl rfl rfl
    replace hO:=hO.fr hw
    replace hA:=hA.fr hw.size
    replace hF:=hF.trans hw
    clear hs hF' hw
    refine zA4 ?_
    refine HT.ret ?_
    obtain rfl:=Option.some.inj hr
    exact ⟨.inr rfl,[R 4],⟨rfl,trivial⟩,h4,hF⟩
  · have hr := zAp c5 hr
    refine HT.skip ?_
    refine HT.seq ?_
    refine HT.text (l:=⟨_,true,.raw (.bool true)⟩::[]) (tl:=[]) (by kernel_rfl) (by kernel_rfl) (by kernel_rfl) ?_ ?_
    · exact
        Obls.cons (Obl.plain rfl rfl fun R' w' hw hs hd=>by exact zA6 rfl) <|
        Obls.nil
    intro R w hw hs hF'
    have h4:R 4 = .bool true:=hF' 0 _ _ rfl rfl rfl
    replace hO:=hO.fr hw
    replace hA:=hA.fr hw.size
    replace hF:=hF.trans hw
    clear hs hF' hw
    refine zA4 ?_
    refine HT.ret ?_
    obtain rfl:=Option.some.inj hr
    exact ⟨.inr rfl,[R 4],⟨rfl,trivial⟩,h4,hF⟩
def zBm (fu : Nat) (p0 : List zAO) (p1 : List zAO) : Nat → Int → Option (Ex Bool Unit)
  | 0,_=>none
  | k+1,y5=>
    bif (decide (y5 < (p0.length : Int))) then (
      ck (inR y5 p0.length) <|
      ck (inR y5 p1.length) <|
      cl true (zDF fu (gtD p0 y5) (gtD p1 y5)) fun x9=>
      bif (!x9) then (
        some (Ex.ret false)
      ) else (
        ck (i64B (y5+(1:Int))) <|
        zBm fu p0 p1 k (y5+(1:Int))
      )
    ) else (
      some (Ex.go ())
    )
def zCy (fu:Nat) (p0:List zAO) (p1:List zAO):Option Bool:=
  bif ((p0.length : Int) != (p1.length : Int)) then (
    some false
  ) else (
    cl true (zBm fu p0 p1 fu (0:Int)) fun rl2=>
    exM rl2 (fun r=>some r) fun s4=>
    some true
  )
set_option maxRecDepth 100000 in
set_option maxHeartbeats 4000000 in
theorem zFe {fu : Nat} {A : Av} {p0 : List zAO} {p1 : List zAO} {r : Bool} (hr : zCy fu p0 p1 = some r) {w : World} {v0 : Value} {v1 : Value} (hA : AvOK A w) (h0 : Rep (eSl zAC) A w v0 p0) (h1 : Rep (eSl zAC) A w v1 p1) :
    Calls Try.prog 35 #[v0,v1] w fun e w'=>∃ v,e = .returned v∧(v = .bool r∧Fr w w'):=by
  unfold zCy at hr
  obtain ⟨w0,hw0⟩:∃ w0,w0=w:=⟨_,rfl⟩
  have hF:Fr w0 w:=hw0 ▸ Fr.refl _
  rw [show Fr w=Fr w0 from hw0 ▸ rfl]
  clear hw0
  refine zAI [.tmp 4] Try.func35 Try.ntmps35 (by decide) rfl rfl (Nat.le_of_ble_eq_true rfl) ?_
  intro R hR
  have f_v0:=h0
  replace h0:R 0=v0:=hR 0 _ rfl
  have f_v1:=h1
  replace h1:R 1=v1:=hR 1 _ rfl
  clear hR
  refine HT.seq ?_
  refine HT.text (l:=⟨_,true,.raw (.bool false)⟩::[]) (tl:=[]) (by kernel_rfl) (by kernel_rfl) (by kernel_rfl) ?_ ?_
  · exact
      Obls.cons (Obl.plain rfl rfl fun R' w' hw hs hd=>by exact zA6 rfl) <|
      Obls.nil
  intro R w hw hs hF'
  replace h0:R 0=v0:=(hs 0 rfl).trans h0
  replace h1:R 1=v1:=(hs 1 rfl).trans h1
  replace f_v0:=f_v0.fr hw
  replace f_v1:=f_v1.fr hw
  replace hA:=hA.fr hw.size
  replace hF:=hF.trans hw
  clear hs hF' hw
  refine zA4 ?_
  refine HT.seq ?_
  refine HT.seq ?_
  refine HT.text (l:=⟨_,true,.raw v0⟩::⟨_,true,.raw (.int .i64 (p0.length:Int))⟩::⟨_,true,.raw v1⟩::⟨_,true,.raw (.int .i64 (p1.length:Int))⟩::⟨_,true,.raw (.bool ((p0.length:Int) != (p1.length:Int)))⟩::[]) (tl:=[]) (by kernel_rfl) (by kernel_rfl) (by kernel_rfl) ?_ ?_
  · exact
      Obls.cons (Obl.plain rfl rfl fun R' w' hw hs hd=>by have a0:R' 0=v0:=(hs 0 rfl).trans h0;exact zA5 a0) <|
      Obls.cons (Obl.plain rfl rfl fun R' w' hw hs hd=>by have a0:R' 6=v0:=hd 0 _ _ _ rfl rfl rfl rfl rfl;have ra0:=(f_v0.fr hw).eq a0;exact zAd (aT:=#[]) ra0 Try.underlying27) <|
      Obls.cons (Obl.plain rfl rfl fun R' w' hw hs hd=>by have a0:R' 1=v1:=(hs 1 rfl).trans h1;exact zA5 a0) <|
      Obls.cons (Obl.plain rfl rfl fun R' w' hw hs hd=>by have a0:R' 8=v1:=hd 0 _ _ _ rfl rfl rfl rfl rfl;have ra0:=(f_v1.fr hw).eq a0;exact zAd (aT:=#[]) ra0 Try.underlying27) <|
      Obls.cons (Obl.plain rfl rfl fun R' w' hw hs hd=>by have a0:R' 7 = .int .i64 (p0.length:Int):=hd 0 _ _ _ rfl rfl rfl rfl rfl;have a1:R' 9 = .int .i64 (p1.length:Int):=hd 1 _ _ _ rfl rfl rfl rfl rfl;exact zDK a0 a1) <|
      Obls.nil
  intro R w hw hs hF'
  replace h0:R 0=v0:=(hs 0 rfl).trans h0
  replace h1:R 1=v1:=(hs 1 rfl).trans h1
  have h10:R 10 = .bool ((p0.length:Int) != (p1.length:Int)):=hF' 4 _ _ rfl rfl rfl
  replace f_v0:=f_v0.fr hw
  replace f_v1:=f_v1.fr hw
  replace hA:=hA.fr hw.size
  replace hF:=hF.trans hw
  clear hs hF' hw
  refine zA4 ?_
  refine HT.cond ((p0.length:Int) != (p1.length:Int)) h10 (fun c1=>?_) (fun c1=>?_)
  · have hr := zAq c1 hr
    refine HT.seq ?_
    refine HT.text (l:=⟨_,true,.raw (.bool false)⟩::[]) (tl:=[]) (by kernel_rfl) (by kernel_rfl) (by kernel_rfl) ?_ ?_
    · exact
        Obls.cons (Obl.plain rfl rfl fun R' w' hw hs hd=>by exact zA6 rfl) <|
        Obls.nil
    intro R w hw hs hF'
    have h4:R 4 = .bool false:=hF' 0 _ _ rfl rfl rfl
    replace hA:=hA.fr hw.size
    replace hF:=hF.trans hw
    clear hs hF' hw
    refine zA4 ?_
    refine HT.ret ?_
    obtain rfl:=Option.some.inj hr
    exact ⟨.inr rfl,[R 4],⟨rfl,trivial⟩,h4,hF⟩
  · have hr := zAp c1 hr
    refine HT.skip ?_
    refine HT.seq ?_
    refine HT.seq ?_
    refine HT.text (l:=⟨_,true,.raw (.int .i64 (0:Int))⟩::[]) (tl:=[]) (by kernel_rfl) (by kernel_rfl) (by kernel_rfl) ?_ ?_
    · exact
        Obls.cons (Obl.plain rfl rfl fun R' w' hw hs hd=>by exact zA6 rfl) <|
        Obls.nil
    intro R w hw hs hF'
    replace h0:R 0=v0:=(hs 0 rfl).trans h0
    replace h1:R 1=v1:=(hs 1 rfl).trans h1
    have h5:R 5 = .int .i64 (0:Int):=hF' 0 _ _ rfl rfl rfl
    replace f_v0:=f_v0.fr hw
    replace f_v1:=f_v1.fr hw
    replace hA:=hA.fr hw.size
    replace hF:=hF.trans hw
    clear hs hF' hw
    refine zA4 ?_
    obtain ⟨rl2,q3,hr⟩:=zAK hr
    replace q3:=q3 rfl
    refine HT.cut0 (fun R w=>∃ (s4:Unit),rl2=Ex.go s4∧AvOK A w∧Fr w0 w) ?_ ?_
    · refine HT.block ?_
      refine HT.loop (fun k R w=>∃ (y5:Int),zBm fu p0 p1 k y5=some rl2∧AvOK A w∧Fr w0 w∧R 0=v0∧R 1=v1∧R 5 = .int .i64 y5∧Rep (eSl zAC) A w v0 p0∧Rep (eSl zAC) A w v1 p1) fu ⟨_,q3,hA,hF,h0,h1,h5,f_v0,f_v1⟩ ?_
      have hr0:=hr;clear hr q3
      rintro k R w ⟨y5,hr,hA,hF,h0,h1,h5,f_v0,f_v1⟩
      rcases k with _ | k
      · cases (show none=some _ from hr)
      rw [zBm] at hr
      refine HT.seq ?_
      refine HT.seq ?_
      refine HT.text (l:=⟨_,true,.raw (.int .i64 y5)⟩::⟨_,true,.raw v0⟩::⟨_,true,.raw (.int .i64 (p0.length:Int))⟩::⟨_,true,.raw (.bool (decide (y5<(p0.length:Int))))⟩::[]) (tl:=[]) (by kernel_rfl) (by kernel_rfl) (by kernel_rfl) ?_ ?_
      · exact
          Obls.cons (Obl.plain rfl rfl fun R' w' hw hs hd=>by have a0:R' 5 = .int .i64 y5:=(hs 5 rfl).trans h5;exact zA5 a0) <|
          Obls.cons (Obl.plain rfl rfl fun R' w' hw hs hd=>by have a0:R' 0=v0:=(hs 0 rfl).trans h0;exact zA5 a0) <|
          Obls.cons (Obl.plain rfl rfl fun R' w' hw hs hd=>by have a0:R' 12=v0:=hd 0 _ _ _ rfl rfl rfl rfl rfl;have ra0:=(f_v0.fr hw).eq a0;exact zAd (aT:=#[]) ra0 Try.underlying27) <|
          Obls.cons (Obl.plain rfl rfl fun R' w' hw hs hd=>by have a0:R' 11 = .int .i64 y5:=hd 0 _ _ _ rfl rfl rfl rfl rfl;have a1:R' 13 = .int .i64 (p0.length:Int):=hd 1 _ _ _ rfl rfl rfl rfl rfl;exact zBI a0 a1) <|
          Obls.nil
      intro R w hw hs hF'
      replace h0:R 0=v0:=(hs 0 rfl).trans h0
      replace h1:R 1=v1:=(hs 1 rfl).trans h1
      replace h5:R 5 = .int .i64 y5:=(hs 5 rfl).trans h5
      have h14:R 14 = .bool (decide (y5<(p0.length:Int))):=hF' 3 _ _ rfl rfl rfl
      replace f_v0:=f_v0.fr hw
      replace f_v1:=f_v1.fr hw
      replace hA:=hA.fr hw.size
      replace hF:=hF.trans hw
      clear hs hF' hw
      refine zA4 ?_
      refine HT.cond (decide (y5<(p0.length:Int))) h14 (fun c6=>?_) (fun c6=>?_)
      · have hr := zAq c6 hr
        refine HT.skip ?_
        refine HT.seq ?_
        refine HT.block ?_
        refine HT.seq ?_
        obtain ⟨e7,hr⟩:=zAF hr
        obtain ⟨e8,hr⟩:=zAF hr
        obtain ⟨x9,q10,hr⟩:=zAK hr
        refine HT.draw (by kernel_rfl) (l:=⟨_,true,.raw v0⟩::⟨_,true,.raw (.int .i64 y5)⟩::⟨_,true,.qtr zAC A (gtD p0 y5)⟩::⟨_,true,.rep zAC A (gtD p0 y5)⟩::⟨_,true,.raw v1⟩::⟨_,true,.raw (.int .i64 y5)⟩::⟨_,true,.qtr zAC A (gtD p1 y5)⟩::⟨_,true,.rep zAC A (gtD p1 y5)⟩::⟨_,true,.raw (.bool x9)⟩::⟨_,true,.raw (.bool (!x9))⟩::[]) (tl:=[]) (by kernel_rfl) (by kernel_rfl) (by kernel_rfl) (by kernel_rfl) ?_ ?_
        · exact
            Obls.cons (Obl.plain rfl rfl fun R' w' hw hs hd=>by have a0:R' 0=v0:=(hs 0 rfl).trans h0;exact zA5 a0) <|
            Obls.cons (Obl.plain rfl rfl fun R' w' hw hs hd=>by have a0:R' 5 = .int .i64 y5:=(hs 5 rfl).trans h5;exact zA5 a0) <|
            Obls.cons (Obl.plain rfl rfl fun R' w' hw hs hd=>by have a0:R' 17=v0:=hd 0 _ _ _ rfl rfl rfl rfl rfl;have a1:R' 18 = .int .i64 y5:=hd 1 _ _ _ rfl rfl rfl rfl rfl;have ra0:=(f_v0.fr hw).eq a0;exact zAN ra0 a1 Try.underlying27 Try.sizeOf79 e7) <|
            Obls.cons (Obl.plain rfl rfl fun R' w' hw hs hd=>by have a0:QRep zAC A w' (R' 19) (gtD p0 y5):=hd 0 _ _ _ rfl rfl rfl rfl rfl;exact (zAv a0.ptr Try.isAgg79 Try.sizeOf79)) <|
            Obls.cons (Obl.plain rfl rfl fun R' w' hw hs hd=>by have a0:R' 1=v1:=(hs 1 rfl).trans h1;exact zA5 a0) <|
            Obls.cons (Obl.plain rfl rfl fun R' w' hw hs hd=>by have a0:R' 5 = .int .i64 y5:=(hs 5 rfl).trans h5;exact zA5 a0) <|
            Obls.cons (Obl.plain rfl rfl fun R' w' hw hs hd=>by have a0:R' 21=v1:=hd 0 _ _ _ rfl rfl rfl rfl rfl;have a1:R' 22 = .int .i64 y5:=hd 1 _ _ _ rfl rfl rfl rfl rfl;have ra0:=(f_v1.fr hw).eq a0;exact zAN ra0 a1 Try.underlying27 Try.sizeOf79 e8) <|
            Obls.cons (Obl.plain rfl rfl fun R' w' hw hs hd=>by have a0:QRep zAC A w' (R' 23) (gtD p1 y5):=hd 0 _ _ _ rfl rfl rfl rfl rfl;exact (zAv a0.ptr Try.isAgg79 Try.sizeOf79)) <|
            Obls.cons (Obl.plain rfl rfl fun R' w' hw hs hd=>by have a0:Rep zAC A w' (R' 20) (gtD p0 y5):=hd 0 _ _ _ rfl rfl rfl rfl rfl;have a1:Rep zAC A w' (R' 24) (gtD p1 y5):=hd 1 _ _ _ rfl rfl rfl rfl rfl;exact zAl Try.call63 (zGD (q10 rfl) (hA.fr hw.size) a0 a1)) <|
            Obls.cons (Obl.plain rfl rfl fun R' w' hw hs hd=>by have a0:R' 25 = .bool x9:=hd 0 _ _ _ rfl rfl rfl rfl rfl;exact zD7 a0) <|
            Obls.nil
        intro R w hw hs hF'
        replace h0:R 0=v0:=(hs 0 rfl).trans h0
        replace h1:R 1=v1:=(hs 1 rfl).trans h1
        replace h5:R 5 = .int .i64 y5:=(hs 5 rfl).trans h5
        have h26:R 26 = .bool (!x9):=hF' 9 _ _ rfl rfl rfl
        replace f_v0:=f_v0.fr hw
        replace f_v1:=f_v1.fr hw
        replace hA:=hA.fr hw.size
        replace hF:=hF.trans hw
        clear hs hF' hw
        refine zA4 ?_
        refine HT.cond (!x9) h26 (fun c11=>?_) (fun c11=>?_)
        · have hr := zAq c11 hr
          refine HT.seq ?_
          refine HT.text (l:=⟨_,true,.raw (.bool false)⟩::[]) (tl:=[]) (by kernel_rfl) (by kernel_rfl) (by kernel_rfl) ?_ ?_
          · exact
              Obls.cons (Obl.plain rfl rfl fun R' w' hw hs hd=>by exact zA6 rfl) <|
              Obls.nil
          intro R w hw hs hF'
          have h4:R 4 = .bool false:=hF' 0 _ _ rfl rfl rfl
          replace hA:=hA.fr hw.size
          replace hF:=hF.trans hw
          clear hs hF' hw
          refine zA4 ?_
          refine HT.ret ?_
          obtain rfl:=Option.some.inj hr
          have hr:=hr0
          replace hr:some _=some _:=hr
          obtain rfl:=Option.some.inj hr
          exact ⟨.inr rfl,[R 4],⟨rfl,trivial⟩,h4,hF⟩
        · have hr := zAp c11 hr
          refine HT.skip ?_
          obtain ⟨e12,hr⟩:=zAF hr
          refine HT.text (l:=⟨_,true,.raw (.int .i64 y5)⟩::⟨_,true,.raw (.int .i64 (y5+(1:Int)))⟩::⟨_,true,.raw (.int .i64 (y5+(1:Int)))⟩::[]) (tl:=[]) (by kernel_rfl) (by kernel_rfl) (by kernel_rfl) ?_ ?_
          · exact
              Obls.cons (Obl.plain rfl rfl fun R' w' hw hs hd=>by have a0:R' 5 = .int .i64 y5:=(hs 5 rfl).trans h5;exact zA5 a0) <|
              Obls.cons (Obl.plain rfl rfl fun R' w' hw hs hd=>by have a0:R' 15 = .int .i64 y5:=hd 0 _ _ _ rfl rfl rfl rfl rfl;exact zB8 a0 rfl e12) <|
              Obls.cons (Obl.plain rfl rfl fun R' w' hw hs hd=>by have a0:R' 16 = .int .i64 (y5+(1:Int)):=hd 0 _ _ _ rfl rfl rfl rfl rfl;exact zA6 a0) <|
              Obls.nil
          intro R w hw hs hF'
          replace h0:R 0=v0:=(hs 0 rfl).trans h0
          replace h1:R 1=v1:=(hs 1 rfl).trans h1
          have h5:R 5 = .int .i64 (y5+(1:Int)):=hF' 2 _ _ rfl rfl rfl
          replace f_v0:=f_v0.fr hw
          replace f_v1:=f_v1.fr hw
          replace hA:=hA.fr hw.size
          replace hF:=hF.trans hw
          clear hs hF' hw
          refine zA4 ?_
          exact Exists.intro k (And.intro (Nat.lt_succ_self k) ⟨_,hr,hA,hF,h0,h1,h5,f_v0,f_v1⟩)
      · have hr := zAp c6 hr
        refine HT.exit ?_
        obtain rfl:=Option.some.inj hr
        exact Exists.intro _ ⟨rfl,hA,hF⟩
    rintro R w ⟨s4,rfl,hA,hF⟩
    have hr:=zDj hr
    refine HT.seq ?_
    refine HT.text (l:=⟨_,true,.raw (.bool true)⟩::[]) (tl:=[]) (by kernel_rfl) (by kernel_rfl) (by kernel_rfl) ?_ ?_
    · exact
        Obls.cons (Obl.plain rfl rfl fun R' w' hw hs hd=>by exact zA6 rfl) <|
        Obls.nil
    intro R w hw hs hF'
    have h4:R 4 = .bool true:=hF' 0 _ _ rfl rfl rfl
    replace hA:=hA.fr hw.size
    replace hF:=hF.trans hw
    clear hs hF' hw
    refine zA4 ?_
    refine HT.ret ?_
    obtain rfl:=Option.some.inj hr
    exact ⟨.inr rfl,[R 4],⟨rfl,trivial⟩,h4,hF⟩
def zC6 (fu:Nat) (p0:zAH) (p1:zAH):Option Bool:=
  cl true (zCy fu p0 p1) fun x3=>
  bif (!x3) then (
    some false
  ) else (
    some true
  )
set_option maxRecDepth 100000 in
set_option maxHeartbeats 4000000 in
theorem zFP {fu : Nat} {A0 : Av} {p0 : zAH} {p1 : zAH} {r : Bool} (hr : zC6 fu p0 p1 = some r) {w : World} {v0 : Value} {v1 : Value} (hA : AvOK A0 w) (h0 : Rep zA2 A0 w v0 p0) (h1 : Rep zA2 A0 w v1 p1) :
    Calls Try.prog 11 #[v0,v1] w fun e w'=>∃ v,e = .returned v∧(v = .bool r∧Fr w w'):=by
  unfold zC6 at hr
  obtain ⟨w0,hw0⟩:∃ w0,w0=w:=⟨_,rfl⟩
  have hF:Fr w0 w:=hw0 ▸ Fr.refl _
  have hA0:∀ b o,A0 b o→b<w0.heap.size:=fun b o h=>hw0 ▸ hA b o h
  have hA00:AvOK A0 w0:=hA0
  rw [show Fr w=Fr w0 from hw0 ▸ rfl]
  clear hw0
  obtain ⟨A,hAe⟩:∃ A,A=A0:=⟨_,rfl⟩
  have hAA:∀ b o,A0 b o→A b o:=fun b o h=>hAe ▸ h
  replace hA:AvOK A w:=hAe ▸ hA
  have hO:IniOK [] A w:=IniOK.nil
  refine zAI [.tmp 4] Try.func11 Try.ntmps11 (by decide) rfl rfl (Nat.le_of_ble_eq_true rfl) ?_
  intro R hR
  have f_v0:Rep zA2 A w v0 p0:=hAe ▸ h0
  replace h0:R 0=v0:=hR 0 _ rfl
  have f_v1:Rep zA2 A w v1 p1:=hAe ▸ h1
  replace h1:R 1=v1:=hR 1 _ rfl
  clear hR hAe
  refine HT.seq ?_
  refine HT.textR [] (⟨_,true,[],some (.box w0.heap.size 29 zA2 p0),true,fun A=>.any⟩::⟨_,true,[],some (.box w0.heap.size 29 zA2 p1),true,fun A=>.any⟩::⟨_,true,[],none,true,fun A=>.raw (.bool false)⟩::[]) (by kernel_rfl) (by kernel_rfl) (Wf.mk' (by kernel_rfl) (UAll.cons zAG (UAll.cons zAG (UAll.cons zAA (UAll.nil)))) (by kernel_rfl) (by kernel_rfl)) hO hA ?_ ?_
  · exact
      zA9.cons (OblR.made _ rfl rfl rfl rfl fun A' R' w' ho hd=>by have a0:R' 0=v0:=(ho.old 0 rfl).trans h0;have ra0:=(f_v0.stp ho.stp).eq a0;exact zB9 ra0 (Nat.le_trans hF.size ho.ch.size)) <|
      zA9.cons (OblR.made _ rfl rfl rfl rfl fun A' R' w' ho hd=>by have a0:R' 1=v1:=(ho.old 1 rfl).trans h1;have ra0:=(f_v1.stp ho.stp).eq a0;exact zB9 ra0 (Nat.le_trans hF.size ho.ch.size)) <|
      zA9.cons (OblR.plain rfl rfl rfl rfl fun A' R' w' ho hd=>by exact zA6 rfl) <|
      zA9.nil
  intro done ρ σ A R w hdn hI
  obtain ⟨b2_0,e_b2_0⟩:=hI.boxv hdn 0 rfl rfl
  have h2:R 2=(.pointer (some ⟨b2_0,0,none⟩)):=(hI.opvR hdn 0 0 rfl rfl rfl rfl rfl).symm.trans e_b2_0
  obtain ⟨b3_1,e_b3_1⟩:=hI.boxv hdn 1 rfl rfl
  have h3:R 3=(.pointer (some ⟨b3_1,0,none⟩)):=(hI.opvR hdn 1 1 rfl rfl rfl rfl rfl).symm.trans e_b3_1
  replace hAA:=hI.low' hAA hA0 (hO.ge (trivial))
  replace hF:Fr w0 w:=hF.tr hI.ch (hO.ge (trivial))
  replace hO:IniOK [ob (.pointer (some ⟨b2_0,0,none⟩)) (.box w0.heap.size 29 zA2 p0),ob (.pointer (some ⟨b3_1,0,none⟩)) (.box w0.heap.size 29 zA2 p1)] A w:=hI.left hdn [(0,ob (.pointer (some ⟨b2_0,0,none⟩)) (.box w0.heap.size 29 zA2 p0)),(1,ob (.pointer (some ⟨b3_1,0,none⟩)) (.box w0.heap.size 29 zA2 p1))] ⟨rfl,rfl,e_b2_0,rfl,rfl,⟨rfl,rfl,e_b3_1,rfl,rfl,trivial⟩⟩
  replace hA:=hI.avok
  clear hI
  refine HT.seq ?_
  refine HT.seq ?_
  obtain ⟨x3,q4,hr⟩:=zAK hr
  refine HT.text (l:=⟨_,true,.raw (.pointer (some ⟨b2_0,0,none⟩))⟩::⟨_,true,.rep (eSl zAC) A p0⟩::⟨_,true,.raw (.pointer (some ⟨b3_1,0,none⟩))⟩::⟨_,true,.rep (eSl zAC) A p1⟩::⟨_,true,.raw (.bool x3)⟩::⟨_,true,.raw (.bool (!x3))⟩::[]) (tl:=[]) (by kernel_rfl) (by kernel_rfl) (by kernel_rfl) ?_ ?_
  · exact
      Obls.cons (Obl.plain rfl rfl fun R' w' hw hs hd=>by have a0:R' 2=(.pointer (some ⟨b2_0,0,none⟩)):=(hs 2 rfl).trans h2;exact zAB a0 zCl Try.sizeOf27 (by decide) rfl) <|
      Obls.cons (Obl.plain rfl rfl fun R' w' hw hs hd=>by have a0:R' 5=(.pointer (some ⟨b2_0,0,none⟩)):=hd 0 _ _ _ rfl rfl rfl rfl rfl;exact (zAD ((hO.fr hw).ok 0 _ rfl).1 a0 zAg rfl Try.isAgg27 Try.sizeOf27)) <|
      Obls.cons (Obl.plain rfl rfl fun R' w' hw hs hd=>by have a0:R' 3=(.pointer (some ⟨b3_1,0,none⟩)):=(hs 3 rfl).trans h3;exact zAB a0 zCl Try.sizeOf27 (by decide) rfl) <|
      Obls.cons (Obl.plain rfl rfl fun R' w' hw hs hd=>by have a0:R' 7=(.pointer (some ⟨b3_1,0,none⟩)):=hd 0 _ _ _ rfl rfl rfl rfl rfl;exact (zAD ((hO.fr hw).ok 1 _ rfl).1 a0 zAg rfl Try.isAgg27 Try.sizeOf27)) <|
      Obls.cons (Obl.plain rfl rfl fun R' w' hw hs hd=>by have a0:Rep (eSl zAC) A w' (R' 6) p0:=hd 0 _ _ _ rfl rfl rfl rfl rfl;have a1:Rep (eSl zAC) A w' (R' 8) p1:=hd 1 _ _ _ rfl rfl rfl rfl rfl;exact zAl Try.call35 (zFe (q4 rfl) (hA.fr hw.size) a0 a1)) <|
      Obls.cons (Obl.plain rfl rfl fun R' w' hw hs hd=>by have a0:R' 9 = .bool x3:=hd 0 _ _ _ rfl rfl rfl rfl rfl;exact zD7 a0) <|
      Obls.nil
  intro R w hw hs hF'
  have h10:R 10 = .bool (!x3):=hF' 5 _ _ rfl rfl rfl
  replace hO:=hO.fr hw
  replace hO:IniOK [] A w:=hO.sub [] trivial
  replace hA:=hA.fr hw.size
  replace hF:=hF.trans hw
  clear hs hF' hw
  refine zA4 ?_
  refine HT.cond (!x3) h10 (fun c5=>?_) (fun c5=>?_)
  · have hr := zAq c5 hr
    refine HT.seq ?_
    refine HT.text (l:=⟨_,true,.raw (.bool false)⟩::[]) (tl:=[]) (by kernel_rfl) (by kernel_rfl) (by kernel_rfl) ?_ ?_
    · exact
        Obls.cons (Obl.plain rfl rfl fun R' w' hw hs hd=>by exact zA6 rfl) <|
        Obls.nil
    intro R w hw hs hF'
    have h4:R 4 = .bool false:=hF' 0 _ _ rfl rfl rfl
    replace hO:=hO.fr hw
    replace hA:=hA.fr hw.size
    replace hF:=hF.trans hw
    clear hs hF' hw
    refine zA4 ?_
    refine HT.ret ?_
    obtain rfl:=Option.some.inj hr
    exact ⟨.inr rfl,[R 4],⟨rfl,trivial⟩,h4,hF⟩
  · have hr := zAp c5 hr
    refine HT.skip ?_
    refine HT.seq ?_
    refine HT.text (l:=⟨_,true,.raw (.bool true)⟩::[]) (tl:=[]) (by kernel_rfl) (by kernel_rfl) (by kernel_rfl) ?_ ?_
    · exact
        Obls.cons (Obl.plain rfl rfl fun R' w' hw hs hd=>by exact zA6 rfl) <|
        Obls.nil
    intro R w hw hs hF'
    have h4:R 4 = .bool true:=hF' 0 _ _ rfl rfl rfl
    replace hO:=hO.fr hw
    replace hA:=hA.fr hw.size
    replace hF:=hF.trans hw
    clear hs hF' hw
    refine zA4 ?_
    refine HT.ret ?_
    obtain rfl:=Option.some.inj hr
    exact ⟨.inr rfl,[R 4],⟨rfl,trivial⟩,h4,hF⟩
def zBP (fu : Nat) : Nat → Int → Int → (List zA7) → Option (Int × (List zA7))
  | 0,_,_,_=>none
  | k+1,y4,y5,y6=>
    bif (decide (y5 < (y6.length : Int))) then (
      ck (inR y5 y6.length) <|
      ck (i64B (y4+(1:Int))) <|
      ck (inR y5 (y6.set y5.toNat (y4,(gtD y6 y5).2.1,(gtD y6 y5).2.2)).length) <|
      ck (i64B ((y4+(1:Int))+(1:Int))) <|
      ck ((3:Int) != 0) <|
      ck (inR y5 ((y6.set y5.toNat (y4,(gtD y6 y5).2.1,(gtD y6 y5).2.2)).set y5.toNat ((gtD (y6.set y5.toNat (y4,(gtD y6 y5).2.1,(gtD y6 y5).2.2)) y5).1,(y4+(1:Int)),(gtD (y6.set y5.toNat (y4,(gtD y6 y5).2.1,(gtD y6 y5).2.2)) y5).2.2)).length) <|
      ck (i64B (((y4+(1:Int))+(1:Int))+(1:Int))) <|
      ck (i64B (y5+(1:Int))) <|
      zBP fu k (((y4+(1:Int))+(1:Int))+(1:Int)) (y5+(1:Int)) (((y6.set y5.toNat (y4,(gtD y6 y5).2.1,(gtD y6 y5).2.2)).set y5.toNat ((gtD (y6.set y5.toNat (y4,(gtD y6 y5).2.1,(gtD y6 y5).2.2)) y5).1,(y4+(1:Int)),(gtD (y6.set y5.toNat (y4,(gtD y6 y5).2.1,(gtD y6 y5).2.2)) y5).2.2)).set y5.toNat ((gtD ((y6.set y5.toNat (y4,(gtD y6 y5).2.1,(gtD y6 y5).2.2)).set y5.toNat ((gtD (y6.set y5.toNat (y4,(gtD y6 y5).2.1,(gtD y6 y5).2.2)) y5).1,(y4+(1:Int)),(gtD (y6.set y5.toNat (y4,(gtD y6 y5).2.1,(gtD y6 y5).2.2)) y5).2.2)) y5).1,(gtD ((y6.set y5.toNat (y4,(gtD y6 y5).2.1,(gtD y6 y5).2.2)).set y5.toNat ((gtD (y6.set y5.toNat (y4,(gtD y6 y5).2.1,(gtD y6 y5).2.2)) y5).1,(y4+(1:Int)),(gtD (y6.set y5.toNat (y4,(gtD y6 y5).2.1,(gtD y6 y5).2.2)) y5).2.2)) y5).2.1,((((y4+(1:Int))+(1:Int)).tmod (3:Int))==(0:Int))))
    ) else (
      some (y4,y6)
    )
def zCP (fu:Nat) (p0:List zA7) (p1:Int):Option (Int × List zA7):=
  cl true (zBP fu fu p1 (0:Int) p0) fun s3=>
  some (s3.1,s3.2)
set_option maxRecDepth 100000 in
set_option maxHeartbeats 4000000 in
theorem zFK {fu : Nat} {A0 : Av} {p0 : List zA7} {p1 : Int} {r : Int × List zA7} (hr : zCP fu p0 p1 = some r) {w : World} {v0 : Value} {v1 : Value} {B0 : Nat} (hA : AvOK A0 w) (hN : ∀ b o, A0 b o → ¬ zAV v0 b) (h0 : (Res.vec B0 82 zA1 p0).ok A0 v0 w) (h1 : v1 = .int .i64 p1) :
    Calls Try.prog 70 #[v0,v1] w fun e w'=>∃ v,e = .returned v∧(v = .int .i64 r.1∧(Res.vec B0 82 zA1 r.2).ok A0 v0 w'∧Ch (zAV v0) w w'):=by
  unfold zCP at hr
  obtain ⟨w0,hw0⟩:∃ w0,w0=w:=⟨_,rfl⟩
  have hF:Ch (zAV v0) w0 w:=hw0 ▸ Ch.refl _ _
  have hA0:∀ b o,A0 b o→b<w0.heap.size:=fun b o h=>hw0 ▸ hA b o h
  have hA00:AvOK A0 w0:=hA0
  rw [show Ch (zAV v0) w=Ch (zAV v0) w0 from hw0 ▸ rfl]
  clear hw0
  obtain ⟨A,hAe⟩:∃ A,A=addA A0 v0:=⟨_,rfl⟩
  have hAA:∀ b o,A0 b o→A b o:=fun b o h=>hAe ▸ .inl h
  replace hA:AvOK A w:=hAe ▸ hA.one h0
  have hO:IniOK [ob v0 (.vec B0 82 zA1 p0)] A w:=hAe ▸ IniOK.one h0 (fun _ _ _ _ _ h=>h)
  refine zAI [.tmp 4] Try.func70 Try.ntmps70 (by decide) rfl rfl (Nat.le_of_ble_eq_true rfl) ?_
  intro R hR
  replace h0:R 0=v0:=hR 0 _ rfl
  replace h1:R 1 = .int .i64 p1:=(hR 1 _ rfl).trans h1
  clear hR hAe
  refine HT.seq ?_
  refine HT.text (l:=⟨_,true,.raw (.int .i64 (0:Int))⟩::[]) (tl:=[]) (by kernel_rfl) (by kernel_rfl) (by kernel_rfl) ?_ ?_
  · exact
      Obls.cons (Obl.plain rfl rfl fun R' w' hw hs hd=>by exact zA6 rfl) <|
      Obls.nil
  intro R w hw hs hF'
  replace h0:R 0=v0:=(hs 0 rfl).trans h0
  replace h1:R 1 = .int .i64 p1:=(hs 1 rfl).trans h1
  replace hO:=hO.fr hw
  replace hA:=hA.fr hw.size
  replace hF:=hF.tr (hw.ch noB) fun _ h=>False.elim h
  clear hs hF' hw
  refine zA4 ?_
  refine HT.seq ?_
  refine HT.seq ?_
  refine HT.text (l:=⟨_,true,.raw (.int .i64 (0:Int))⟩::[]) (tl:=[]) (by kernel_rfl) (by kernel_rfl) (by kernel_rfl) ?_ ?_
  · exact
      Obls.cons (Obl.plain rfl rfl fun R' w' hw hs hd=>by exact zA6 rfl) <|
      Obls.nil
  intro R w hw hs hF'
  replace h0:R 0=v0:=(hs 0 rfl).trans h0
  replace h1:R 1 = .int .i64 p1:=(hs 1 rfl).trans h1
  have h5:R 5 = .int .i64 (0:Int):=hF' 0 _ _ rfl rfl rfl
  replace hO:=hO.fr hw
  replace hA:=hA.fr hw.size
  replace hF:=hF.tr (hw.ch noB) fun _ h=>False.elim h
  clear hs hF' hw
  refine zA4 ?_
  obtain ⟨rl1,q2,hr⟩:=zAK hr
  replace q2:=q2 rfl
  refine HT.cut0 (fun R w=>∃ A:Av,∃ (s3:Int × (List zA7)),rl1=s3∧AvOK A w∧Ch (zAV v0) w0 w∧(∀ b o,A0 b o→A b o)∧IniOK [ob v0 (.vec B0 82 zA1 s3.2)] A w∧R 1 = .int .i64 s3.1) ?_ ?_
  · refine HT.block ?_
    refine HT.loop (fun k R w=>∃ A:Av,∃ (y4:Int) (y5:Int) (y6:List zA7),zBP fu k y4 y5 y6=some rl1∧AvOK A w∧Ch (zAV v0) w0 w∧(∀ b o,A0 b o→A b o)∧IniOK [ob v0 (.vec B0 82 zA1 y6)] A w∧R 0=v0∧R 1 = .int .i64 y4∧R 5 = .int .i64 y5) fu ⟨_,_,_,_,q2,hA,hF,hAA,hO,h0,h1,h5⟩ ?_
    have hr0:=hr;clear hr q2
    rintro k R w ⟨A,y4,y5,y6,hr,hA,hF,hAA,hO,h0,h1,h5⟩
    rcases k with _ | k
    · cases (show none=some _ from hr)
    rw [zBP] at hr
    refine HT.seq ?_
    refine HT.seq ?_
    refine HT.text (l:=⟨_,true,.raw (.int .i64 y5)⟩::⟨_,true,.raw v0⟩::⟨_,true,.raw (.int .i64 (y6.length:Int))⟩::⟨_,true,.raw (.bool (decide (y5<(y6.length:Int))))⟩::[]) (tl:=[]) (by kernel_rfl) (by kernel_rfl) (by kernel_rfl) ?_ ?_
    · exact
        Obls.cons (Obl.plain rfl rfl fun R' w' hw hs hd=>by have a0:R' 5 = .int .i64 y5:=(hs 5 rfl).trans h5;exact zA5 a0) <|
        Obls.cons (Obl.plain rfl rfl fun R' w' hw hs hd=>by have a0:R' 0=v0:=(hs 0 rfl).trans h0;exact zA5 a0) <|
        Obls.cons (Obl.plain rfl rfl fun R' w' hw hs hd=>by have a0:R' 7=v0:=hd 0 _ _ _ rfl rfl rfl rfl rfl;exact zDR (hO.ok 0 _ rfl).1 a0 Try.underlying65) <|
        Obls.cons (Obl.plain rfl rfl fun R' w' hw hs hd=>by have a0:R' 6 = .int .i64 y5:=hd 0 _ _ _ rfl rfl rfl rfl rfl;have a1:R' 8 = .int .i64 (y6.length:Int):=hd 1 _ _ _ rfl rfl rfl rfl rfl;exact zBI a0 a1) <|
        Obls.nil
    intro R w hw hs hF'
    replace h0:R 0=v0:=(hs 0 rfl).trans h0
    replace h1:R 1 = .int .i64 y4:=(hs 1 rfl).trans h1
    replace h5:R 5 = .int .i64 y5:=(hs 5 rfl).trans h5
    have h9:R 9 = .bool (decide (y5<(y6.length:Int))):=hF' 3 _ _ rfl rfl rfl
    replace hO:=hO.fr hw
    replace hA:=hA.fr hw.size
    replace hF:=hF.tr (hw.ch noB) fun _ h=>False.elim h
    clear hs hF' hw
    refine zA4 ?_
    refine HT.cond (decide (y5<(y6.length:Int))) h9 (fun c7=>?_) (fun c7=>?_)
    · have hr := zAq c7 hr
      refine HT.skip ?_
      refine HT.seq ?_
      refine HT.block ?_
      refine HT.seq ?_
      obtain ⟨e8,hr⟩:=zAF hr
      refine HT.textR [ob v0 (.vec B0 82 zA1 y6)] (⟨_,true,[],none,true,fun A=>.raw v0⟩::⟨_,true,[],none,true,fun A=>.raw (.int .i64 y5)⟩::⟨_,true,[],none,true,fun A=>.raw (.int .i64 y4)⟩::⟨_,true,[],none,true,fun A=>.raw (vptr v0 (y5.toNat*3))⟩::⟨_,true,[],none,true,fun A=>.raw (vptr v0 (y5.toNat*3+0))⟩::⟨_,true,[0],some (.vec B0 82 zA1 (y6.set y5.toNat (y4,(gtD y6 y5).2.1,(gtD y6 y5).2.2))),false,fun A=>.any⟩::[]) (by kernel_rfl) (by kernel_rfl) (Wf.mk' (by kernel_rfl) (UAll.cons zAA (UAll.cons zAA (UAll.cons zAA (UAll.cons zAA (UAll.cons zAA (UAll.cons zAG (UAll.nil))))))) (by kernel_rfl) (by kernel_rfl)) hO hA ?_ ?_
      · exact
          zA9.cons (OblR.plain rfl rfl rfl rfl fun A' R' w' ho hd=>by have a0:R' 0=v0:=(ho.old 0 rfl).trans h0;exact zA5 a0) <|
          zA9.cons (OblR.plain rfl rfl rfl rfl fun A' R' w' ho hd=>by have a0:R' 5 = .int .i64 y5:=(ho.old 5 rfl).trans h5;exact zA5 a0) <|
          zA9.cons (OblR.plain rfl rfl rfl rfl fun A' R' w' ho hd=>by have a0:R' 1 = .int .i64 y4:=(ho.old 1 rfl).trans h1;exact zA5 a0) <|
          zA9.cons (OblR.plain rfl rfl rfl rfl fun A' R' w' ho hd=>by have a0:R' 12=v0:=hd 0 _ _ _ rfl rfl rfl rfl rfl;have a1:R' 13 = .int .i64 y5:=hd 1 _ _ _ rfl rfl rfl rfl rfl;exact zAr (hO.ok 0 _ rfl).1 a0 a1 Try.underlying65 Try.sizeOf82 e8 rfl) <|
          zA9.cons (OblR.plain rfl rfl rfl rfl fun A' R' w' ho hd=>by have a0:R' 15=(vptr v0 (y5.toNat*3)):=hd 0 _ _ _ rfl rfl rfl rfl rfl;exact zBZ (ho.rd 0 _ rfl rfl) (zFy e8) a0 zCS Try.sizeOf3 (by decide) rfl) <|
          zA9.cons (OblR.took 0 _ _ rfl rfl rfl rfl rfl fun A' R' w' ho hd u hok hav hin hop hds=>by have a0:R' 16=(vptr v0 (y5.toNat*3+0)):=hd 0 _ _ _ rfl rfl rfl rfl rfl;have a1:R' 14 = .int .i64 y4:=hd 1 _ _ _ rfl rfl rfl rfl rfl;obtain rfl:=hin _ rfl;exact zC8 (zDU.eq a1) hok hav a0 e8 rfl zFB Try.sizeOf3 rfl) <|
          zA9.nil
      intro done ρ σ A R w hdn hI
      replace h0:R 0=v0:=(hI.reg rfl).trans h0
      replace h1:R 1 = .int .i64 y4:=(hI.reg rfl).trans h1
      replace h5:R 5 = .int .i64 y5:=(hI.reg rfl).trans h5
      have z9:=hI.inivR 0 rfl
      have z10:=(hI.opnR hdn 6 5 rfl rfl rfl rfl rfl).trans z9
      replace hAA:=hI.lowK hAA hA0 hN (hO.geK (⟨.inr (fun k h=>.inr h),trivial⟩))
      replace hF:Ch (zAV v0) w0 w:=hF.tr hI.ch (hO.geK (⟨.inr (fun k h=>.inr h),trivial⟩))
      replace hO:IniOK [ob v0 (.vec B0 82 zA1 (y6.set y5.toNat (y4,(gtD y6 y5).2.1,(gtD y6 y5).2.2)))] A w:=hI.left hdn [(6,ob v0 (.vec B0 82 zA1 (y6.set y5.toNat (y4,(gtD y6 y5).2.1,(gtD y6 y5).2.2))))] ⟨rfl,rfl,z10,rfl,rfl,trivial⟩
      replace hA:=hI.avok
      clear hI
      refine HT.seq ?_
      obtain ⟨e11,hr⟩:=zAF hr
      refine HT.text (l:=⟨_,true,.raw (.int .i64 y4)⟩::⟨_,true,.raw (.int .i64 (y4+(1:Int)))⟩::⟨_,true,.raw (.int .i64 (y4+(1:Int)))⟩::[]) (tl:=[]) (by kernel_rfl) (by kernel_rfl) (by kernel_rfl) ?_ ?_
      · exact
          Obls.cons (Obl.plain rfl rfl fun R' w' hw hs hd=>by have a0:R' 1 = .int .i64 y4:=(hs 1 rfl).trans h1;exact zA5 a0) <|
          Obls.cons (Obl.plain rfl rfl fun R' w' hw hs hd=>by have a0:R' 17 = .int .i64 y4:=hd 0 _ _ _ rfl rfl rfl rfl rfl;exact zB8 a0 rfl e11) <|
          Obls.cons (Obl.plain rfl rfl fun R' w' hw hs hd=>by have a0:R' 18 = .int .i64 (y4+(1:Int)):=hd 0 _ _ _ rfl rfl rfl rfl rfl;exact zA6 a0) <|
          Obls.nil
      intro R w hw hs hF'
      replace h0:R 0=v0:=(hs 0 rfl).trans h0
      replace h5:R 5 = .int .i64 y5:=(hs 5 rfl).trans h5
      have h1:R 1 = .int .i64 (y4+(1:Int)):=hF' 2 _ _ rfl rfl rfl
      replace hO:=hO.fr hw
      replace hA:=hA.fr hw.size
      replace hF:=hF.tr (hw.ch noB) fun _ h=>False.elim h
      clear hs hF' hw
      refine zA4 ?_
      refine HT.seq ?_
      obtain ⟨e12,hr⟩:=zAF hr
      refine HT.textR [ob v0 (.vec B0 82 zA1 (y6.set y5.toNat (y4,(gtD y6 y5).2.1,(gtD y6 y5).2.2)))] (⟨_,true,[],none,true,fun A=>.raw v0⟩::⟨_,true,[],none,true,fun A=>.raw (.int .i64 y5)⟩::⟨_,true,[],none,true,fun A=>.raw (.int .i64 (y4+(1:Int)))⟩::⟨_,true,[],none,true,fun A=>.raw (vptr v0 (y5.toNat*3))⟩::⟨_,true,[],none,true,fun A=>.raw (vptr v0 (y5.toNat*3+1))⟩::⟨_,true,[0],some (.vec B0 82 zA1 ((y6.set y5.toNat (y4,(gtD y6 y5).2.1,(gtD y6 y5).2.2)).set y5.toNat ((gtD (y6.set y5.toNat (y4,(gtD y6 y5).2.1,(gtD y6 y5).2.2)) y5).1,(y4+(1:Int)),(gtD (y6.set y5.toNat (y4,(gtD y6 y5).2.1,(gtD y6 y5).2.2)) y5).2.2))),false,fun A=>.any⟩::[]) (by kernel_rfl) (by kernel_rfl) (Wf.mk' (by kernel_rfl) (UAll.cons zAA (UAll.cons zAA (UAll.cons zAA (UAll.cons zAA (UAll.cons zAA (UAll.cons zAG (UAll.nil))))))) (by kernel_rfl) (by kernel_rfl)) hO hA ?_ ?_
      · exact
          zA9.cons (OblR.plain rfl rfl rfl rfl fun A' R' w' ho hd=>by have a0:R' 0=v0:=(ho.old 0 rfl).trans h0;exact zA5 a0) <|
          zA9.cons (OblR.plain rfl rfl rfl rfl fun A' R' w' ho hd=>by have a0:R' 5 = .int .i64 y5:=(ho.old 5 rfl).trans h5;exact zA5 a0) <|
          zA9.cons (OblR.plain rfl rfl rfl rfl fun A' R' w' ho hd=>by have a0:R' 1 = .int .i64 (y4+(1:Int)):=(ho.old 1 rfl).trans h1;exact zA5 a0) <|
          zA9.cons (OblR.plain rfl rfl rfl rfl fun A' R' w' ho hd=>by have a0:R' 19=v0:=hd 0 _ _ _ rfl rfl rfl rfl rfl;have a1:R' 20 = .int .i64 y5:=hd 1 _ _ _ rfl rfl rfl rfl rfl;exact zAr (hO.ok 0 _ rfl).1 a0 a1 Try.underlying65 Try.sizeOf82 e12 rfl) <|
          zA9.cons (OblR.plain rfl rfl rfl rfl fun A' R' w' ho hd=>by have a0:R' 22=(vptr v0 (y5.toNat*3)):=hd 0 _ _ _ rfl rfl rfl rfl rfl;exact zBZ (ho.rd 0 _ rfl rfl) (zFy e12) a0 zDX Try.sizeOf3 (by decide) rfl) <|
          zA9.cons (OblR.took 0 _ _ rfl rfl rfl rfl rfl fun A' R' w' ho hd u hok hav hin hop hds=>by have a0:R' 23=(vptr v0 (y5.toNat*3+1)):=hd 0 _ _ _ rfl rfl rfl rfl rfl;have a1:R' 21 = .int .i64 (y4+(1:Int)):=hd 1 _ _ _ rfl rfl rfl rfl rfl;obtain rfl:=hin _ rfl;exact zC8 (zDU.eq a1) hok hav a0 e12 rfl zF8 Try.sizeOf3 rfl) <|
          zA9.nil
      intro done ρ σ A R w hdn hI
      replace h0:R 0=v0:=(hI.reg rfl).trans h0
      replace h1:R 1 = .int .i64 (y4+(1:Int)):=(hI.reg rfl).trans h1
      replace h5:R 5 = .int .i64 y5:=(hI.reg rfl).trans h5
      have z13:=hI.inivR 0 rfl
      have z14:=(hI.opnR hdn 6 5 rfl rfl rfl rfl rfl).trans z13
      replace hAA:=hI.lowK hAA hA0 hN (hO.geK (⟨.inr (fun k h=>.inr h),trivial⟩))
      replace hF:Ch (zAV v0) w0 w:=hF.tr hI.ch (hO.geK (⟨.inr (fun k h=>.inr h),trivial⟩))
      replace hO:IniOK [ob v0 (.vec B0 82 zA1 ((y6.set y5.toNat (y4,(gtD y6 y5).2.1,(gtD y6 y5).2.2)).set y5.toNat ((gtD (y6.set y5.toNat (y4,(gtD y6 y5).2.1,(gtD y6 y5).2.2)) y5).1,(y4+(1:Int)),(gtD (y6.set y5.toNat (y4,(gtD y6 y5).2.1,(gtD y6 y5).2.2)) y5).2.2)))] A w:=hI.left hdn [(6,ob v0 (.vec B0 82 zA1 ((y6.set y5.toNat (y4,(gtD y6 y5).2.1,(gtD y6 y5).2.2)).set y5.toNat ((gtD (y6.set y5.toNat (y4,(gtD y6 y5).2.1,(gtD y6 y5).2.2)) y5).1,(y4+(1:Int)),(gtD (y6.set y5.toNat (y4,(gtD y6 y5).2.1,(gtD y6 y5).2.2)) y5).2.2))))] ⟨rfl,rfl,z14,rfl,rfl,trivial⟩
      replace hA:=hI.avok
      clear hI
      refine HT.seq ?_
      obtain ⟨e15,hr⟩:=zAF hr
      refine HT.text (l:=⟨_,true,.raw (.int .i64 (y4+(1:Int)))⟩::⟨_,true,.raw (.int .i64 ((y4+(1:Int))+(1:Int)))⟩::⟨_,true,.raw (.int .i64 ((y4+(1:Int))+(1:Int)))⟩::[]) (tl:=[]) (by kernel_rfl) (by kernel_rfl) (by kernel_rfl) ?_ ?_
      · exact
          Obls.cons (Obl.plain rfl rfl fun R' w' hw hs hd=>by have a0:R' 1 = .int .i64 (y4+(1:Int)):=(hs 1 rfl).trans h1;exact zA5 a0) <|
          Obls.cons (Obl.plain rfl rfl fun R' w' hw hs hd=>by have a0:R' 24 = .int .i64 (y4+(1:Int)):=hd 0 _ _ _ rfl rfl rfl rfl rfl;exact zB8 a0 rfl e15) <|
          Obls.cons (Obl.plain rfl rfl fun R' w' hw hs hd=>by have a0:R' 25 = .int .i64 ((y4+(1:Int))+(1:Int)):=hd 0 _ _ _ rfl rfl rfl rfl rfl;exact zA6 a0) <|
          Obls.nil
      intro R w hw hs hF'
      replace h0:R 0=v0:=(hs 0 rfl).trans h0
      replace h5:R 5 = .int .i64 y5:=(hs 5 rfl).trans h5
      have h1:R 1 = .int .i64 ((y4+(1:Int))+(1:Int)):=hF' 2 _ _ rfl rfl rfl
      replace hO:=hO.fr hw
      replace hA:=hA.fr hw.size
      replace hF:=hF.tr (hw.ch noB) fun _ h=>False.elim h
      clear hs hF' hw
      refine zA4 ?_
      refine HT.seq ?_
      obtain ⟨e16,hr⟩:=zAF hr
      obtain ⟨e17,hr⟩:=zAF hr
      refine HT.textR [ob v0 (.vec B0 82 zA1 ((y6.set y5.toNat (y4,(gtD y6 y5).2.1,(gtD y6 y5).2.2)).set y5.toNat ((gtD (y6.set y5.toNat (y4,(gtD y6 y5).2.1,(gtD y6 y5).2.2)) y5).1,(y4+(1:Int)),(gtD (y6.set y5.toNat (y4,(gtD y6 y5).2.1,(gtD y6 y5).2.2)) y5).2.2)))] (⟨_,true,[],none,true,fun A=>.raw v0⟩::⟨_,true,[],none,true,fun A=>.raw (.int .i64 y5)⟩::⟨_,true,[],none,true,fun A=>.raw (.int .i64 ((y4+(1:Int))+(1:Int)))⟩::⟨_,true,[],none,true,fun A=>.raw (.int .i64 (((y4+(1:Int))+(1:Int)).tmod (3:Int)))⟩::⟨_,true,[],none,true,fun A=>.raw (.bool ((((y4+(1:Int))+(1:Int)).tmod (3:Int))==(0:Int)))⟩::⟨_,true,[],none,true,fun A=>.raw (vptr v0 (y5.toNat*3))⟩::⟨_,true,[],none,true,fun A=>.raw (vptr v0 (y5.toNat*3+2))⟩::⟨_,true,[0],some (.vec B0 82 zA1 (((y6.set y5.toNat (y4,(gtD y6 y5).2.1,(gtD y6 y5).2.2)).set y5.toNat ((gtD (y6.set y5.toNat (y4,(gtD y6 y5).2.1,(gtD y6 y5).2.2)) y5).1,(y4+(1:Int)),(gtD (y6.set y5.toNat (y4,(gtD y6 y5).2.1,(gtD y6 y5).2.2)) y5).2.2)).set y5.toNat ((gtD ((y6.set y5.toNat (y4,(gtD y6 y5).2.1,(gtD y6 y5).2.2)).set y5.toNat ((gtD (y6.set y5.toNat (y4,(gtD y6 y5).2.1,(gtD y6 y5).2.2)) y5).1,(y4+(1:Int)),(gtD (y6.set y5.toNat (y4,(gtD y6 y5).2.1,(gtD y6 y5).2.2)) y5).2.2)) y5).1,(gtD ((y6.set y5.toNat (y4,(gtD y6 y5).2.1,(gtD y6 y5).2.2)).set y5.toNat ((gtD (y6.set y5.toNat (y4,(gtD y6 y5).2.1,(gtD y6 y5).2.2)) y5).1,(y4+(1:Int)),(gtD (y6.set y5.toNat (y4,(gtD y6 y5).2.1,(gtD y6 y5).2.2)) y5).2.2)) y5).2.1,((((y4+(1:Int))+(1:Int)).tmod (3:Int))==(0:Int))))),false,fun A=>.any⟩::[]) (by kernel_rfl) (by kernel_rfl) (Wf.mk' (by kernel_rfl) (UAll.cons zAA (UAll.cons zAA (UAll.cons zAA (UAll.cons zAA (UAll.cons zAA (UAll.cons zAA (UAll.cons zAA (UAll.cons zAG (UAll.nil))))))))) (by kernel_rfl) (by kernel_rfl)) hO hA ?_ ?_
      · exact
          zA9.cons (OblR.plain rfl rfl rfl rfl fun A' R' w' ho hd=>by have a0:R' 0=v0:=(ho.old 0 rfl).trans h0;exact zA5 a0) <|
          zA9.cons (OblR.plain rfl rfl rfl rfl fun A' R' w' ho hd=>by have a0:R' 5 = .int .i64 y5:=(ho.old 5 rfl).trans h5;exact zA5 a0) <|
          zA9.cons (OblR.plain rfl rfl rfl rfl fun A' R' w' ho hd=>by have a0:R' 1 = .int .i64 ((y4+(1:Int))+(1:Int)):=(ho.old 1 rfl).trans h1;exact zA5 a0) <|
          zA9.cons (OblR.plain rfl rfl rfl rfl fun A' R' w' ho hd=>by have a0:R' 28 = .int .i64 ((y4+(1:Int))+(1:Int)):=hd 0 _ _ _ rfl rfl rfl rfl rfl;exact zML a0 rfl e16) <|
          zA9.cons (OblR.plain rfl rfl rfl rfl fun A' R' w' ho hd=>by have a0:R' 29 = .int .i64 (((y4+(1:Int))+(1:Int)).tmod (3:Int)):=hd 0 _ _ _ rfl rfl rfl rfl rfl;exact zFA a0 rfl) <|
          zA9.cons (OblR.plain rfl rfl rfl rfl fun A' R' w' ho hd=>by have a0:R' 26=v0:=hd 0 _ _ _ rfl rfl rfl rfl rfl;have a1:R' 27 = .int .i64 y5:=hd 1 _ _ _ rfl rfl rfl rfl rfl;exact zAr (hO.ok 0 _ rfl).1 a0 a1 Try.underlying65 Try.sizeOf82 e17 rfl) <|
          zA9.cons (OblR.plain rfl rfl rfl rfl fun A' R' w' ho hd=>by have a0:R' 31=(vptr v0 (y5.toNat*3)):=hd 0 _ _ _ rfl rfl rfl rfl rfl;exact zBZ (ho.rd 0 _ rfl rfl) (zFy e17) a0 zEb Try.sizeOf4 (by decide) rfl) <|
          zA9.cons (OblR.took 0 _ _ rfl rfl rfl rfl rfl fun A' R' w' ho hd u hok hav hin hop hds=>by have a0:R' 32=(vptr v0 (y5.toNat*3+2)):=hd 0 _ _ _ rfl rfl rfl rfl rfl;have a1:R' 30 = .bool ((((y4+(1:Int))+(1:Int)).tmod (3:Int))==(0:Int)):=hd 1 _ _ _ rfl rfl rfl rfl rfl;obtain rfl:=hin _ rfl;exact zC8 (zF0.eq a1) hok hav a0 e17 rfl zDY Try.sizeOf4 rfl) <|
          zA9.nil
      intro done ρ σ A R w hdn hI
      replace h0:R 0=v0:=(hI.reg rfl).trans h0
      replace h1:R 1 = .int .i64 ((y4+(1:Int))+(1:Int)):=(hI.reg rfl).trans h1
      replace h5:R 5 = .int .i64 y5:=(hI.reg rfl).trans h5
      have z18:=hI.inivR 0 rfl
      have z19:=(hI.opnR hdn 8 7 rfl rfl rfl rfl rfl).trans z18
      replace hAA:=hI.lowK hAA hA0 hN (hO.geK (⟨.inr (fun k h=>.inr h),trivial⟩))
      replace hF:Ch (zAV v0) w0 w:=hF.tr hI.ch (hO.geK (⟨.inr (fun k h=>.inr h),trivial⟩))
      replace hO:IniOK [ob v0 (.vec B0 82 zA1 (((y6.set y5.toNat (y4,(gtD y6 y5).2.1,(gtD y6 y5).2.2)).set y5.toNat ((gtD (y6.set y5.toNat (y4,(gtD y6 y5).2.1,(gtD y6 y5).2.2)) y5).1,(y4+(1:Int)),(gtD (y6.set y5.toNat (y4,(gtD y6 y5).2.1,(gtD y6 y5).2.2)) y5).2.2)).set y5.toNat ((gtD ((y6.set y5.toNat (y4,(gtD y6 y5).2.1,(gtD y6 y5).2.2)).set y5.toNat ((gtD (y6.set y5.toNat (y4,(gtD y6 y5).2.1,(gtD y6 y5).2.2)) y5).1,(y4+(1:Int)),(gtD (y6.set y5.toNat (y4,(gtD y6 y5).2.1,(gtD y6 y5).2.2)) y5).2.2)) y5).1,(gtD ((y6.set y5.toNat (y4,(gtD y6 y5).2.1,(gtD y6 y5).2.2)).set y5.toNat ((gtD (y6.set y5.toNat (y4,(gtD y6 y5).2.1,(gtD y6 y5).2.2)) y5).1,(y4+(1:Int)),(gtD (y6.set y5.toNat (y4,(gtD y6 y5).2.1,(gtD y6 y5).2.2)) y5).2.2)) y5).2.1,((((y4+(1:Int))+(1:Int)).tmod (3:Int))==(0:Int)))))] A w:=hI.left hdn [(8,ob v0 (.vec B0 82 zA1 (((y6.set y5.toNat (y4,(gtD y6 y5).2.1,(gtD y6 y5).2.2)).set y5.toNat ((gtD (y6.set y5.toNat (y4,(gtD y6 y5).2.1,(gtD y6 y5).2.2)) y5).1,(y4+(1:Int)),(gtD (y6.set y5.toNat (y4,(gtD y6 y5).2.1,(gtD y6 y5).2.2)) y5).2.2)).set y5.toNat ((gtD ((y6.set y5.toNat (y4,(gtD y6 y5).2.1,(gtD y6 y5).2.2)).set y5.toNat ((gtD (y6.set y5.toNat (y4,(gtD y6 y5).2.1,(gtD y6 y5).2.2)) y5).1,(y4+(1:Int)),(gtD (y6.set y5.toNat (y4,(gtD y6 y5).2.1,(gtD y6 y5).2.2)) y5).2.2)) y5).1,(gtD ((y6.set y5.toNat (y4,(gtD y6 y5).2.1,(gtD y6 y5).2.2)).set y5.toNat ((gtD (y6.set y5.toNat (y4,(gtD y6 y5).2.1,(gtD y6 y5).2.2)) y5).1,(y4+(1:Int)),(gtD (y6.set y5.toNat (y4,(gtD y6 y5).2.1,(gtD y6 y5).2.2)) y5).2.2)) y5).2.1,((((y4+(1:Int))+(1:Int)).tmod (3:Int))==(0:Int))))))] ⟨rfl,rfl,z19,rfl,rfl,trivial⟩
      replace hA:=hI.avok
      clear hI
      obtain ⟨e20,hr⟩:=zAF hr
      refine HT.text (l:=⟨_,true,.raw (.int .i64 ((y4+(1:Int))+(1:Int)))⟩::⟨_,true,.raw (.int .i64 (((y4+(1:Int))+(1:Int))+(1:Int)))⟩::⟨_,true,.raw (.int .i64 (((y4+(1:Int))+(1:Int))+(1:Int)))⟩::[]) (tl:=[]) (by kernel_rfl) (by kernel_rfl) (by kernel_rfl) ?_ ?_
      · exact
          Obls.cons (Obl.plain rfl rfl fun R' w' hw hs hd=>by have a0:R' 1 = .int .i64 ((y4+(1:Int))+(1:Int)):=(hs 1 rfl).trans h1;exact zA5 a0) <|
          Obls.cons (Obl.plain rfl rfl fun R' w' hw hs hd=>by have a0:R' 33 = .int .i64 ((y4+(1:Int))+(1:Int)):=hd 0 _ _ _ rfl rfl rfl rfl rfl;exact zB8 a0 rfl e20) <|
          Obls.cons (Obl.plain rfl rfl fun R' w' hw hs hd=>by have a0:R' 34 = .int .i64 (((y4+(1:Int))+(1:Int))+(1:Int)):=hd 0 _ _ _ rfl rfl rfl rfl rfl;exact zA6 a0) <|
          Obls.nil
      intro R w hw hs hF'
      replace h0:R 0=v0:=(hs 0 rfl).trans h0
      replace h5:R 5 = .int .i64 y5:=(hs 5 rfl).trans h5
      have h1:R 1 = .int .i64 (((y4+(1:Int))+(1:Int))+(1:Int)):=hF' 2 _ _ rfl rfl rfl
      replace hO:=hO.fr hw
      replace hA:=hA.fr hw.size
      replace hF:=hF.tr (hw.ch noB) fun _ h=>False.elim h
      clear hs hF' hw
      refine zA4 ?_
      obtain ⟨e21,hr⟩:=zAF hr
      refine HT.text (l:=⟨_,true,.raw (.int .i64 y5)⟩::⟨_,true,.raw (.int .i64 (y5+(1:Int)))⟩::⟨_,true,.raw (.int .i64 (y5+(1:Int)))⟩::[]) (tl:=[]) (by kernel_rfl) (by kernel_rfl) (by kernel_rfl) ?_ ?_
      · exact
          Obls.cons (Obl.plain rfl rfl fun R' w' hw hs hd=>by have a0:R' 5 = .int .i64 y5:=(hs 5 rfl).trans h5;exact zA5 a0) <|
          Obls.cons (Obl.plain rfl rfl fun R' w' hw hs hd=>by have a0:R' 10 = .int .i64 y5:=hd 0 _ _ _ rfl rfl rfl rfl rfl;exact zB8 a0 rfl e21) <|
          Obls.cons (Obl.plain rfl rfl fun R' w' hw hs hd=>by have a0:R' 11 = .int .i64 (y5+(1:Int)):=hd 0 _ _ _ rfl rfl rfl rfl rfl;exact zA6 a0) <|
          Obls.nil
      intro R w hw hs hF'
      replace h0:R 0=v0:=(hs 0 rfl).trans h0
      replace h1:R 1 = .int .i64 (((y4+(1:Int))+(1:Int))+(1:Int)):=(hs 1 rfl).trans h1
      have h5:R 5 = .int .i64 (y5+(1:Int)):=hF' 2 _ _ rfl rfl rfl
      replace hO:=hO.fr hw
      replace hA:=hA.fr hw.size
      replace hF:=hF.tr (hw.ch noB) fun _ h=>False.elim h
      clear hs hF' hw
      refine zA4 ?_
      exact Exists.intro k (And.intro (Nat.lt_succ_self k) ⟨_,_,_,_,hr,hA,hF,hAA,hO,h0,h1,h5⟩)
    · have hr := zAp c7 hr
      refine HT.exit ?_
      obtain rfl:=Option.some.inj hr
      exact Exists.intro _ ⟨_,rfl,hA,hF,hAA,hO,h1⟩
  rintro R w ⟨A,s3,es,hA,hF,hAA,hO,h1⟩
  obtain rfl:=es.symm
  refine HT.seq ?_
  refine HT.text (l:=⟨_,true,.raw (.int .i64 s3.1)⟩::⟨_,true,.raw (.int .i64 s3.1)⟩::[]) (tl:=[]) (by kernel_rfl) (by kernel_rfl) (by kernel_rfl) ?_ ?_
  · exact
      Obls.cons (Obl.plain rfl rfl fun R' w' hw hs hd=>by have a0:R' 1 = .int .i64 s3.1:=(hs 1 rfl).trans h1;exact zA5 a0) <|
      Obls.cons (Obl.plain rfl rfl fun R' w' hw hs hd=>by have a0:R' 35 = .int .i64 s3.1:=hd 0 _ _ _ rfl rfl rfl rfl rfl;exact zA6 a0) <|
      Obls.nil
  intro R w hw hs hF'
  have h4:R 4 = .int .i64 s3.1:=hF' 1 _ _ rfl rfl rfl
  replace hO:=hO.fr hw
  replace hA:=hA.fr hw.size
  replace hF:=hF.tr (hw.ch noB) fun _ h=>False.elim h
  clear hs hF' hw
  refine zA4 ?_
  refine HT.ret ?_
  obtain rfl:=Option.some.inj hr
  exact ⟨.inr rfl,[R 4],⟨rfl,trivial⟩,h4,Vec.flat (hO.ok 0 _ rfl).1 (fun _ _ _ _ _ h=>h),hF⟩
end Go.Proofs.Ytmkgocdgkdglnaa
