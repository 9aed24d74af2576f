/- Own texts laid together. No statement of the seat is proved here. -/
import Derived.Test.YtmkgocdgkdglnaaZx3
namespace Go.Proofs.Ytmkgocdgkdglnaa
open Go.RowKit
set_option linter.unusedVariables false
def zAU (fu : Nat) (y7 : Int) (x14 : List Int) : Nat → Int → (List zA7) → Option (List zA7)
  | 0,_,_=>none
  | k+1,y20,y21=>
    bif (decide (y20 < (x14.length : Int))) then (
      ck (inR y20 x14.length) <|
      ck (zFo (y21.length+([(y7,(gtD x14 y20),false)]:List zA7).length)) <|
      ck (i64B (y20+(1:Int))) <|
      zAU fu y7 x14 k (y20+(1:Int)) (y21++([(y7,(gtD x14 y20),false)]:List zA7))
    ) else (
      some y21
    )
def zAi (fu : Nat) (p0 : zAH) : Nat → Int → (List zA7) → Option (List zA7)
  | 0,_,_=>none
  | k+1,y7,y8=>
    cl (true&&((decide (y7<(6:Int)))==true)) (zBj fu p0) fun x9=>
    bd ((decide (y7<(6:Int)))&&x9) fun x11=>
    bif x11 then (
      cl true (zC4 fu p0 y7) fun x14=>
      cl true (zAU fu y7 x14 fu (1:Int) y8) fun s19=>
      ck (i64B (y7+(1:Int))) <|
      zAi fu p0 k (y7+(1:Int)) s19
    ) else (
      some y8
    )
def zBA (fu:Nat) (p0:zAH):Option (List zA7):=
  cl true (zAi fu p0 fu (0:Int) ([]:List zA7)) fun s6=>
  some s6
set_option linter.unusedSimpArgs false in
set_option maxRecDepth 100000 in
set_option maxHeartbeats 4000000 in
theorem zDz {fu : Nat} {A0 : Av} {p0 : zAH} {r : List zA7} (hr : zBA fu p0 = some r) {w : World} {v0 : Value} (hA : AvOK A0 w) (h0 : Rep zA2 A0 w v0 p0) :
    Calls Try.prog 43 #[v0] w fun e w'=>∃ v,e = .returned v∧((Res.vec w.heap.size 82 zA1 r).ok (addA A0 v) v w'∧Fr w w'):=by
  unfold zBA at hr
  obtain ⟨w0,hw0⟩:∃ w0,w0=w:=⟨_,rfl⟩
  have hF:Fr w0 w:=hw0 ▸ Fr.refl _
  have hA0:∀ b o,A0 b o→b<w0.heap.size:=fun b o h=>hw0 ▸ hA b o h
  have hA00:AvOK A0 w0:=hA0
  rw [show w.heap.size=w0.heap.size from hw0 ▸ rfl]
  rw [show Fr w=Fr w0 from hw0 ▸ rfl]
  clear hw0
  obtain ⟨A,hAe⟩:∃ A,A=A0:=⟨_,rfl⟩
  have hAA:∀ b o,A0 b o→A b o:=fun b o h=>hAe ▸ h
  replace hA:AvOK A w:=hAe ▸ hA
  have hO:IniOK [] A w:=IniOK.nil
  refine zAI [.tmp 2] Try.func43 Try.ntmps43 (by decide) rfl rfl (Nat.le_of_ble_eq_true rfl) ?_
  intro R hR
  have f_v0:Rep zA2 A w v0 p0:=hAe ▸ h0
  replace h0:R 0=v0:=hR 0 _ rfl
  clear hR hAe
  refine HT.seq ?_
  refine HT.textR [] (⟨_,true,[],some (.box w0.heap.size 29 zA2 p0),true,fun A=>.any⟩::⟨_,true,[],none,true,fun A=>.any⟩::[]) (by kernel_rfl) (by kernel_rfl) (Wf.mk' (by kernel_rfl) (UAll.cons zAG (UAll.cons zAG (UAll.nil))) (by kernel_rfl) (by kernel_rfl)) hO hA ?_ ?_
  · exact
      zA9.cons (OblR.made _ rfl rfl rfl rfl fun A' R' w' ho hd=>by have a0:R' 0=v0:=(ho.old 0 rfl).trans h0;have ra0:=(f_v0.stp ho.stp).eq a0;exact zB9 ra0 (Nat.le_trans hF.size ho.ch.size)) <|
      zA9.cons (OblR.plain rfl rfl rfl rfl fun A' R' w' ho hd=>by exact zA6 trivial) <|
      zA9.nil
  intro done ρ σ A R w hdn hI
  obtain ⟨b1_0,e_b1_0⟩:=hI.boxv hdn 0 rfl rfl
  have h1:R 1=(.pointer (some ⟨b1_0,0,none⟩)):=(hI.opvR hdn 0 0 rfl rfl rfl rfl rfl).symm.trans e_b1_0
  replace hAA:=hI.low' hAA hA0 (hO.ge (trivial))
  replace hF:Fr w0 w:=hF.tr hI.ch (hO.ge (trivial))
  replace hO:IniOK [ob (.pointer (some ⟨b1_0,0,none⟩)) (.box w0.heap.size 29 zA2 p0)] A w:=hI.left hdn [(0,ob (.pointer (some ⟨b1_0,0,none⟩)) (.box w0.heap.size 29 zA2 p0))] ⟨rfl,rfl,e_b1_0,rfl,rfl,trivial⟩
  replace hA:=hI.avok
  clear hI
  refine HT.seq ?_
  refine HT.textR [ob (.pointer (some ⟨b1_0,0,none⟩)) (.box w0.heap.size 29 zA2 p0)] (⟨_,true,[],some (.vec w0.heap.size 82 zA1 ([]:List zA7)),true,fun A=>.any⟩::⟨_,true,[1],some (.vec w0.heap.size 82 zA1 ([]:List zA7)),true,fun A=>.any⟩::[]) (by kernel_rfl) (by kernel_rfl) (Wf.mk' (by kernel_rfl) (UAll.cons zAG (UAll.cons zAG (UAll.nil))) (by kernel_rfl) (by kernel_rfl)) hO hA ?_ ?_
  · exact
      zA9.cons (OblR.made _ rfl rfl rfl rfl fun A' R' w' ho hd=>by exact zFi [] (E:=zA1) trivial Try.underlying65 Try.sizeOf82 Try.zeroValue82 rfl rfl rfl (Nat.le_trans hF.size ho.ch.size)) <|
      zA9.cons (OblR.took 1 _ _ rfl rfl rfl rfl rfl fun A' R' w' ho hd u hok hav hin hop hds=>by exact zCA (hop _ _ rfl rfl rfl rfl).symm hok hav) <|
      zA9.nil
  intro done ρ σ A R w hdn hI
  replace h1:R 1=(.pointer (some ⟨b1_0,0,none⟩)):=(hI.reg rfl).trans h1
  have z2:=hI.inivR 0 rfl
  obtain ⟨u3,e_u3⟩:∃ u,ρ 2=u:=⟨_,rfl⟩
  have h3:R 3=u3:=(hI.opvR hdn 2 1 rfl rfl rfl rfl rfl).symm.trans e_u3
  replace hAA:=hI.low' hAA hA0 (hO.ge (⟨rfl,trivial⟩))
  replace hF:Fr w0 w:=hF.tr hI.ch (hO.ge (⟨rfl,trivial⟩))
  replace hO:IniOK [ob (.pointer (some ⟨b1_0,0,none⟩)) (.box w0.heap.size 29 zA2 p0),ob u3 (.vec w0.heap.size 82 zA1 ([]:List zA7))] A w:=hI.left hdn [(0,ob (.pointer (some ⟨b1_0,0,none⟩)) (.box w0.heap.size 29 zA2 p0)),(2,ob u3 (.vec w0.heap.size 82 zA1 ([]:List zA7)))] ⟨rfl,rfl,z2,rfl,rfl,⟨rfl,rfl,e_u3,rfl,rfl,trivial⟩⟩
  replace hA:=hI.avok
  clear hI
  refine HT.seq ?_
  refine HT.seq ?_
  refine HT.text (l:=⟨_,true,.raw (.int .i64 (0:Int))⟩::[]) (tl:=[]) (by kernel_rfl) (by kernel_rfl) (by kernel_rfl) ?_ ?_
  · exact
      Obls.cons (Obl.plain rfl rfl fun R' w' hw hs hd=>by exact zA6 rfl) <|
      Obls.nil
  intro R w hw hs hF'
  replace h1:R 1=(.pointer (some ⟨b1_0,0,none⟩)):=(hs 1 rfl).trans h1
  replace h3:R 3=u3:=(hs 3 rfl).trans h3
  have h4:R 4 = .int .i64 (0:Int):=hF' 0 _ _ rfl rfl rfl
  replace hO:=hO.fr hw
  replace hA:=hA.fr hw.size
  replace hF:=hF.trans hw
  clear hs hF' hw
  refine zA4 ?_
  obtain ⟨rl4,q5,hr⟩:=zAK hr
  replace q5:=q5 rfl
  refine HT.cut0 (fun R w=>∃ A:Av,∃ (s6:(List zA7)) (uo_u3:Value),rl4=s6∧AvOK A w∧Fr w0 w∧(∀ b o,A0 b o→A b o)∧IniOK [ob uo_u3 (.vec w0.heap.size 82 zA1 s6)] A w∧R 3=uo_u3) ?_ ?_
  · refine HT.block ?_
    refine HT.loop (fun k R w=>∃ A:Av,∃ (y7:Int) (y8:List zA7) (ul_u3:Value),zAi fu p0 k y7 y8=some rl4∧AvOK A w∧Fr w0 w∧(∀ b o,A0 b o→A b o)∧IniOK [ob (.pointer (some ⟨b1_0,0,none⟩)) (.box w0.heap.size 29 zA2 p0),ob ul_u3 (.vec w0.heap.size 82 zA1 y8)] A w∧R 1=(.pointer (some ⟨b1_0,0,none⟩))∧R 3=ul_u3∧R 4 = .int .i64 y7) fu ⟨_,_,_,u3,q5,hA,hF,hAA,hO,h1,h3,h4⟩ ?_
    have hr0:=hr;clear hr q5
    rintro k R w ⟨A,y7,y8,ul_u3,hr,hA,hF,hAA,hO,h1,h3,h4⟩
    rcases k with _ | k
    · cases (show none=some _ from hr)
    rw [zAi] at hr
    refine HT.seq ?_
    refine HT.seq ?_
    obtain ⟨x9,q10,hr⟩:=zAK hr
    obtain ⟨x11,q12,hr⟩:=zC9 hr
    refine HT.text (l:=⟨_,true,.raw (.int .i64 y7)⟩::⟨_,true,.raw (.bool (decide (y7<(6:Int))))⟩::⟨_,true,.raw (.bool (decide (y7<(6:Int))))⟩::⟨_,(true&&((decide (y7<(6:Int)))==true)),.rep zA2 A p0⟩::⟨_,(true&&((decide (y7<(6:Int)))==true)),.raw (.bool x9)⟩::⟨_,true,.raw (.bool x11)⟩::[]) (tl:=[]) (by kernel_rfl) (by kernel_rfl) (by kernel_rfl) ?_ ?_
    · exact
        Obls.cons (Obl.plain rfl rfl fun R' w' hw hs hd=>by have a0:R' 4 = .int .i64 y7:=(hs 4 rfl).trans h4;exact zA5 a0) <|
        Obls.cons (Obl.plain rfl rfl fun R' w' hw hs hd=>by have a0:R' 8 = .int .i64 y7:=hd 0 _ _ _ rfl rfl rfl rfl rfl;exact zBI a0 rfl) <|
        Obls.cons (Obl.plain rfl rfl fun R' w' hw hs hd=>by have a0:R' 9 = .bool (decide (y7<(6:Int))):=hd 0 _ _ _ rfl rfl rfl rfl rfl;exact zA5 a0) <|
        Obls.cons (Obl.grd 2 true _ _ _ rfl rfl rfl rfl rfl (by kernel_rfl) fun hg R' w' hw hs hd=>by have a0:R' 1=(.pointer (some ⟨b1_0,0,none⟩)):=(hs 1 rfl).trans h1;exact (zAD ((hO.fr hw).ok 0 _ rfl).1 a0 (Fld.id _) rfl Try.isAgg29 Try.sizeOf29)) <|
        Obls.cons (Obl.grd 2 true _ _ _ rfl rfl rfl rfl rfl (by kernel_rfl) fun hg R' w' hw hs hd=>by have a0:Rep zA2 A w' (R' 11) p0:=hd 0 _ _ _ rfl rfl rfl rfl hg;exact zAl Try.call26 (zDN (q10 hg) (hA.fr hw.size) a0)) <|
        Obls.cons (Obl.plain rfl rfl fun R' w' hw hs hd=>by have a0:R' 10 = .bool (decide (y7<(6:Int))):=hd 0 _ _ _ rfl rfl rfl rfl rfl;exact zCf (decide (y7<(6:Int))) a0 (fun hc=>by have a1:R' 12 = .bool x9:=hd 1 _ _ _ rfl rfl rfl rfl (zEq rfl (zDd hc));show _=Value.bool x11;rw [q12,hc];exact a1) (fun hc=>by show _=Value.bool x11;rw [q12,hc];exact rfl)) <|
        Obls.nil
    intro R w hw hs hF'
    replace h1:R 1=(.pointer (some ⟨b1_0,0,none⟩)):=(hs 1 rfl).trans h1
    replace h3:R 3=ul_u3:=(hs 3 rfl).trans h3
    replace h4:R 4 = .int .i64 y7:=(hs 4 rfl).trans h4
    have h13:R 13 = .bool x11:=hF' 5 _ _ rfl rfl rfl
    replace hO:=hO.fr hw
    replace hA:=hA.fr hw.size
    replace hF:=hF.trans hw
    clear hs hF' hw
    refine zA4 ?_
    refine HT.cond x11 h13 (fun c13=>?_) (fun c13=>?_)
    · have hr := zAq c13 hr
      refine HT.skip ?_
      refine HT.seq ?_
      refine HT.block ?_
      refine HT.seq ?_
      obtain ⟨x14,q15,hr⟩:=zAK hr
      refine HT.text (l:=⟨_,true,.rep zA2 A p0⟩::⟨_,true,.raw (.int .i64 y7)⟩::⟨_,true,.rep (eSl (eInt .i64)) A x14⟩::⟨_,true,.rep (eSl (eInt .i64)) A x14⟩::[]) (tl:=[]) (by kernel_rfl) (by kernel_rfl) (by kernel_rfl) ?_ ?_
      · exact
          Obls.cons (Obl.plain rfl rfl fun R' w' hw hs hd=>by have a0:R' 1=(.pointer (some ⟨b1_0,0,none⟩)):=(hs 1 rfl).trans h1;exact (zAD ((hO.fr hw).ok 0 _ rfl).1 a0 (Fld.id _) rfl Try.isAgg29 Try.sizeOf29)) <|
          Obls.cons (Obl.plain rfl rfl fun R' w' hw hs hd=>by have a0:R' 4 = .int .i64 y7:=(hs 4 rfl).trans h4;exact zA5 a0) <|
          Obls.cons (Obl.plain rfl rfl fun R' w' hw hs hd=>by have a0:Rep zA2 A w' (R' 16) p0:=hd 0 _ _ _ rfl rfl rfl rfl rfl;have a1:R' 17 = .int .i64 y7:=hd 1 _ _ _ rfl rfl rfl rfl rfl;exact zAl Try.call37 (zF3 (q15 rfl) (hA.fr hw.size) a0 a1)) <|
          Obls.cons (Obl.plain rfl rfl fun R' w' hw hs hd=>by have a0:Rep (eSl (eInt .i64)) A w' (R' 18) x14:=hd 0 _ _ _ rfl rfl rfl rfl rfl;exact zA6 a0) <|
          Obls.nil
      intro R w hw hs hF'
      replace h1:R 1=(.pointer (some ⟨b1_0,0,none⟩)):=(hs 1 rfl).trans h1
      replace h3:R 3=ul_u3:=(hs 3 rfl).trans h3
      replace h4:R 4 = .int .i64 y7:=(hs 4 rfl).trans h4
      obtain ⟨u16,h5,f_u16⟩:∃ u,R 5=u∧Rep (eSl (eInt .i64)) A w u x14:=⟨_,rfl,hF' 3 _ _ rfl rfl rfl⟩
      replace hO:=hO.fr hw
      replace hA:=hA.fr hw.size
      replace hF:=hF.trans hw
      clear hs hF' hw
      refine zA4 ?_
      refine HT.seq ?_
      refine HT.text (l:=⟨_,true,.raw (.int .i64 (1:Int))⟩::[]) (tl:=[]) (by kernel_rfl) (by kernel_rfl) (by kernel_rfl) ?_ ?_
      · exact
          Obls.cons (Obl.plain rfl rfl fun R' w' hw hs hd=>by exact zA6 rfl) <|
          Obls.nil
      intro R w hw hs hF'
      replace h1:R 1=(.pointer (some ⟨b1_0,0,none⟩)):=(hs 1 rfl).trans h1
      replace h3:R 3=ul_u3:=(hs 3 rfl).trans h3
      replace h4:R 4 = .int .i64 y7:=(hs 4 rfl).trans h4
      replace h5:R 5=u16:=(hs 5 rfl).trans h5
      have h6:R 6 = .int .i64 (1:Int):=hF' 0 _ _ rfl rfl rfl
      replace f_u16:=f_u16.fr hw
      replace hO:=hO.fr hw
      replace hA:=hA.fr hw.size
      replace hF:=hF.trans hw
      clear hs hF' hw
      refine zA4 ?_
      obtain ⟨rl17,q18,hr⟩:=zAK hr
      replace q18:=q18 rfl
      refine HT.cut0 (fun R w=>∃ A:Av,∃ (s19:(List zA7)) (uo_ul_u3:Value),rl17=s19∧AvOK A w∧Fr w0 w∧(∀ b o,A0 b o→A b o)∧IniOK [ob (.pointer (some ⟨b1_0,0,none⟩)) (.box w0.heap.size 29 zA2 p0),ob uo_ul_u3 (.vec w0.heap.size 82 zA1 s19)] A w∧R 1=(.pointer (some ⟨b1_0,0,none⟩))∧R 3=uo_ul_u3∧R 4 = .int .i64 y7) ?_ ?_
      · refine HT.block ?_
        refine HT.loop (fun k R w=>∃ A:Av,∃ (y20:Int) (y21:List zA7) (ul_ul_u3:Value),zAU fu y7 x14 k y20 y21=some rl17∧AvOK A w∧Fr w0 w∧(∀ b o,A0 b o→A b o)∧IniOK [ob (.pointer (some ⟨b1_0,0,none⟩)) (.box w0.heap.size 29 zA2 p0),ob ul_ul_u3 (.vec w0.heap.size 82 zA1 y21)] A w∧R 1=(.pointer (some ⟨b1_0,0,none⟩))∧R 3=ul_ul_u3∧R 4 = .int .i64 y7∧R 5=u16∧R 6 = .int .i64 y20∧Rep (eSl (eInt .i64)) A w u16 x14) fu ⟨_,_,_,ul_u3,q18,hA,hF,hAA,hO,h1,h3,h4,h5,h6,f_u16⟩ ?_
        have hr0:=hr;clear hr q18
        rintro k R w ⟨A,y20,y21,ul_ul_u3,hr,hA,hF,hAA,hO,h1,h3,h4,h5,h6,f_u16⟩
        rcases k with _ | k
        · cases (show none=some _ from hr)
        rw [zAU] at hr
        refine HT.seq ?_
        refine HT.seq ?_
        refine HT.text (l:=⟨_,true,.raw (.int .i64 y20)⟩::⟨_,true,.raw u16⟩::⟨_,true,.raw (.int .i64 (x14.length:Int))⟩::⟨_,true,.raw (.bool (decide (y20<(x14.length:Int))))⟩::[]) (tl:=[]) (by kernel_rfl) (by kernel_rfl) (by kernel_rfl) ?_ ?_
        · exact
            Obls.cons (Obl.plain rfl rfl fun R' w' hw hs hd=>by have a0:R' 6 = .int .i64 y20:=(hs 6 rfl).trans h6;exact zA5 a0) <|
            Obls.cons (Obl.plain rfl rfl fun R' w' hw hs hd=>by have a0:R' 5=u16:=(hs 5 rfl).trans h5;exact zA5 a0) <|
            Obls.cons (Obl.plain rfl rfl fun R' w' hw hs hd=>by have a0:R' 20=u16:=hd 0 _ _ _ rfl rfl rfl rfl rfl;have ra0:=(f_u16.fr hw).eq a0;exact zAd (aT:=#[]) ra0 Try.underlying33) <|
            Obls.cons (Obl.plain rfl rfl fun R' w' hw hs hd=>by have a0:R' 19 = .int .i64 y20:=hd 0 _ _ _ rfl rfl rfl rfl rfl;have a1:R' 21 = .int .i64 (x14.length:Int):=hd 1 _ _ _ rfl rfl rfl rfl rfl;exact zBI a0 a1) <|
            Obls.nil
        intro R w hw hs hF'
        replace h1:R 1=(.pointer (some ⟨b1_0,0,none⟩)):=(hs 1 rfl).trans h1
        replace h3:R 3=ul_ul_u3:=(hs 3 rfl).trans h3
        replace h4:R 4 = .int .i64 y7:=(hs 4 rfl).trans h4
        replace h5:R 5=u16:=(hs 5 rfl).trans h5
        replace h6:R 6 = .int .i64 y20:=(hs 6 rfl).trans h6
        have h22:R 22 = .bool (decide (y20<(x14.length:Int))):=hF' 3 _ _ rfl rfl rfl
        replace f_u16:=f_u16.fr hw
        replace hO:=hO.fr hw
        replace hA:=hA.fr hw.size
        replace hF:=hF.trans hw
        clear hs hF' hw
        refine zA4 ?_
        refine HT.cond (decide (y20<(x14.length:Int))) h22 (fun c22=>?_) (fun c22=>?_)
        · have hr := zAq c22 hr
          refine HT.skip ?_
          refine HT.seq ?_
          refine HT.block ?_
          obtain ⟨e23,hr⟩:=zAF hr
          obtain ⟨e24,hr⟩:=zAF hr
          refine HT.textR [ob (.pointer (some ⟨b1_0,0,none⟩)) (.box w0.heap.size 29 zA2 p0),ob ul_ul_u3 (.vec w0.heap.size 82 zA1 y21)] (⟨_,true,[],none,true,fun A=>.raw ul_ul_u3⟩::⟨_,true,[],none,true,fun A=>.raw (.int .i64 y7)⟩::⟨_,true,[],none,true,fun A=>.raw u16⟩::⟨_,true,[],none,true,fun A=>.raw (.int .i64 y20)⟩::⟨_,true,[],none,true,fun A=>.qtr (eInt .i64) A (gtD x14 y20)⟩::⟨_,true,[],none,true,fun A=>.raw (.int .i64 (gtD x14 y20))⟩::⟨_,true,[],none,true,fun A=>.rep zA1 A (y7,(gtD x14 y20),false)⟩::⟨_,true,[],none,true,fun A=>.rep (eSl zA1) A ([(y7,(gtD x14 y20),false)]:List zA7)⟩::⟨_,true,[1],some (.vec w0.heap.size 82 zA1 (y21++([(y7,(gtD x14 y20),false)]:List zA7))),true,fun A=>.any⟩::⟨_,true,[10],some (.vec w0.heap.size 82 zA1 (y21++([(y7,(gtD x14 y20),false)]:List zA7))),true,fun A=>.any⟩::[]) (by kernel_rfl) (by kernel_rfl) (Wf.mk' (by kernel_rfl) (UAll.cons zAA (UAll.cons zAA (UAll.cons zAA (UAll.cons zAA (UAll.cons zCI (UAll.cons zAA (UAll.cons zAn (UAll.cons zAn (UAll.cons zAG (UAll.cons zAG (UAll.nil))))))))))) (by kernel_rfl) (by kernel_rfl)) hO hA ?_ ?_
          · exact
              zA9.cons (OblR.plain rfl rfl rfl rfl fun A' R' w' ho hd=>by have a0:R' 3=ul_ul_u3:=(ho.old 3 rfl).trans h3;exact zA5 a0) <|
              zA9.cons (OblR.plain rfl rfl rfl rfl fun A' R' w' ho hd=>by have a0:R' 4 = .int .i64 y7:=(ho.old 4 rfl).trans h4;exact zA5 a0) <|
              zA9.cons (OblR.plain rfl rfl rfl rfl fun A' R' w' ho hd=>by have a0:R' 5=u16:=(ho.old 5 rfl).trans h5;exact zA5 a0) <|
              zA9.cons (OblR.plain rfl rfl rfl rfl fun A' R' w' ho hd=>by have a0:R' 6 = .int .i64 y20:=(ho.old 6 rfl).trans h6;exact zA5 a0) <|
              zA9.cons (OblR.plain rfl rfl rfl rfl fun A' R' w' ho hd=>by have a0:R' 27=u16:=hd 0 _ _ _ rfl rfl rfl rfl rfl;have a1:R' 28 = .int .i64 y20:=hd 1 _ _ _ rfl rfl rfl rfl rfl;have ra0:=(f_u16.stp ho.stp).eq a0;exact zAN ra0 a1 Try.underlying33 Try.sizeOf3 e23) <|
              zA9.cons (OblR.plain rfl rfl rfl rfl fun A' R' w' ho hd=>by have a0:QRep (eInt .i64) A' w' (R' 29) (gtD x14 y20):=hd 0 _ _ _ rfl rfl rfl rfl rfl;exact OpF.int (zAv a0.ptr Try.isAgg3 Try.sizeOf3)) <|
              zA9.cons (OblR.plain rfl rfl rfl rfl fun A' R' w' ho hd=>by have a0:R' 26 = .int .i64 y7:=hd 0 _ _ _ rfl rfl rfl rfl rfl;have a1:R' 30 = .int .i64 (gtD x14 y20):=hd 1 _ _ _ rfl rfl rfl rfl rfl;exact zE2 (v:=.agg #[.int .i64 y7,.int .i64 (gtD x14 y20),.bool false]) (by simp [execOp,Instr.build,zAL,a0,a1,underlying,Try.underlying82,Try.zeroValue82,Try.sizeOf3,Try.sizeOf4,go_sem,Instr.fill]) ⟨_,rfl,zBr zAe (zBr zAe zCr)⟩) <|
              zA9.cons (OblR.plain rfl rfl rfl rfl fun A' R' w' ho hd=>by have a0:Rep zA1 A' w' (R' 31) (y7,(gtD x14 y20),false):=hd 0 _ _ _ rfl rfl rfl rfl rfl;exact zFW [_] (E:=zA1) ⟨a0,trivial⟩ Try.underlying65 Try.sizeOf82 Try.zeroValue82 rfl rfl rfl ho.av) <|
              zA9.cons (OblR.took 1 _ _ rfl rfl rfl rfl rfl fun A' R' w' ho hd u hok hav hin hop hds=>by have a0:R' 25=ul_ul_u3:=hd 0 _ _ _ rfl rfl rfl rfl rfl;have a1:Rep (eSl zA1) A' w' (R' 32) ([(y7,(gtD x14 y20),false)]:List zA7):=hd 1 _ _ _ rfl rfl rfl rfl rfl;exact zEQ (a0.trans (hin _ rfl).symm) hok hav (Nat.le_trans hF.size ho.ch.size) a1 Try.underlying65 zLB e24) <|
              zA9.cons (OblR.took 10 _ _ rfl rfl rfl rfl rfl fun A' R' w' ho hd u hok hav hin hop hds=>by exact zCA (hop _ _ rfl rfl rfl rfl).symm hok hav) <|
              zA9.nil
          intro done ρ σ A R w hdn hI
          replace h1:R 1=(.pointer (some ⟨b1_0,0,none⟩)):=(hI.reg rfl).trans h1
          replace h4:R 4 = .int .i64 y7:=(hI.reg rfl).trans h4
          replace h5:R 5=u16:=(hI.reg rfl).trans h5
          replace h6:R 6 = .int .i64 y20:=(hI.reg rfl).trans h6
          have z25:=hI.inivR 0 rfl
          obtain ⟨u26,e_u26⟩:∃ u,ρ 11=u:=⟨_,rfl⟩
          have h3:R 3=u26:=(hI.opvR hdn 11 9 rfl rfl rfl rfl rfl).symm.trans e_u26
          replace f_u16:=f_u16.stp hI.stp
          replace hAA:=hI.low' hAA hA0 (hO.ge (⟨rfl,⟨rfl,trivial⟩⟩))
          replace hF:Fr w0 w:=hF.tr hI.ch (hO.ge (⟨rfl,⟨rfl,trivial⟩⟩))
          replace hO:IniOK [ob (.pointer (some ⟨b1_0,0,none⟩)) (.box w0.heap.size 29 zA2 p0),ob u26 (.vec w0.heap.size 82 zA1 (y21++([(y7,(gtD x14 y20),false)]:List zA7)))] A w:=hI.left hdn [(0,ob (.pointer (some ⟨b1_0,0,none⟩)) (.box w0.heap.size 29 zA2 p0)),(11,ob u26 (.vec w0.heap.size 82 zA1 (y21++([(y7,(gtD x14 y20),false)]:List zA7))))] ⟨rfl,rfl,z25,rfl,rfl,⟨rfl,rfl,e_u26,rfl,rfl,trivial⟩⟩
          replace hA:=hI.avok
          clear hI
          obtain ⟨e27,hr⟩:=zAF hr
          refine HT.text (l:=⟨_,true,.raw (.int .i64 y20)⟩::⟨_,true,.raw (.int .i64 (y20+(1:Int)))⟩::⟨_,true,.raw (.int .i64 (y20+(1:Int)))⟩::[]) (tl:=[]) (by kernel_rfl) (by kernel_rfl) (by kernel_rfl) ?_ ?_
          · exact
              Obls.cons (Obl.plain rfl rfl fun R' w' hw hs hd=>by have a0:R' 6 = .int .i64 y20:=(hs 6 rfl).trans h6;exact zA5 a0) <|
              Obls.cons (Obl.plain rfl rfl fun R' w' hw hs hd=>by have a0:R' 23 = .int .i64 y20:=hd 0 _ _ _ rfl rfl rfl rfl rfl;exact zB8 a0 rfl e27) <|
              Obls.cons (Obl.plain rfl rfl fun R' w' hw hs hd=>by have a0:R' 24 = .int .i64 (y20+(1:Int)):=hd 0 _ _ _ rfl rfl rfl rfl rfl;exact zA6 a0) <|
              Obls.nil
          intro R w hw hs hF'
          replace h1:R 1=(.pointer (some ⟨b1_0,0,none⟩)):=(hs 1 rfl).trans h1
          replace h3:R 3=u26:=(hs 3 rfl).trans h3
          replace h4:R 4 = .int .i64 y7:=(hs 4 rfl).trans h4
          replace h5:R 5=u16:=(hs 5 rfl).trans h5
          have h6:R 6 = .int .i64 (y20+(1:Int)):=hF' 2 _ _ rfl rfl rfl
          replace f_u16:=f_u16.fr hw
          replace hO:=hO.fr hw
          replace hA:=hA.fr hw.size
          replace hF:=hF.trans hw
          clear hs hF' hw
          refine zA4 ?_
          exact Exists.intro k (And.intro (Nat.lt_succ_self k) ⟨_,_,_,u26,hr,hA,hF,hAA,hO,h1,h3,h4,h5,h6,f_u16⟩)
        · have hr := zAp c22 hr
          refine HT.exit ?_
          obtain rfl:=Option.some.inj hr
          exact Exists.intro _ ⟨_,ul_ul_u3,rfl,hA,hF,hAA,hO,h1,h3,h4⟩
      rintro R w ⟨A,s19,uo_ul_u3,es,hA,hF,hAA,hO,h1,h3,h4⟩
      obtain rfl:=es.symm
      obtain ⟨e28,hr⟩:=zAF hr
      refine HT.text (l:=⟨_,true,.raw (.int .i64 y7)⟩::⟨_,true,.raw (.int .i64 (y7+(1:Int)))⟩::⟨_,true,.raw (.int .i64 (y7+(1:Int)))⟩::[]) (tl:=[]) (by kernel_rfl) (by kernel_rfl) (by kernel_rfl) ?_ ?_
      · exact
          Obls.cons (Obl.plain rfl rfl fun R' w' hw hs hd=>by have a0:R' 4 = .int .i64 y7:=(hs 4 rfl).trans h4;exact zA5 a0) <|
          Obls.cons (Obl.plain rfl rfl fun R' w' hw hs hd=>by have a0:R' 14 = .int .i64 y7:=hd 0 _ _ _ rfl rfl rfl rfl rfl;exact zB8 a0 rfl e28) <|
          Obls.cons (Obl.plain rfl rfl fun R' w' hw hs hd=>by have a0:R' 15 = .int .i64 (y7+(1:Int)):=hd 0 _ _ _ rfl rfl rfl rfl rfl;exact zA6 a0) <|
          Obls.nil
      intro R w hw hs hF'
      replace h1:R 1=(.pointer (some ⟨b1_0,0,none⟩)):=(hs 1 rfl).trans h1
      replace h3:R 3=uo_ul_u3:=(hs 3 rfl).trans h3
      have h4:R 4 = .int .i64 (y7+(1:Int)):=hF' 2 _ _ rfl rfl rfl
      replace hO:=hO.fr hw
      replace hA:=hA.fr hw.size
      replace hF:=hF.trans hw
      clear hs hF' hw
      refine zA4 ?_
      exact Exists.intro k (And.intro (Nat.lt_succ_self k) ⟨_,_,_,uo_ul_u3,hr,hA,hF,hAA,hO,h1,h3,h4⟩)
    · have hr := zAp c13 hr
      refine HT.exit ?_
      obtain rfl:=Option.some.inj hr
      replace hO:IniOK [ob ul_u3 (.vec w0.heap.size 82 zA1 y8)] A w:=hO.sub [(1,ob ul_u3 (.vec w0.heap.size 82 zA1 y8))] ⟨rfl,rfl,trivial⟩
      exact Exists.intro _ ⟨_,ul_u3,rfl,hA,hF,hAA,hO,h3⟩
  rintro R w ⟨A,s6,uo_u3,es,hA,hF,hAA,hO,h3⟩
  obtain rfl:=es.symm
  refine HT.seq ?_
  refine HT.text (l:=⟨_,true,.raw uo_u3⟩::⟨_,true,.raw uo_u3⟩::[]) (tl:=[]) (by kernel_rfl) (by kernel_rfl) (by kernel_rfl) ?_ ?_
  · exact
      Obls.cons (Obl.plain rfl rfl fun R' w' hw hs hd=>by have a0:R' 3=uo_u3:=(hs 3 rfl).trans h3;exact zA5 a0) <|
      Obls.cons (Obl.plain rfl rfl fun R' w' hw hs hd=>by have a0:R' 34=uo_u3:=hd 0 _ _ _ rfl rfl rfl rfl rfl;exact zA6 a0) <|
      Obls.nil
  intro R w hw hs hF'
  have h2:R 2=uo_u3:=hF' 1 _ _ rfl rfl rfl
  replace hO:=hO.fr hw
  replace hA:=hA.fr hw.size
  replace hF:=hF.trans hw
  clear hs hF' hw
  refine zA4 ?_
  refine HT.ret ?_
  obtain rfl:=Option.some.inj hr
  exact ⟨.inr rfl,[R 2],⟨rfl,trivial⟩,(zF1 (hO.ok 0 _ rfl) hAA h2),hF⟩
theorem zDs {fu : Nat} {A0 : Av} {p0 : zAH} {r : List zA7} (hr : zBA fu p0 = some r) {w : World} {v0 : Value} (hA : AvOK A0 w) (h0 : Rep zA2 A0 w v0 p0) :
    Calls Try.prog 43 #[v0] w fun e w'=>∃ v,e = .returned v∧(Rep (eSl zA1) A0 w' v r∧Fr w w'):=by
  refine Calls.mono (zDz hr hA h0) ?_
  rintro e w' ⟨v,he,hv,hf⟩
  exact ⟨v,he,zIg hv (fun b o h=>.inl h) hA,hf⟩
def zAh (fu : Nat) (p0 : zAH) (p1 : List zA7) (p2 : Int) (y5 : Int) (y11 : Int) : Nat → Bool → Int → Option Bool
  | 0,_,_=>none
  | k+1,y22,y23=>
    bif (decide (y23 < (p1.length : Int))) then (
      ck (inR y23 p1.length) <|
      ck (!(true&&((((gtD p1 y23).1)==((gtD (gtD p0 y5) y11).1))==true)) || inR y23 p1.length) <|
      bd ((((gtD p1 y23).1)==((gtD (gtD p0 y5) y11).1))&&(((gtD p1 y23).2.1)==((gtD (gtD p0 y5) y11).2.1))) fun x27=>
      ck (!(true&&(x27==true)) || decide (0≤y23)) <|
      bd (x27&&(((bitI (fun u v=>u &&& v) .i64 (p2 / 2 ^ min y23.toNat 64) (1:Int))==(1:Int))==((gtD (gtD p0 y5) y11).2.2))) fun x30=>
      bif x30 then (
        ck (i64B (y23+(1:Int))) <|
        zAh fu p0 p1 p2 y5 y11 k false (y23+(1:Int))
      ) else (
        ck (i64B (y23+(1:Int))) <|
        zAh fu p0 p1 p2 y5 y11 k y22 (y23+(1:Int))
      )
    ) else (
      some y22
    )
def zAs (fu : Nat) (p0 : zAH) (p1 : List zA7) (p2 : Int) (y5 : Int) : Nat → Bool → Int → Option Bool
  | 0,_,_=>none
  | k+1,y10,y11=>
    ck (inR y5 p0.length) <|
    bif (decide (y11 < ((gtD p0 y5).length : Int))) then (
      ck (inR y5 p0.length) <|
      ck (inR y11 (gtD p0 y5).length) <|
      cl true (zAh fu p0 p1 p2 y5 y11 fu y10 (0:Int)) fun s21=>
      ck (i64B (y11+(1:Int))) <|
      zAs fu p0 p1 p2 y5 k s21 (y11+(1:Int))
    ) else (
      some y10
    )
def zBV (fu : Nat) (p0 : zAH) (p1 : List zA7) (p2 : Int) : Nat → Int → Option (Ex Bool Unit)
  | 0,_=>none
  | k+1,y5=>
    bif (decide (y5 < (p0.length : Int))) then (
      cl true (zAs fu p0 p1 p2 y5 fu true (0:Int)) fun s9=>
      bif s9 then (
        some (Ex.ret true)
      ) else (
        ck (i64B (y5+(1:Int))) <|
        zBV fu p0 p1 p2 k (y5+(1:Int))
      )
    ) else (
      some (Ex.go ())
    )
def zCg (fu:Nat) (p0:zAH) (p1:List zA7) (p2:Int):Option Bool:=
  cl true (zBV fu p0 p1 p2 fu (0:Int)) fun rl2=>
  exM rl2 (fun r=>some r) fun s4=>
  some false
set_option maxRecDepth 100000 in
set_option maxHeartbeats 4000000 in
theorem zFa {fu : Nat} {A0 : Av} {p0 : zAH} {p1 : List zA7} {p2 : Int} {r : Bool} (hr : zCg fu p0 p1 p2 = some r) {w : World} {v0 : Value} {v1 : Value} {v2 : Value} (hA : AvOK A0 w) (h0 : Rep zA2 A0 w v0 p0) (h1 : Rep (eSl zA1) A0 w v1 p1) (h2 : v2 = .int .i64 p2) :
    Calls Try.prog 71 #[v0,v1,v2] w fun e w'=>∃ v,e = .returned v∧(v = .bool r∧Fr w w'):=by
  unfold zCg at hr
  obtain ⟨w0,hw0⟩:∃ w0,w0=w:=⟨_,rfl⟩
  have hF:Fr w0 w:=hw0 ▸ Fr.refl _
  have hA0:∀ b o,A0 b o→b<w0.heap.size:=fun b o h=>hw0 ▸ hA b o h
  have hA00:AvOK A0 w0:=hA0
  rw [show Fr w=Fr w0 from hw0 ▸ rfl]
  clear hw0
  obtain ⟨A,hAe⟩:∃ A,A=A0:=⟨_,rfl⟩
  have hAA:∀ b o,A0 b o→A b o:=fun b o h=>hAe ▸ h
  replace hA:AvOK A w:=hAe ▸ hA
  have hO:IniOK [] A w:=IniOK.nil
  refine zAI [.tmp 6] Try.func71 Try.ntmps71 (by decide) rfl rfl (Nat.le_of_ble_eq_true rfl) ?_
  intro R hR
  have f_v0:Rep zA2 A w v0 p0:=hAe ▸ h0
  replace h0:R 0=v0:=hR 0 _ rfl
  have f_v1:Rep (eSl zA1) A w v1 p1:=hAe ▸ h1
  replace h1:R 1=v1:=hR 1 _ rfl
  replace h2:R 2 = .int .i64 p2:=(hR 2 _ rfl).trans h2
  clear hR hAe
  refine HT.seq ?_
  refine HT.textR [] (⟨_,true,[],some (.box w0.heap.size 29 zA2 p0),true,fun A=>.any⟩::⟨_,true,[],none,true,fun A=>.raw (.bool false)⟩::[]) (by kernel_rfl) (by kernel_rfl) (Wf.mk' (by kernel_rfl) (UAll.cons zAG (UAll.cons zAA (UAll.nil))) (by kernel_rfl) (by kernel_rfl)) hO hA ?_ ?_
  · exact
      zA9.cons (OblR.made _ rfl rfl rfl rfl fun A' R' w' ho hd=>by have a0:R' 0=v0:=(ho.old 0 rfl).trans h0;have ra0:=(f_v0.stp ho.stp).eq a0;exact zB9 ra0 (Nat.le_trans hF.size ho.ch.size)) <|
      zA9.cons (OblR.plain rfl rfl rfl rfl fun A' R' w' ho hd=>by exact zA6 rfl) <|
      zA9.nil
  intro done ρ σ A R w hdn hI
  replace h1:R 1=v1:=(hI.reg rfl).trans h1
  replace h2:R 2 = .int .i64 p2:=(hI.reg rfl).trans h2
  obtain ⟨b3_0,e_b3_0⟩:=hI.boxv hdn 0 rfl rfl
  have h3:R 3=(.pointer (some ⟨b3_0,0,none⟩)):=(hI.opvR hdn 0 0 rfl rfl rfl rfl rfl).symm.trans e_b3_0
  replace f_v1:=f_v1.stp hI.stp
  replace hAA:=hI.low' hAA hA0 (hO.ge (trivial))
  replace hF:Fr w0 w:=hF.tr hI.ch (hO.ge (trivial))
  replace hO:IniOK [ob (.pointer (some ⟨b3_0,0,none⟩)) (.box w0.heap.size 29 zA2 p0)] A w:=hI.left hdn [(0,ob (.pointer (some ⟨b3_0,0,none⟩)) (.box w0.heap.size 29 zA2 p0))] ⟨rfl,rfl,e_b3_0,rfl,rfl,trivial⟩
  replace hA:=hI.avok
  clear hI
  refine HT.seq ?_
  refine HT.seq ?_
  refine HT.text (l:=⟨_,true,.raw (.int .i64 (0:Int))⟩::[]) (tl:=[]) (by kernel_rfl) (by kernel_rfl) (by kernel_rfl) ?_ ?_
  · exact
      Obls.cons (Obl.plain rfl rfl fun R' w' hw hs hd=>by exact zA6 rfl) <|
      Obls.nil
  intro R w hw hs hF'
  replace h1:R 1=v1:=(hs 1 rfl).trans h1
  replace h2:R 2 = .int .i64 p2:=(hs 2 rfl).trans h2
  replace h3:R 3=(.pointer (some ⟨b3_0,0,none⟩)):=(hs 3 rfl).trans h3
  have h7:R 7 = .int .i64 (0:Int):=hF' 0 _ _ rfl rfl rfl
  replace f_v1:=f_v1.fr hw
  replace hO:=hO.fr hw
  replace hA:=hA.fr hw.size
  replace hF:=hF.trans hw
  clear hs hF' hw
  refine zA4 ?_
  obtain ⟨rl2,q3,hr⟩:=zAK hr
  replace q3:=q3 rfl
  refine HT.cut0 (fun R w=>∃ A:Av,∃ (s4:Unit),rl2=Ex.go s4∧AvOK A w∧Fr w0 w∧(∀ b o,A0 b o→A b o)∧IniOK [] A w) ?_ ?_
  · refine HT.block ?_
    refine HT.loop (fun k R w=>∃ A:Av,∃ (y5:Int),zBV fu p0 p1 p2 k y5=some rl2∧AvOK A w∧Fr w0 w∧(∀ b o,A0 b o→A b o)∧IniOK [ob (.pointer (some ⟨b3_0,0,none⟩)) (.box w0.heap.size 29 zA2 p0)] A w∧R 1=v1∧R 2 = .int .i64 p2∧R 3=(.pointer (some ⟨b3_0,0,none⟩))∧R 7 = .int .i64 y5∧Rep (eSl zA1) A w v1 p1) fu ⟨_,_,q3,hA,hF,hAA,hO,h1,h2,h3,h7,f_v1⟩ ?_
    have hr0:=hr;clear hr q3
    rintro k R w ⟨A,y5,hr,hA,hF,hAA,hO,h1,h2,h3,h7,f_v1⟩
    rcases k with _ | k
    · cases (show none=some _ from hr)
    rw [zBV] at hr
    refine HT.seq ?_
    refine HT.seq ?_
    refine HT.text (l:=⟨_,true,.raw (.int .i64 y5)⟩::⟨_,true,.raw (.pointer (some ⟨b3_0,0,none⟩))⟩::⟨_,true,.rep (eSl zAC) A p0⟩::⟨_,true,.raw (.int .i64 (p0.length:Int))⟩::⟨_,true,.raw (.bool (decide (y5<(p0.length:Int))))⟩::[]) (tl:=[]) (by kernel_rfl) (by kernel_rfl) (by kernel_rfl) ?_ ?_
    · exact
        Obls.cons (Obl.plain rfl rfl fun R' w' hw hs hd=>by have a0:R' 7 = .int .i64 y5:=(hs 7 rfl).trans h7;exact zA5 a0) <|
        Obls.cons (Obl.plain rfl rfl fun R' w' hw hs hd=>by have a0:R' 3=(.pointer (some ⟨b3_0,0,none⟩)):=(hs 3 rfl).trans h3;exact zAB a0 zCl Try.sizeOf27 (by decide) rfl) <|
        Obls.cons (Obl.plain rfl rfl fun R' w' hw hs hd=>by have a0:R' 13=(.pointer (some ⟨b3_0,0,none⟩)):=hd 0 _ _ _ rfl rfl rfl rfl rfl;exact (zAD ((hO.fr hw).ok 0 _ rfl).1 a0 zAg rfl Try.isAgg27 Try.sizeOf27)) <|
        Obls.cons (Obl.plain rfl rfl fun R' w' hw hs hd=>by have a0:Rep (eSl zAC) A w' (R' 14) p0:=hd 0 _ _ _ rfl rfl rfl rfl rfl;exact zAd (aT:=#[]) a0 Try.underlying27) <|
        Obls.cons (Obl.plain rfl rfl fun R' w' hw hs hd=>by have a0:R' 12 = .int .i64 y5:=hd 0 _ _ _ rfl rfl rfl rfl rfl;have a1:R' 15 = .int .i64 (p0.length:Int):=hd 1 _ _ _ rfl rfl rfl rfl rfl;exact zBI a0 a1) <|
        Obls.nil
    intro R w hw hs hF'
    replace h1:R 1=v1:=(hs 1 rfl).trans h1
    replace h2:R 2 = .int .i64 p2:=(hs 2 rfl).trans h2
    replace h3:R 3=(.pointer (some ⟨b3_0,0,none⟩)):=(hs 3 rfl).trans h3
    replace h7:R 7 = .int .i64 y5:=(hs 7 rfl).trans h7
    have h16:R 16 = .bool (decide (y5<(p0.length:Int))):=hF' 4 _ _ rfl rfl rfl
    replace f_v1:=f_v1.fr hw
    replace hO:=hO.fr hw
    replace hA:=hA.fr hw.size
    replace hF:=hF.trans hw
    clear hs hF' hw
    refine zA4 ?_
    refine HT.cond (decide (y5<(p0.length:Int))) h16 (fun c6=>?_) (fun c6=>?_)
    · have hr := zAq c6 hr
      refine HT.skip ?_
      refine HT.seq ?_
      refine HT.block ?_
      refine HT.seq ?_
      refine HT.text (l:=⟨_,true,.raw (.bool true)⟩::[]) (tl:=[]) (by kernel_rfl) (by kernel_rfl) (by kernel_rfl) ?_ ?_
      · exact
          Obls.cons (Obl.plain rfl rfl fun R' w' hw hs hd=>by exact zA6 rfl) <|
          Obls.nil
      intro R w hw hs hF'
      replace h1:R 1=v1:=(hs 1 rfl).trans h1
      replace h2:R 2 = .int .i64 p2:=(hs 2 rfl).trans h2
      replace h3:R 3=(.pointer (some ⟨b3_0,0,none⟩)):=(hs 3 rfl).trans h3
      replace h7:R 7 = .int .i64 y5:=(hs 7 rfl).trans h7
      have h8:R 8 = .bool true:=hF' 0 _ _ rfl rfl rfl
      replace f_v1:=f_v1.fr hw
      replace hO:=hO.fr hw
      replace hA:=hA.fr hw.size
      replace hF:=hF.trans hw
      clear hs hF' hw
      refine zA4 ?_
      refine HT.seq ?_
      refine HT.seq ?_
      refine HT.text (l:=⟨_,true,.raw (.int .i64 (0:Int))⟩::[]) (tl:=[]) (by kernel_rfl) (by kernel_rfl) (by kernel_rfl) ?_ ?_
      · exact
          Obls.cons (Obl.plain rfl rfl fun R' w' hw hs hd=>by exact zA6 rfl) <|
          Obls.nil
      intro R w hw hs hF'
      replace h1:R 1=v1:=(hs 1 rfl).trans h1
      replace h2:R 2 = .int .i64 p2:=(hs 2 rfl).trans h2
      replace h3:R 3=(.pointer (some ⟨b3_0,0,none⟩)):=(hs 3 rfl).trans h3
      replace h7:R 7 = .int .i64 y5:=(hs 7 rfl).trans h7
      replace h8:R 8 = .bool true:=(hs 8 rfl).trans h8
      have h9:R 9 = .int .i64 (0:Int):=hF' 0 _ _ rfl rfl rfl
      replace f_v1:=f_v1.fr hw
      replace hO:=hO.fr hw
      replace hA:=hA.fr hw.size
      replace hF:=hF.trans hw
      clear hs hF' hw
      refine zA4 ?_
      obtain ⟨rl7,q8,hr⟩:=zAK hr
      replace q8:=q8 rfl
      refine HT.cut0 (fun R w=>∃ A:Av,∃ (s9:Bool),rl7=s9∧AvOK A w∧Fr w0 w∧(∀ b o,A0 b o→A b o)∧IniOK [ob (.pointer (some ⟨b3_0,0,none⟩)) (.box w0.heap.size 29 zA2 p0)] A w∧R 1=v1∧R 2 = .int .i64 p2∧R 3=(.pointer (some ⟨b3_0,0,none⟩))∧R 7 = .int .i64 y5∧R 8 = .bool s9∧Rep (eSl zA1) A w v1 p1) ?_ ?_
      · refine HT.block ?_
        refine HT.loop (fun k R w=>∃ A:Av,∃ (y10:Bool) (y11:Int),zAs fu p0 p1 p2 y5 k y10 y11=some rl7∧AvOK A w∧Fr w0 w∧(∀ b o,A0 b o→A b o)∧IniOK [ob (.pointer (some ⟨b3_0,0,none⟩)) (.box w0.heap.size 29 zA2 p0)] A w∧R 1=v1∧R 2 = .int .i64 p2∧R 3=(.pointer (some ⟨b3_0,0,none⟩))∧R 7 = .int .i64 y5∧R 8 = .bool y10∧R 9 = .int .i64 y11∧Rep (eSl zA1) A w v1 p1) fu ⟨_,_,_,q8,hA,hF,hAA,hO,h1,h2,h3,h7,h8,h9,f_v1⟩ ?_
        have hr1:=hr;clear hr q8
        rintro k R w ⟨A,y10,y11,hr,hA,hF,hAA,hO,h1,h2,h3,h7,h8,h9,f_v1⟩
        rcases k with _ | k
        · cases (show none=some _ from hr)
        rw [zAs] at hr
        refine HT.seq ?_
        refine HT.seq ?_
        obtain ⟨e12,hr⟩:=zAF hr
        refine HT.text (l:=⟨_,true,.raw (.int .i64 y11)⟩::⟨_,true,.raw (.pointer (some ⟨b3_0,0,none⟩))⟩::⟨_,true,.rep (eSl zAC) A p0⟩::⟨_,true,.raw (.int .i64 y5)⟩::⟨_,true,.qtr zAC A (gtD p0 y5)⟩::⟨_,true,.qtr (eSl zA1) A (gtD p0 y5)⟩::⟨_,true,.rep (eSl zA1) A (gtD p0 y5)⟩::⟨_,true,.raw (.int .i64 ((gtD p0 y5).length:Int))⟩::⟨_,true,.raw (.bool (decide (y11<((gtD p0 y5).length:Int))))⟩::[]) (tl:=[]) (by kernel_rfl) (by kernel_rfl) (by kernel_rfl) ?_ ?_
        · exact
            Obls.cons (Obl.plain rfl rfl fun R' w' hw hs hd=>by have a0:R' 9 = .int .i64 y11:=(hs 9 rfl).trans h9;exact zA5 a0) <|
            Obls.cons (Obl.plain rfl rfl fun R' w' hw hs hd=>by have a0:R' 3=(.pointer (some ⟨b3_0,0,none⟩)):=(hs 3 rfl).trans h3;exact zAB a0 zCl Try.sizeOf27 (by decide) rfl) <|
            Obls.cons (Obl.plain rfl rfl fun R' w' hw hs hd=>by have a0:R' 20=(.pointer (some ⟨b3_0,0,none⟩)):=hd 0 _ _ _ rfl rfl rfl rfl rfl;exact (zAD ((hO.fr hw).ok 0 _ rfl).1 a0 zAg rfl Try.isAgg27 Try.sizeOf27)) <|
            Obls.cons (Obl.plain rfl rfl fun R' w' hw hs hd=>by have a0:R' 7 = .int .i64 y5:=(hs 7 rfl).trans h7;exact zA5 a0) <|
            Obls.cons (Obl.plain rfl rfl fun R' w' hw hs hd=>by have a0:Rep (eSl zAC) A w' (R' 21) p0:=hd 0 _ _ _ rfl rfl rfl rfl rfl;have a1:R' 22 = .int .i64 y5:=hd 1 _ _ _ rfl rfl rfl rfl rfl;exact zAN a0 a1 Try.underlying27 Try.sizeOf79 e12) <|
            Obls.cons (Obl.plain rfl rfl fun R' w' hw hs hd=>by have a0:QRep zAC A w' (R' 23) (gtD p0 y5):=hd 0 _ _ _ rfl rfl rfl rfl rfl;exact zAc a0 zDV Try.sizeOf65 (by decide) zBM rfl) <|
            Obls.cons (Obl.plain rfl rfl fun R' w' hw hs hd=>by have a0:QRep (eSl zA1) A w' (R' 24) (gtD p0 y5):=hd 0 _ _ _ rfl rfl rfl rfl rfl;exact (zAv a0.ptr Try.isAgg65 Try.sizeOf65)) <|
            Obls.cons (Obl.plain rfl rfl fun R' w' hw hs hd=>by have a0:Rep (eSl zA1) A w' (R' 25) (gtD p0 y5):=hd 0 _ _ _ rfl rfl rfl rfl rfl;exact zAd (aT:=#[]) a0 Try.underlying65) <|
            Obls.cons (Obl.plain rfl rfl fun R' w' hw hs hd=>by have a0:R' 19 = .int .i64 y11:=hd 0 _ _ _ rfl rfl rfl rfl rfl;have a1:R' 26 = .int .i64 ((gtD p0 y5).length:Int):=hd 1 _ _ _ rfl rfl rfl rfl rfl;exact zBI a0 a1) <|
            Obls.nil
        intro R w hw hs hF'
        replace h1:R 1=v1:=(hs 1 rfl).trans h1
        replace h2:R 2 = .int .i64 p2:=(hs 2 rfl).trans h2
        replace h3:R 3=(.pointer (some ⟨b3_0,0,none⟩)):=(hs 3 rfl).trans h3
        replace h7:R 7 = .int .i64 y5:=(hs 7 rfl).trans h7
        replace h8:R 8 = .bool y10:=(hs 8 rfl).trans h8
        replace h9:R 9 = .int .i64 y11:=(hs 9 rfl).trans h9
        have h27:R 27 = .bool (decide (y11<((gtD p0 y5).length:Int))):=hF' 8 _ _ rfl rfl rfl
        replace f_v1:=f_v1.fr hw
        replace hO:=hO.fr hw
        replace hA:=hA.fr hw.size
        replace hF:=hF.trans hw
        clear hs hF' hw
        refine zA4 ?_
        refine HT.cond (decide (y11<((gtD p0 y5).length:Int))) h27 (fun c13=>?_) (fun c13=>?_)
        · have hr := zAq c13 hr
          refine HT.skip ?_
          refine HT.seq ?_
          refine HT.block ?_
          refine HT.seq ?_
          obtain ⟨e14,hr⟩:=zAF hr
          obtain ⟨e15,hr⟩:=zAF hr
          refine HT.textR [ob (.pointer (some ⟨b3_0,0,none⟩)) (.box w0.heap.size 29 zA2 p0)] (⟨_,true,[],none,true,fun A=>.raw (.pointer (some ⟨b3_0,0,none⟩))⟩::⟨_,true,[],none,true,fun A=>.rep (eSl zAC) A p0⟩::⟨_,true,[],none,true,fun A=>.raw (.int .i64 y5)⟩::⟨_,true,[],none,true,fun A=>.qtr zAC A (gtD p0 y5)⟩::⟨_,true,[],none,true,fun A=>.qtr (eSl zA1) A (gtD p0 y5)⟩::⟨_,true,[],none,true,fun A=>.rep (eSl zA1) A (gtD p0 y5)⟩::⟨_,true,[],none,true,fun A=>.raw (.int .i64 y11)⟩::⟨_,true,[],none,true,fun A=>.qtr zA1 A (gtD (gtD p0 y5) y11)⟩::⟨_,true,[],none,true,fun A=>.rep zA1 A (gtD (gtD p0 y5) y11)⟩::⟨_,true,[],some (.box w0.heap.size 82 zA1 ((0:Int),((0:Int),false))),true,fun A=>.any⟩::⟨_,true,[10],some (.box w0.heap.size 82 zA1 (gtD (gtD p0 y5) y11)),false,fun A=>.any⟩::[]) (by kernel_rfl) (by kernel_rfl) (Wf.mk' (by kernel_rfl) (UAll.cons zAA (UAll.cons zAn (UAll.cons zAA (UAll.cons zCI (UAll.cons zCI (UAll.cons zAn (UAll.cons zAA (UAll.cons zCI (UAll.cons zAn (UAll.cons zAG (UAll.cons zAG (UAll.nil)))))))))))) (by kernel_rfl) (by kernel_rfl)) hO hA ?_ ?_
          · exact
              zA9.cons (OblR.plain rfl rfl rfl rfl fun A' R' w' ho hd=>by have a0:R' 3=(.pointer (some ⟨b3_0,0,none⟩)):=(ho.old 3 rfl).trans h3;exact zAB a0 zCl Try.sizeOf27 (by decide) rfl) <|
              zA9.cons (OblR.plain rfl rfl rfl rfl fun A' R' w' ho hd=>by have a0:R' 30=(.pointer (some ⟨b3_0,0,none⟩)):=hd 0 _ _ _ rfl rfl rfl rfl rfl;exact (zAD (ho.rd 0 _ rfl rfl) a0 zAg rfl Try.isAgg27 Try.sizeOf27)) <|
              zA9.cons (OblR.plain rfl rfl rfl rfl fun A' R' w' ho hd=>by have a0:R' 7 = .int .i64 y5:=(ho.old 7 rfl).trans h7;exact zA5 a0) <|
              zA9.cons (OblR.plain rfl rfl rfl rfl fun A' R' w' ho hd=>by have a0:Rep (eSl zAC) A' w' (R' 31) p0:=hd 0 _ _ _ rfl rfl rfl rfl rfl;have a1:R' 32 = .int .i64 y5:=hd 1 _ _ _ rfl rfl rfl rfl rfl;exact zAN a0 a1 Try.underlying27 Try.sizeOf79 e14) <|
              zA9.cons (OblR.plain rfl rfl rfl rfl fun A' R' w' ho hd=>by have a0:QRep zAC A' w' (R' 33) (gtD p0 y5):=hd 0 _ _ _ rfl rfl rfl rfl rfl;exact zAc a0 zDV Try.sizeOf65 (by decide) zBM rfl) <|
              zA9.cons (OblR.plain rfl rfl rfl rfl fun A' R' w' ho hd=>by have a0:QRep (eSl zA1) A' w' (R' 34) (gtD p0 y5):=hd 0 _ _ _ rfl rfl rfl rfl rfl;exact (zAv a0.ptr Try.isAgg65 Try.sizeOf65)) <|
              zA9.cons (OblR.plain rfl rfl rfl rfl fun A' R' w' ho hd=>by have a0:R' 9 = .int .i64 y11:=(ho.old 9 rfl).trans h9;exact zA5 a0) <|
              zA9.cons (OblR.plain rfl rfl rfl rfl fun A' R' w' ho hd=>by have a0:Rep (eSl zA1) A' w' (R' 35) (gtD p0 y5):=hd 0 _ _ _ rfl rfl rfl rfl rfl;have a1:R' 36 = .int .i64 y11:=hd 1 _ _ _ rfl rfl rfl rfl rfl;exact zAN a0 a1 Try.underlying65 Try.sizeOf82 e15) <|
              zA9.cons (OblR.plain rfl rfl rfl rfl fun A' R' w' ho hd=>by have a0:QRep zA1 A' w' (R' 37) (gtD (gtD p0 y5) y11):=hd 0 _ _ _ rfl rfl rfl rfl rfl;exact (zAv a0.ptr Try.isAgg82 Try.sizeOf82)) <|
              zA9.cons (OblR.made _ rfl rfl rfl rfl fun A' R' w' ho hd=>by exact zC5 Try.zeroValue82 (fun A w=>zBr zAe (zBr zAe zCr)) (Nat.le_trans hF.size ho.ch.size)) <|
              zA9.cons (OblR.took 10 _ _ rfl rfl rfl rfl rfl fun A' R' w' ho hd u hok hav hin hop hds=>by have a1:Rep zA1 A' w' (R' 38) (gtD (gtD p0 y5) y11):=hd 1 _ _ _ rfl rfl rfl rfl rfl;obtain ⟨b,hb,hB',hbx⟩:=hok;have hop':=hop _ _ rfl rfl rfl rfl;exact zBY a1 (hop'.symm.trans hb) hb ⟨b,hb,hB',hbx⟩ hav (FldS.id _) Try.sizeOf82 rfl) <|
              zA9.nil
          intro done ρ σ A R w hdn hI
          replace h1:R 1=v1:=(hI.reg rfl).trans h1
          replace h2:R 2 = .int .i64 p2:=(hI.reg rfl).trans h2
          replace h3:R 3=(.pointer (some ⟨b3_0,0,none⟩)):=(hI.reg rfl).trans h3
          replace h7:R 7 = .int .i64 y5:=(hI.reg rfl).trans h7
          replace h8:R 8 = .bool y10:=(hI.reg rfl).trans h8
          replace h9:R 9 = .int .i64 y11:=(hI.reg rfl).trans h9
          have z16:=hI.inivR 0 rfl
          obtain ⟨b10_16,e_b10_16⟩:=hI.boxv hdn 11 rfl rfl
          have z18:=(hI.opnR hdn 11 10 rfl rfl rfl rfl rfl).symm.trans e_b10_16
          have h10:R 10=(.pointer (some ⟨b10_16,0,none⟩)):=(hI.opvR hdn 10 9 rfl rfl rfl rfl rfl).symm.trans z18
          replace f_v1:=f_v1.stp hI.stp
          replace hAA:=hI.low' hAA hA0 (hO.ge (⟨rfl,trivial⟩))
          replace hF:Fr w0 w:=hF.tr hI.ch (hO.ge (⟨rfl,trivial⟩))
          replace hO:IniOK [ob (.pointer (some ⟨b3_0,0,none⟩)) (.box w0.heap.size 29 zA2 p0),ob (.pointer (some ⟨b10_16,0,none⟩)) (.box w0.heap.size 82 zA1 (gtD (gtD p0 y5) y11))] A w:=hI.left hdn [(0,ob (.pointer (some ⟨b3_0,0,none⟩)) (.box w0.heap.size 29 zA2 p0)),(11,ob (.pointer (some ⟨b10_16,0,none⟩)) (.box w0.heap.size 82 zA1 (gtD (gtD p0 y5) y11)))] ⟨rfl,rfl,z16,rfl,rfl,⟨rfl,rfl,e_b10_16,rfl,rfl,trivial⟩⟩
          replace hA:=hI.avok
          clear hI
          refine HT.seq ?_
          refine HT.text (l:=⟨_,true,.raw (.int .i64 (0:Int))⟩::[]) (tl:=[]) (by kernel_rfl) (by kernel_rfl) (by kernel_rfl) ?_ ?_
          · exact
              Obls.cons (Obl.plain rfl rfl fun R' w' hw hs hd=>by exact zA6 rfl) <|
              Obls.nil
          intro R w hw hs hF'
          replace h1:R 1=v1:=(hs 1 rfl).trans h1
          replace h2:R 2 = .int .i64 p2:=(hs 2 rfl).trans h2
          replace h3:R 3=(.pointer (some ⟨b3_0,0,none⟩)):=(hs 3 rfl).trans h3
          replace h7:R 7 = .int .i64 y5:=(hs 7 rfl).trans h7
          replace h8:R 8 = .bool y10:=(hs 8 rfl).trans h8
          replace h9:R 9 = .int .i64 y11:=(hs 9 rfl).trans h9
          replace h10:R 10=(.pointer (some ⟨b10_16,0,none⟩)):=(hs 10 rfl).trans h10
          have h11:R 11 = .int .i64 (0:Int):=hF' 0 _ _ rfl rfl rfl
          replace f_v1:=f_v1.fr hw
          replace hO:=hO.fr hw
          replace hA:=hA.fr hw.size
          replace hF:=hF.trans hw
          clear hs hF' hw
          refine zA4 ?_
          obtain ⟨rl19,q20,hr⟩:=zAK hr
          replace q20:=q20 rfl
          refine HT.cut0 (fun R w=>∃ A:Av,∃ (s21:Bool),rl19=s21∧AvOK A w∧Fr w0 w∧(∀ b o,A0 b o→A b o)∧IniOK [ob (.pointer (some ⟨b3_0,0,none⟩)) (.box w0.heap.size 29 zA2 p0)] A w∧R 1=v1∧R 2 = .int .i64 p2∧R 3=(.pointer (some ⟨b3_0,0,none⟩))∧R 7 = .int .i64 y5∧R 8 = .bool s21∧R 9 = .int .i64 y11∧Rep (eSl zA1) A w v1 p1) ?_ ?_
          · refine HT.block ?_
            refine HT.loop (fun k R w=>∃ A:Av,∃ (y22:Bool) (y23:Int),zAh fu p0 p1 p2 y5 y11 k y22 y23=some rl19∧AvOK A w∧Fr w0 w∧(∀ b o,A0 b o→A b o)∧IniOK [ob (.pointer (some ⟨b3_0,0,none⟩)) (.box w0.heap.size 29 zA2 p0),ob (.pointer (some ⟨b10_16,0,none⟩)) (.box w0.heap.size 82 zA1 (gtD (gtD p0 y5) y11))] A w∧R 1=v1∧R 2 = .int .i64 p2∧R 3=(.pointer (some ⟨b3_0,0,none⟩))∧R 7 = .int .i64 y5∧R 8 = .bool y22∧R 9 = .int .i64 y11∧R 10=(.pointer (some ⟨b10_16,0,none⟩))∧R 11 = .int .i64 y23∧Rep (eSl zA1) A w v1 p1) fu ⟨_,_,_,q20,hA,hF,hAA,hO,h1,h2,h3,h7,h8,h9,h10,h11,f_v1⟩ ?_
            have hr1:=hr;clear hr q20
            rintro k R w ⟨A,y22,y23,hr,hA,hF,hAA,hO,h1,h2,h3,h7,h8,h9,h10,h11,f_v1⟩
            rcases k with _ | k
            · cases (show none=some _ from hr)
            rw [zAh] at hr
            refine HT.seq ?_
            refine HT.seq ?_
            refine HT.text (l:=⟨_,true,.raw (.int .i64 y23)⟩::⟨_,true,.raw v1⟩::⟨_,true,.raw (.int .i64 (p1.length:Int))⟩::⟨_,true,.raw (.bool (decide (y23<(p1.length:Int))))⟩::[]) (tl:=[]) (by kernel_rfl) (by kernel_rfl) (by kernel_rfl) ?_ ?_
            · exact
                Obls.cons (Obl.plain rfl rfl fun R' w' hw hs hd=>by have a0:R' 11 = .int .i64 y23:=(hs 11 rfl).trans h11;exact zA5 a0) <|
                Obls.cons (Obl.plain rfl rfl fun R' w' hw hs hd=>by have a0:R' 1=v1:=(hs 1 rfl).trans h1;exact zA5 a0) <|
                Obls.cons (Obl.plain rfl rfl fun R' w' hw hs hd=>by have a0:R' 40=v1:=hd 0 _ _ _ rfl rfl rfl rfl rfl;have ra0:=(f_v1.fr hw).eq a0;exact zAd (aT:=#[]) ra0 Try.underlying65) <|
                Obls.cons (Obl.plain rfl rfl fun R' w' hw hs hd=>by have a0:R' 39 = .int .i64 y23:=hd 0 _ _ _ rfl rfl rfl rfl rfl;have a1:R' 41 = .int .i64 (p1.length:Int):=hd 1 _ _ _ rfl rfl rfl rfl rfl;exact zBI a0 a1) <|
                Obls.nil
            intro R w hw hs hF'
            replace h1:R 1=v1:=(hs 1 rfl).trans h1
            replace h2:R 2 = .int .i64 p2:=(hs 2 rfl).trans h2
            replace h3:R 3=(.pointer (some ⟨b3_0,0,none⟩)):=(hs 3 rfl).trans h3
            replace h7:R 7 = .int .i64 y5:=(hs 7 rfl).trans h7
            replace h8:R 8 = .bool y22:=(hs 8 rfl).trans h8
            replace h9:R 9 = .int .i64 y11:=(hs 9 rfl).trans h9
            replace h10:R 10=(.pointer (some ⟨b10_16,0,none⟩)):=(hs 10 rfl).trans h10
            replace h11:R 11 = .int .i64 y23:=(hs 11 rfl).trans h11
            have h42:R 42 = .bool (decide (y23<(p1.length:Int))):=hF' 3 _ _ rfl rfl rfl
            replace f_v1:=f_v1.fr hw
            replace hO:=hO.fr hw
            replace hA:=hA.fr hw.size
            replace hF:=hF.trans hw
            clear hs hF' hw
            refine zA4 ?_
            refine HT.cond (decide (y23<(p1.length:Int))) h42 (fun c24=>?_) (fun c24=>?_)
            · have hr := zAq c24 hr
              refine HT.skip ?_
              refine HT.seq ?_
              refine HT.block ?_
              refine HT.seq ?_
              obtain ⟨e25,hr⟩:=zAF hr
              obtain ⟨e26,hr⟩:=zAF hr
              obtain ⟨x27,q28,hr⟩:=zC9 hr
              obtain ⟨e29,hr⟩:=zAF hr
              obtain ⟨x30,q31,hr⟩:=zC9 hr
              refine HT.draw (by kernel_rfl) (l:=⟨_,true,.raw v1⟩::⟨_,true,.raw (.int .i64 y23)⟩::⟨_,true,.qtr zA1 A (gtD p1 y23)⟩::⟨_,true,.qtr (eInt .i64) A ((gtD p1 y23).1)⟩::⟨_,true,.raw (.int .i64 ((gtD p1 y23).1))⟩::⟨_,true,.raw (.pointer (some ⟨b10_16,0,none⟩))⟩::⟨_,true,.raw (.int .i64 ((gtD (gtD p0 y5) y11).1))⟩::⟨_,true,.raw (.bool (((gtD p1 y23).1)==((gtD (gtD p0 y5) y11).1)))⟩::⟨_,true,.raw (.bool (((gtD p1 y23).1)==((gtD (gtD p0 y5) y11).1)))⟩::⟨_,(true&&((((gtD p1 y23).1)==((gtD (gtD p0 y5) y11).1))==true)),.raw v1⟩::⟨_,(true&&((((gtD p1 y23).1)==((gtD (gtD p0 y5) y11).1))==true)),.raw (.int .i64 y23)⟩::⟨_,(true&&((((gtD p1 y23).1)==((gtD (gtD p0 y5) y11).1))==true)),.qtr zA1 A (gtD p1 y23)⟩::⟨_,(true&&((((gtD p1 y23).1)==((gtD (gtD p0 y5) y11).1))==true)),.qtr (eInt .i64) A ((gtD p1 y23).2.1)⟩::⟨_,(true&&((((gtD p1 y23).1)==((gtD (gtD p0 y5) y11).1))==true)),.raw (.int .i64 ((gtD p1 y23).2.1))⟩::⟨_,(true&&((((gtD p1 y23).1)==((gtD (gtD p0 y5) y11).1))==true)),.raw (.pointer (some ⟨b10_16,1,none⟩))⟩::⟨_,(true&&((((gtD p1 y23).1)==((gtD (gtD p0 y5) y11).1))==true)),.raw (.int .i64 ((gtD (gtD p0 y5) y11).2.1))⟩::⟨_,(true&&((((gtD p1 y23).1)==((gtD (gtD p0 y5) y11).1))==true)),.raw (.bool (((gtD p1 y23).2.1)==((gtD (gtD p0 y5) y11).2.1)))⟩::⟨_,true,.raw (.bool x27)⟩::⟨_,true,.raw (.bool x27)⟩::⟨_,(true&&(x27==true)),.raw (.int .i64 p2)⟩::⟨_,(true&&(x27==true)),.raw (.int .i64 y23)⟩::⟨_,(true&&(x27==true)),.raw (.int .i64 (p2 / 2 ^ min y23.toNat 64))⟩::⟨_,(true&&(x27==true)),.raw (.int .i64 (bitI (fun u v=>u &&& v) .i64 (p2 / 2 ^ min y23.toNat 64) (1:Int)))⟩::⟨_,(true&&(x27==true)),.raw (.bool ((bitI (fun u v=>u &&& v) .i64 (p2 / 2 ^ min y23.toNat 64) (1:Int))==(1:Int)))⟩::⟨_,(true&&(x27==true)),.raw (.pointer (some ⟨b10_16,2,none⟩))⟩::⟨_,(true&&(x27==true)),.raw (.bool ((gtD (gtD p0 y5) y11).2.2))⟩::⟨_,(true&&(x27==true)),.raw (.bool (((bitI (fun u v=>u &&& v) .i64 (p2 / 2 ^ min y23.toNat 64) (1:Int))==(1:Int))==((gtD (gtD p0 y5) y11).2.2)))⟩::⟨_,true,.raw (.bool x30)⟩::[]) (tl:=[]) (by kernel_rfl) (by kernel_rfl) (by kernel_rfl) (by kernel_rfl) ?_ ?_
              · exact
                  Obls.cons (Obl.plain rfl rfl fun R' w' hw hs hd=>by have a0:R' 1=v1:=(hs 1 rfl).trans h1;exact zA5 a0) <|
                  Obls.cons (Obl.plain rfl rfl fun R' w' hw hs hd=>by have a0:R' 11 = .int .i64 y23:=(hs 11 rfl).trans h11;exact zA5 a0) <|
                  Obls.cons (Obl.plain rfl rfl fun R' w' hw hs hd=>by have a0:R' 45=v1:=hd 0 _ _ _ rfl rfl rfl rfl rfl;have a1:R' 46 = .int .i64 y23:=hd 1 _ _ _ rfl rfl rfl rfl rfl;have ra0:=(f_v1.fr hw).eq a0;exact zAN ra0 a1 Try.underlying65 Try.sizeOf82 e25) <|
                  Obls.cons (Obl.plain rfl rfl fun R' w' hw hs hd=>by have a0:QRep zA1 A w' (R' 47) (gtD p1 y23):=hd 0 _ _ _ rfl rfl rfl rfl rfl;exact zAc a0 zCS Try.sizeOf3 (by decide) zAz rfl) <|
                  Obls.cons (Obl.plain rfl rfl fun R' w' hw hs hd=>by have a0:QRep (eInt .i64) A w' (R' 48) ((gtD p1 y23).1):=hd 0 _ _ _ rfl rfl rfl rfl rfl;exact OpF.int (zAv a0.ptr Try.isAgg3 Try.sizeOf3)) <|
                  Obls.cons (Obl.plain rfl rfl fun R' w' hw hs hd=>by have a0:R' 10=(.pointer (some ⟨b10_16,0,none⟩)):=(hs 10 rfl).trans h10;exact zAB a0 zCS Try.sizeOf3 (by decide) rfl) <|
                  Obls.cons (Obl.plain rfl rfl fun R' w' hw hs hd=>by have a0:R' 50=(.pointer (some ⟨b10_16,0,none⟩)):=hd 0 _ _ _ rfl rfl rfl rfl rfl;exact OpF.int (zAD ((hO.fr hw).ok 1 _ rfl).1 a0 zAz rfl Try.isAgg3 Try.sizeOf3)) <|
                  Obls.cons (Obl.plain rfl rfl fun R' w' hw hs hd=>by have a0:R' 49 = .int .i64 ((gtD p1 y23).1):=hd 0 _ _ _ rfl rfl rfl rfl rfl;have a1:R' 51 = .int .i64 ((gtD (gtD p0 y5) y11).1):=hd 1 _ _ _ rfl rfl rfl rfl rfl;exact zFA a0 a1) <|
                  Obls.cons (Obl.plain rfl rfl fun R' w' hw hs hd=>by have a0:R' 52 = .bool (((gtD p1 y23).1)==((gtD (gtD p0 y5) y11).1)):=hd 0 _ _ _ rfl rfl rfl rfl rfl;exact zA5 a0) <|
                  Obls.cons (Obl.grd 8 true _ _ _ rfl rfl rfl rfl rfl (by kernel_rfl) fun hg R' w' hw hs hd=>by have a0:R' 1=v1:=(hs 1 rfl).trans h1;exact zA5 a0) <|
                  Obls.cons (Obl.grd 8 true _ _ _ rfl rfl rfl rfl rfl (by kernel_rfl) fun hg R' w' hw hs hd=>by have a0:R' 11 = .int .i64 y23:=(hs 11 rfl).trans h11;exact zA5 a0) <|
                  Obls.cons (Obl.grd 8 true _ _ _ rfl rfl rfl rfl rfl (by kernel_rfl) fun hg R' w' hw hs hd=>by have a0:R' 54=v1:=hd 0 _ _ _ rfl rfl rfl rfl hg;have a1:R' 55 = .int .i64 y23:=hd 1 _ _ _ rfl rfl rfl rfl hg;have ra0:=(f_v1.fr hw).eq a0;exact zAN ra0 a1 Try.underlying65 Try.sizeOf82 (gd e26 hg)) <|
                  Obls.cons (Obl.grd 8 true _ _ _ rfl rfl rfl rfl rfl (by kernel_rfl) fun hg R' w' hw hs hd=>by have a0:QRep zA1 A w' (R' 56) (gtD p1 y23):=hd 0 _ _ _ rfl rfl rfl rfl hg;exact zAc a0 zDX Try.sizeOf3 (by decide) zBH rfl) <|
                  Obls.cons (Obl.grd 8 true _ _ _ rfl rfl rfl rfl rfl (by kernel_rfl) fun hg R' w' hw hs hd=>by have a0:QRep (eInt .i64) A w' (R' 57) ((gtD p1 y23).2.1):=hd 0 _ _ _ rfl rfl rfl rfl hg;exact OpF.int (zAv a0.ptr Try.isAgg3 Try.sizeOf3)) <|
                  Obls.cons (Obl.grd 8 true _ _ _ rfl rfl rfl rfl rfl (by kernel_rfl) fun hg R' w' hw hs hd=>by have a0:R' 10=(.pointer (some ⟨b10_16,0,none⟩)):=(hs 10 rfl).trans h10;exact zAB a0 zDX Try.sizeOf3 (by decide) rfl) <|
                  Obls.cons (Obl.grd 8 true _ _ _ rfl rfl rfl rfl rfl (by kernel_rfl) fun hg R' w' hw hs hd=>by have a0:R' 59=(.pointer (some ⟨b10_16,1,none⟩)):=hd 0 _ _ _ rfl rfl rfl rfl hg;exact OpF.int (zAD ((hO.fr hw).ok 1 _ rfl).1 a0 zBH rfl Try.isAgg3 Try.sizeOf3)) <|
                  Obls.cons (Obl.grd 8 true _ _ _ rfl rfl rfl rfl rfl (by kernel_rfl) fun hg R' w' hw hs hd=>by have a0:R' 58 = .int .i64 ((gtD p1 y23).2.1):=hd 0 _ _ _ rfl rfl rfl rfl hg;have a1:R' 60 = .int .i64 ((gtD (gtD p0 y5) y11).2.1):=hd 1 _ _ _ rfl rfl rfl rfl hg;exact zFA a0 a1) <|
                  Obls.cons (Obl.plain rfl rfl fun R' w' hw hs hd=>by have a0:R' 53 = .bool (((gtD p1 y23).1)==((gtD (gtD p0 y5) y11).1)):=hd 0 _ _ _ rfl rfl rfl rfl rfl;exact zCf (((gtD p1 y23).1)==((gtD (gtD p0 y5) y11).1)) a0 (fun hc=>by have a1:R' 61 = .bool (((gtD p1 y23).2.1)==((gtD (gtD p0 y5) y11).2.1)):=hd 1 _ _ _ rfl rfl rfl rfl (zEq rfl (zDd hc));show _=Value.bool x27;rw [q28,hc];exact a1) (fun hc=>by show _=Value.bool x27;rw [q28,hc];exact rfl)) <|
                  Obls.cons (Obl.plain rfl rfl fun R' w' hw hs hd=>by have a0:R' 62 = .bool x27:=hd 0 _ _ _ rfl rfl rfl rfl rfl;exact zA5 a0) <|
                  Obls.cons (Obl.grd 18 true _ _ _ rfl rfl rfl rfl rfl (by kernel_rfl) fun hg R' w' hw hs hd=>by have a0:R' 2 = .int .i64 p2:=(hs 2 rfl).trans h2;exact zA5 a0) <|
                  Obls.cons (Obl.grd 18 true _ _ _ rfl rfl rfl rfl rfl (by kernel_rfl) fun hg R' w' hw hs hd=>by have a0:R' 11 = .int .i64 y23:=(hs 11 rfl).trans h11;exact zA5 a0) <|
                  Obls.cons (Obl.grd 18 true _ _ _ rfl rfl rfl rfl rfl (by kernel_rfl) fun hg R' w' hw hs hd=>by have a0:R' 64 = .int .i64 p2:=hd 0 _ _ _ rfl rfl rfl rfl hg;have a1:R' 65 = .int .i64 y23:=hd 1 _ _ _ rfl rfl rfl rfl hg;exact zM8 a0 a1 (gd e29 hg)) <|
                  Obls.cons (Obl.grd 18 true _ _ _ rfl rfl rfl rfl rfl (by kernel_rfl) fun hg R' w' hw hs hd=>by have a0:R' 66 = .int .i64 (p2 / 2 ^ min y23.toNat 64):=hd 0 _ _ _ rfl rfl rfl rfl hg;exact zM1 a0 rfl) <|
                  Obls.cons (Obl.grd 18 true _ _ _ rfl rfl rfl rfl rfl (by kernel_rfl) fun hg R' w' hw hs hd=>by have a0:R' 67 = .int .i64 (bitI (fun u v=>u &&& v) .i64 (p2 / 2 ^ min y23.toNat 64) (1:Int)):=hd 0 _ _ _ rfl rfl rfl rfl hg;exact zFA a0 rfl) <|
                  Obls.cons (Obl.grd 18 true _ _ _ rfl rfl rfl rfl rfl (by kernel_rfl) fun hg R' w' hw hs hd=>by have a0:R' 10=(.pointer (some ⟨b10_16,0,none⟩)):=(hs 10 rfl).trans h10;exact zAB a0 zEb Try.sizeOf4 (by decide) rfl) <|
                  Obls.cons (Obl.grd 18 true _ _ _ rfl rfl rfl rfl rfl (by kernel_rfl) fun hg R' w' hw hs hd=>by have a0:R' 69=(.pointer (some ⟨b10_16,2,none⟩)):=hd 0 _ _ _ rfl rfl rfl rfl hg;exact OpF.bool (zAD ((hO.fr hw).ok 1 _ rfl).1 a0 zCv rfl Try.isAgg4 Try.sizeOf4)) <|
                  Obls.cons (Obl.grd 18 true _ _ _ rfl rfl rfl rfl rfl (by kernel_rfl) fun hg R' w' hw hs hd=>by have a0:R' 68 = .bool ((bitI (fun u v=>u &&& v) .i64 (p2 / 2 ^ min y23.toNat 64) (1:Int))==(1:Int)):=hd 0 _ _ _ rfl rfl rfl rfl hg;have a1:R' 70 = .bool ((gtD (gtD p0 y5) y11).2.2):=hd 1 _ _ _ rfl rfl rfl rfl hg;exact zLm Try.underlying4 a0 a1) <|
                  Obls.cons (Obl.plain rfl rfl fun R' w' hw hs hd=>by have a0:R' 63 = .bool x27:=hd 0 _ _ _ rfl rfl rfl rfl rfl;exact zCf x27 a0 (fun hc=>by have a1:R' 71 = .bool (((bitI (fun u v=>u &&& v) .i64 (p2 / 2 ^ min y23.toNat 64) (1:Int))==(1:Int))==((gtD (gtD p0 y5) y11).2.2)):=hd 1 _ _ _ rfl rfl rfl rfl (zEq rfl (zDd hc));show _=Value.bool x30;rw [q31,hc];exact a1) (fun hc=>by show _=Value.bool x30;rw [q31,hc];exact rfl)) <|
                  Obls.nil
              intro R w hw hs hF'
              replace h1:R 1=v1:=(hs 1 rfl).trans h1
              replace h2:R 2 = .int .i64 p2:=(hs 2 rfl).trans h2
              replace h3:R 3=(.pointer (some ⟨b3_0,0,none⟩)):=(hs 3 rfl).trans h3
              replace h7:R 7 = .int .i64 y5:=(hs 7 rfl).trans h7
              replace h8:R 8 = .bool y22:=(hs 8 rfl).trans h8
              replace h9:R 9 = .int .i64 y11:=(hs 9 rfl).trans h9
              replace h10:R 10=(.pointer (some ⟨b10_16,0,none⟩)):=(hs 10 rfl).trans h10
              replace h11:R 11 = .int .i64 y23:=(hs 11 rfl).trans h11
              have h72:R 72 = .bool x30:=hF' 27 _ _ rfl rfl rfl
              replace f_v1:=f_v1.fr hw
              replace hO:=hO.fr hw
              replace hA:=hA.fr hw.size
              replace hF:=hF.trans hw
              clear hs hF' hw
              refine zA4 ?_
              refine HT.cond x30 h72 (fun c32=>?_) (fun c32=>?_)
              · have hr := zAq c32 hr
                refine HT.text (l:=⟨_,true,.raw (.bool false)⟩::[]) (tl:=[]) (by kernel_rfl) (by kernel_rfl) (by kernel_rfl) ?_ ?_
                · exact
                    Obls.cons (Obl.plain rfl rfl fun R' w' hw hs hd=>by exact zA6 rfl) <|
                    Obls.nil
                intro R w hw hs hF'
                replace h1:R 1=v1:=(hs 1 rfl).trans h1
                replace h2:R 2 = .int .i64 p2:=(hs 2 rfl).trans h2
                replace h3:R 3=(.pointer (some ⟨b3_0,0,none⟩)):=(hs 3 rfl).trans h3
                replace h7:R 7 = .int .i64 y5:=(hs 7 rfl).trans h7
                replace h9:R 9 = .int .i64 y11:=(hs 9 rfl).trans h9
                replace h10:R 10=(.pointer (some ⟨b10_16,0,none⟩)):=(hs 10 rfl).trans h10
                replace h11:R 11 = .int .i64 y23:=(hs 11 rfl).trans h11
                have h8:R 8 = .bool false:=hF' 0 _ _ rfl rfl rfl
                replace f_v1:=f_v1.fr hw
                replace hO:=hO.fr hw
                replace hA:=hA.fr hw.size
                replace hF:=hF.trans hw
                clear hs hF' hw
                refine zA4 ?_
                obtain ⟨e33,hr⟩:=zAF hr
                refine HT.text (l:=⟨_,true,.raw (.int .i64 y23)⟩::⟨_,true,.raw (.int .i64 (y23+(1:Int)))⟩::⟨_,true,.raw (.int .i64 (y23+(1:Int)))⟩::[]) (tl:=[]) (by kernel_rfl) (by kernel_rfl) (by kernel_rfl) ?_ ?_
                · exact
                    Obls.cons (Obl.plain rfl rfl fun R' w' hw hs hd=>by have a0:R' 11 = .int .i64 y23:=(hs 11 rfl).trans h11;exact zA5 a0) <|
                    Obls.cons (Obl.plain rfl rfl fun R' w' hw hs hd=>by have a0:R' 43 = .int .i64 y23:=hd 0 _ _ _ rfl rfl rfl rfl rfl;exact zB8 a0 rfl e33) <|
                    Obls.cons (Obl.plain rfl rfl fun R' w' hw hs hd=>by have a0:R' 44 = .int .i64 (y23+(1:Int)):=hd 0 _ _ _ rfl rfl rfl rfl rfl;exact zA6 a0) <|
                    Obls.nil
                intro R w hw hs hF'
                replace h1:R 1=v1:=(hs 1 rfl).trans h1
                replace h2:R 2 = .int .i64 p2:=(hs 2 rfl).trans h2
                replace h3:R 3=(.pointer (some ⟨b3_0,0,none⟩)):=(hs 3 rfl).trans h3
                replace h7:R 7 = .int .i64 y5:=(hs 7 rfl).trans h7
                replace h8:R 8 = .bool false:=(hs 8 rfl).trans h8
                replace h9:R 9 = .int .i64 y11:=(hs 9 rfl).trans h9
                replace h10:R 10=(.pointer (some ⟨b10_16,0,none⟩)):=(hs 10 rfl).trans h10
                have h11:R 11 = .int .i64 (y23+(1:Int)):=hF' 2 _ _ rfl rfl rfl
                replace f_v1:=f_v1.fr hw
                replace hO:=hO.fr hw
                replace hA:=hA.fr hw.size
                replace hF:=hF.trans hw
                clear hs hF' hw
                refine zA4 ?_
                exact Exists.intro k (And.intro (Nat.lt_succ_self k) ⟨_,_,_,hr,hA,hF,hAA,hO,h1,h2,h3,h7,h8,h9,h10,h11,f_v1⟩)
              · have hr := zAp c32 hr
                refine HT.skip ?_
                obtain ⟨e34,hr⟩:=zAF hr
                refine HT.text (l:=⟨_,true,.raw (.int .i64 y23)⟩::⟨_,true,.raw (.int .i64 (y23+(1:Int)))⟩::⟨_,true,.raw (.int .i64 (y23+(1:Int)))⟩::[]) (tl:=[]) (by kernel_rfl) (by kernel_rfl) (by kernel_rfl) ?_ ?_
                · exact
                    Obls.cons (Obl.plain rfl rfl fun R' w' hw hs hd=>by have a0:R' 11 = .int .i64 y23:=(hs 11 rfl).trans h11;exact zA5 a0) <|
                    Obls.cons (Obl.plain rfl rfl fun R' w' hw hs hd=>by have a0:R' 43 = .int .i64 y23:=hd 0 _ _ _ rfl rfl rfl rfl rfl;exact zB8 a0 rfl e34) <|
                    Obls.cons (Obl.plain rfl rfl fun R' w' hw hs hd=>by have a0:R' 44 = .int .i64 (y23+(1:Int)):=hd 0 _ _ _ rfl rfl rfl rfl rfl;exact zA6 a0) <|
                    Obls.nil
                intro R w hw hs hF'
                replace h1:R 1=v1:=(hs 1 rfl).trans h1
                replace h2:R 2 = .int .i64 p2:=(hs 2 rfl).trans h2
                replace h3:R 3=(.pointer (some ⟨b3_0,0,none⟩)):=(hs 3 rfl).trans h3
                replace h7:R 7 = .int .i64 y5:=(hs 7 rfl).trans h7
                replace h8:R 8 = .bool y22:=(hs 8 rfl).trans h8
                replace h9:R 9 = .int .i64 y11:=(hs 9 rfl).trans h9
                replace h10:R 10=(.pointer (some ⟨b10_16,0,none⟩)):=(hs 10 rfl).trans h10
                have h11:R 11 = .int .i64 (y23+(1:Int)):=hF' 2 _ _ rfl rfl rfl
                replace f_v1:=f_v1.fr hw
                replace hO:=hO.fr hw
                replace hA:=hA.fr hw.size
                replace hF:=hF.trans hw
                clear hs hF' hw
                refine zA4 ?_
                exact Exists.intro k (And.intro (Nat.lt_succ_self k) ⟨_,_,_,hr,hA,hF,hAA,hO,h1,h2,h3,h7,h8,h9,h10,h11,f_v1⟩)
            · have hr := zAp c24 hr
              refine HT.exit ?_
              obtain rfl:=Option.some.inj hr
              replace hO:IniOK [ob (.pointer (some ⟨b3_0,0,none⟩)) (.box w0.heap.size 29 zA2 p0)] A w:=hO.sub [(0,ob (.pointer (some ⟨b3_0,0,none⟩)) (.box w0.heap.size 29 zA2 p0))] ⟨rfl,rfl,trivial⟩
              exact Exists.intro _ ⟨_,rfl,hA,hF,hAA,hO,h1,h2,h3,h7,h8,h9,f_v1⟩
          rintro R w ⟨A,s21,es,hA,hF,hAA,hO,h1,h2,h3,h7,h8,h9,f_v1⟩
          obtain rfl:=es.symm
          obtain ⟨e35,hr⟩:=zAF hr
          refine HT.text (l:=⟨_,true,.raw (.int .i64 y11)⟩::⟨_,true,.raw (.int .i64 (y11+(1:Int)))⟩::⟨_,true,.raw (.int .i64 (y11+(1:Int)))⟩::[]) (tl:=[]) (by kernel_rfl) (by kernel_rfl) (by kernel_rfl) ?_ ?_
          · exact
              Obls.cons (Obl.plain rfl rfl fun R' w' hw hs hd=>by have a0:R' 9 = .int .i64 y11:=(hs 9 rfl).trans h9;exact zA5 a0) <|
              Obls.cons (Obl.plain rfl rfl fun R' w' hw hs hd=>by have a0:R' 28 = .int .i64 y11:=hd 0 _ _ _ rfl rfl rfl rfl rfl;exact zB8 a0 rfl e35) <|
              Obls.cons (Obl.plain rfl rfl fun R' w' hw hs hd=>by have a0:R' 29 = .int .i64 (y11+(1:Int)):=hd 0 _ _ _ rfl rfl rfl rfl rfl;exact zA6 a0) <|
              Obls.nil
          intro R w hw hs hF'
          replace h1:R 1=v1:=(hs 1 rfl).trans h1
          replace h2:R 2 = .int .i64 p2:=(hs 2 rfl).trans h2
          replace h3:R 3=(.pointer (some ⟨b3_0,0,none⟩)):=(hs 3 rfl).trans h3
          replace h7:R 7 = .int .i64 y5:=(hs 7 rfl).trans h7
          replace h8:R 8 = .bool s21:=(hs 8 rfl).trans h8
          have h9:R 9 = .int .i64 (y11+(1:Int)):=hF' 2 _ _ rfl rfl rfl
          replace f_v1:=f_v1.fr hw
          replace hO:=hO.fr hw
          replace hA:=hA.fr hw.size
          replace hF:=hF.trans hw
          clear hs hF' hw
          refine zA4 ?_
          exact Exists.intro k (And.intro (Nat.lt_succ_self k) ⟨_,_,_,hr,hA,hF,hAA,hO,h1,h2,h3,h7,h8,h9,f_v1⟩)
        · have hr := zAp c13 hr
          refine HT.exit ?_
          obtain rfl:=Option.some.inj hr
          exact Exists.intro _ ⟨_,rfl,hA,hF,hAA,hO,h1,h2,h3,h7,h8,f_v1⟩
      rintro R w ⟨A,s9,es,hA,hF,hAA,hO,h1,h2,h3,h7,h8,f_v1⟩
      obtain rfl:=es.symm
      refine HT.seq ?_
      refine HT.text (l:=⟨_,true,.raw (.bool s9)⟩::[]) (tl:=[]) (by kernel_rfl) (by kernel_rfl) (by kernel_rfl) ?_ ?_
      · exact
          Obls.cons (Obl.plain rfl rfl fun R' w' hw hs hd=>by have a0:R' 8 = .bool s9:=(hs 8 rfl).trans h8;exact zA5 a0) <|
          Obls.nil
      intro R w hw hs hF'
      replace h1:R 1=v1:=(hs 1 rfl).trans h1
      replace h2:R 2 = .int .i64 p2:=(hs 2 rfl).trans h2
      replace h3:R 3=(.pointer (some ⟨b3_0,0,none⟩)):=(hs 3 rfl).trans h3
      replace h7:R 7 = .int .i64 y5:=(hs 7 rfl).trans h7
      have h73:R 73 = .bool s9:=hF' 0 _ _ rfl rfl rfl
      replace f_v1:=f_v1.fr hw
      replace hO:=hO.fr hw
      replace hA:=hA.fr hw.size
      replace hF:=hF.trans hw
      clear hs hF' hw
      refine zA4 ?_
      refine HT.cond s9 h73 (fun c36=>?_) (fun c36=>?_)
      · have hr := zAq c36 hr
        refine HT.seq ?_
        refine HT.text (l:=⟨_,true,.raw (.bool true)⟩::[]) (tl:=[]) (by kernel_rfl) (by kernel_rfl) (by kernel_rfl) ?_ ?_
        · exact
            Obls.cons (Obl.plain rfl rfl fun R' w' hw hs hd=>by exact zA6 rfl) <|
            Obls.nil
        intro R w hw hs hF'
        have h6:R 6 = .bool true:=hF' 0 _ _ rfl rfl rfl
        replace hO:=hO.fr hw
        replace hO:IniOK [] A w:=hO.sub [] trivial
        replace hA:=hA.fr hw.size
        replace hF:=hF.trans hw
        clear hs hF' hw
        refine zA4 ?_
        refine HT.ret ?_
        obtain rfl:=Option.some.inj hr
        have hr:=hr0
        replace hr:some _=some _:=hr
        obtain rfl:=Option.some.inj hr
        exact ⟨.inr rfl,[R 6],⟨rfl,trivial⟩,h6,hF⟩
      · have hr := zAp c36 hr
        refine HT.skip ?_
        obtain ⟨e37,hr⟩:=zAF hr
        refine HT.text (l:=⟨_,true,.raw (.int .i64 y5)⟩::⟨_,true,.raw (.int .i64 (y5+(1:Int)))⟩::⟨_,true,.raw (.int .i64 (y5+(1:Int)))⟩::[]) (tl:=[]) (by kernel_rfl) (by kernel_rfl) (by kernel_rfl) ?_ ?_
        · exact
            Obls.cons (Obl.plain rfl rfl fun R' w' hw hs hd=>by have a0:R' 7 = .int .i64 y5:=(hs 7 rfl).trans h7;exact zA5 a0) <|
            Obls.cons (Obl.plain rfl rfl fun R' w' hw hs hd=>by have a0:R' 17 = .int .i64 y5:=hd 0 _ _ _ rfl rfl rfl rfl rfl;exact zB8 a0 rfl e37) <|
            Obls.cons (Obl.plain rfl rfl fun R' w' hw hs hd=>by have a0:R' 18 = .int .i64 (y5+(1:Int)):=hd 0 _ _ _ rfl rfl rfl rfl rfl;exact zA6 a0) <|
            Obls.nil
        intro R w hw hs hF'
        replace h1:R 1=v1:=(hs 1 rfl).trans h1
        replace h2:R 2 = .int .i64 p2:=(hs 2 rfl).trans h2
        replace h3:R 3=(.pointer (some ⟨b3_0,0,none⟩)):=(hs 3 rfl).trans h3
        have h7:R 7 = .int .i64 (y5+(1:Int)):=hF' 2 _ _ rfl rfl rfl
        replace f_v1:=f_v1.fr hw
        replace hO:=hO.fr hw
        replace hA:=hA.fr hw.size
        replace hF:=hF.trans hw
        clear hs hF' hw
        refine zA4 ?_
        exact Exists.intro k (And.intro (Nat.lt_succ_self k) ⟨_,_,hr,hA,hF,hAA,hO,h1,h2,h3,h7,f_v1⟩)
    · have hr := zAp c6 hr
      refine HT.exit ?_
      obtain rfl:=Option.some.inj hr
      replace hO:IniOK [] A w:=hO.sub [] trivial
      exact Exists.intro _ ⟨_,rfl,hA,hF,hAA,hO⟩
  rintro R w ⟨A,s4,rfl,hA,hF,hAA,hO⟩
  have hr:=zDj hr
  refine HT.seq ?_
  refine HT.text (l:=⟨_,true,.raw (.bool false)⟩::[]) (tl:=[]) (by kernel_rfl) (by kernel_rfl) (by kernel_rfl) ?_ ?_
  · exact
      Obls.cons (Obl.plain rfl rfl fun R' w' hw hs hd=>by exact zA6 rfl) <|
      Obls.nil
  intro R w hw hs hF'
  have h6:R 6 = .bool false:=hF' 0 _ _ rfl rfl rfl
  replace hO:=hO.fr hw
  replace hA:=hA.fr hw.size
  replace hF:=hF.trans hw
  clear hs hF' hw
  refine zA4 ?_
  refine HT.ret ?_
  obtain rfl:=Option.some.inj hr
  exact ⟨.inr rfl,[R 6],⟨rfl,trivial⟩,h6,hF⟩
def zBL (fu : Nat) (p1 : List zA7) (p2 : Int) (x101 : Int × zAR) (x109 : Int × zAR) : Nat → Int → Option (Ex (Int × zAR) Unit)
  | 0,_=>none
  | k+1,y124=>
    bif (decide (y124 < (x109.2.2.length : Int))) then (
      ck (inR y124 x109.2.2.length) <|
      bif ((gtD x109.2.2 y124) == ((gtD p1 p2).1, (gtD p1 p2).2.1, x101.1, x109.1)) then (
        ck (i64B (y124+(2:Int))) <|
        some (Ex.ret ((y124+(2:Int)),x109.2))
      ) else (
        ck (i64B (y124+(1:Int))) <|
        zBL fu p1 p2 x101 x109 k (y124+(1:Int))
      )
    ) else (
      some (Ex.go ())
    )
def zBE : Nat → Nat → zAH → (List zA7) → Int → Int → zAR → Option (Int × zAR)
  | 0,_,_,_,_,_,_=>none
  | q+1,fu,p0,p1,p2,p3,p4=>
  bif (p2 == (p1.length : Int)) then (
    cl true (zCg fu p0 p1 p3) fun x97=>
    bif x97 then (
      some ((1:Int),p4)
    ) else (
      some ((0:Int),p4)
    )
  ) else (
    ck (i64B (p2+(1:Int))) <|
    cl true (zBE q fu p0 p1 (p2+(1:Int)) p3 p4) fun x101=>
    ck (i64B (p2+(1:Int))) <|
    ck (decide (0≤p2)) <|
    cl true (zBE q fu p0 p1 (p2+(1:Int)) (bitI (fun u v=>u ||| v) .i64 p3 (IntKind.i64.wrap ((1:Int)*2 ^ min p2.toNat 64))) x101.2) fun x109=>
    bif (x101.1 == x109.1) then (
      some (x101.1,x109.2)
    ) else (
      ck (inR p2 p1.length) <|
      ck (inR p2 p1.length) <|
      cl true (zBL fu p1 p2 x101 x109 fu (0:Int)) fun rl121=>
      exM rl121 (fun r=>some r) fun s123=>
      ck (zFo (x109.2.2.length+([((gtD p1 p2).1,(gtD p1 p2).2.1,x101.1,x109.1)]:List zA3).length)) <|
      ck (i64B (((x109.2.2++([((gtD p1 p2).1,(gtD p1 p2).2.1,x101.1,x109.1)]:List zA3)).length:Int)+(1:Int))) <|
      some ((((x109.2.2++([((gtD p1 p2).1,(gtD p1 p2).2.1,x101.1,x109.1)]:List zA3)).length:Int)+(1:Int)),(x109.2.1,(x109.2.2++([((gtD p1 p2).1,(gtD p1 p2).2.1,x101.1,x109.1)]:List zA3))))
    )
  )
set_option linter.unusedSimpArgs false in
set_option maxRecDepth 100000 in
set_option maxHeartbeats 4000000 in
theorem zFI (q : Nat) : ∀ {fu : Nat} {A0 : Av} {p0 : zAH} {p1 : List zA7} {p2 : Int} {p3 : Int} {p4 : zAR} {r : Int × zAR} (hr : zBE q fu p0 p1 p2 p3 p4 = some r) {w : World} {v0 : Value} {v1 : Value} {v2 : Value} {v3 : Value} {v4 : Value} {S0 : Nat → Prop} (hA : AvOK A0 w) (hN : ∀ b o, A0 b o → ¬ S0 b) (h0 : Rep zA2 (addS A0 S0) w v0 p0) (h1 : Rep (eSl zA1) (addS A0 S0) w v1 p1) (h2 : v2 = .int .i64 p2) (h3 : v3 = .int .i64 p3) (h4 : (trP (oPt 41 (oPr (oRd (eInt .i64)) (oSl 99 (oRd zA0)))) p4 []).P (addS A0 S0) w S0 v4),
    Calls Try.prog 42 #[v0,v1,v2,v3,v4] w fun e w'=>∃ v,e = .returned v∧(v = .int .i64 r.1∧Gave (oPt 41 (oPr (oRd (eInt .i64)) (oSl 99 (oRd zA0)))) A0 S0 w v4 r.2 w'):=by
  induction q with
  | zero=>intro fu A0 p0 p1 p2 p3 p4 r hr w v0 v1 v2 v3 v4 S0 hA hN h0 h1 h2 h3 h4;rw [zBE] at hr;cases hr
  | succ q IH=>
    intro fu A0 p0 p1 p2 p3 p4 r hr w v0 v1 v2 v3 v4 S0 hA hN h0 h1 h2 h3 h4
    rw [zBE] at hr
    obtain ⟨w0,hw0⟩:∃ w0,w0=w:=⟨_,rfl⟩
    have hF:Ch S0 w0 w:=hw0 ▸ Ch.refl _ _
    have hA0:∀ b o,A0 b o→b<w0.heap.size:=fun b o h=>hw0 ▸ hA b o h
    have hA00:AvOK A0 w0:=hA0
    rw [show Gave (oPt 41 (oPr (oRd (eInt .i64)) (oSl 99 (oRd zA0)))) A0 S0 w=Gave (oPt 41 (oPr (oRd (eInt .i64)) (oSl 99 (oRd zA0)))) A0 S0 w0 from hw0 ▸ rfl]
    have hw0s:w.heap.size=w0.heap.size:=hw0 ▸ rfl
    clear hw0
    have hO:=IniOK.oneT h4
    have hA1:=hA.oneT h4
    rw [show w.heap.size=w0.heap.size from hw0s] at hO
    obtain ⟨A,hAe⟩:∃ A,A=addS A0 S0:=⟨_,rfl⟩
    have hAA:∀ b o,A0 b o→A b o:=fun b o h=>hAe ▸ .inl h
    replace hA:AvOK A w:=hAe ▸ hA1
    replace hO:IniOK [⟨v4,S0,trR (fun k=>w0.heap.size≤k∨S0 k) (oPt 41 (oPr (oRd (eInt .i64)) (oSl 99 (oRd zA0)))) p4 []⟩] A w:=hAe ▸ hO
    refine zAI [.tmp 10] Try.func42 Try.ntmps42 (by decide) rfl rfl (Nat.le_of_ble_eq_true rfl) ?_
    intro R hR
    have f_v0:Rep zA2 A w v0 p0:=hAe ▸ h0
    replace h0:R 0=v0:=hR 0 _ rfl
    have f_v1:Rep (eSl zA1) A w v1 p1:=hAe ▸ h1
    replace h1:R 1=v1:=hR 1 _ rfl
    replace h2:R 2 = .int .i64 p2:=(hR 2 _ rfl).trans h2
    replace h3:R 3 = .int .i64 p3:=(hR 3 _ rfl).trans h3
    replace h4:R 4=v4:=hR 4 _ rfl
    clear hR hAe
    refine HT.seq ?_
    refine HT.textR [⟨v4,S0,trR (fun k=>w0.heap.size≤k∨S0 k) (oPt 41 (oPr (oRd (eInt .i64)) (oSl 99 (oRd zA0)))) p4 []⟩] (⟨_,true,[],some (.box w0.heap.size 29 zA2 p0),true,fun A=>.any⟩::⟨_,true,[],none,true,fun A=>.raw (.int .i64 (0:Int))⟩::[]) (by kernel_rfl) (by kernel_rfl) (Wf.mk' (by kernel_rfl) (UAll.cons zAG (UAll.cons zAA (UAll.nil))) (by kernel_rfl) (by kernel_rfl)) hO hA ?_ ?_
    · exact
        zA9.cons (OblR.made _ rfl rfl rfl rfl fun A' R' w' ho hd=>by have a0:R' 0=v0:=(ho.old 0 rfl).trans h0;have ra0:=(f_v0.stp ho.stp).eq a0;exact zB9 ra0 (Nat.le_trans hF.size ho.ch.size)) <|
        zA9.cons (OblR.plain rfl rfl rfl rfl fun A' R' w' ho hd=>by exact zA6 rfl) <|
        zA9.nil
    intro done ρ σ A R w hdn hI
    replace h1:R 1=v1:=(hI.reg rfl).trans h1
    replace h2:R 2 = .int .i64 p2:=(hI.reg rfl).trans h2
    replace h3:R 3 = .int .i64 p3:=(hI.reg rfl).trans h3
    replace h4:R 4=v4:=(hI.reg rfl).trans h4
    have z94:=hI.inivR 0 rfl
    obtain ⟨b5_94,e_b5_94⟩:=hI.boxv hdn 1 rfl rfl
    have h5:R 5=(.pointer (some ⟨b5_94,0,none⟩)):=(hI.opvR hdn 1 0 rfl rfl rfl rfl rfl).symm.trans e_b5_94
    have eS_v4:=hI.inisR 0 rfl
    replace f_v1:=f_v1.stp hI.stp
    replace hAA:=hI.lowK hAA hA0 hN (hO.geK (⟨fun _ h=>h,trivial⟩))
    replace hF:Ch S0 w0 w:=hF.tr hI.ch (hO.geK (⟨fun _ h=>h,trivial⟩))
    replace hO:IniOK [⟨v4,S0,trR (fun k=>w0.heap.size≤k∨S0 k) (oPt 41 (oPr (oRd (eInt .i64)) (oSl 99 (oRd zA0)))) p4 []⟩,ob (.pointer (some ⟨b5_94,0,none⟩)) (.box w0.heap.size 29 zA2 p0)] A w:=hI.left hdn [(0,⟨v4,S0,trR (fun k=>w0.heap.size≤k∨S0 k) (oPt 41 (oPr (oRd (eInt .i64)) (oSl 99 (oRd zA0)))) p4 []⟩),(1,ob (.pointer (some ⟨b5_94,0,none⟩)) (.box w0.heap.size 29 zA2 p0))] ⟨rfl,rfl,z94,eS_v4,rfl,⟨rfl,rfl,e_b5_94,rfl,rfl,trivial⟩⟩
    replace hA:=hI.avok
    clear hI
    refine HT.seq ?_
    refine HT.seq ?_
    refine HT.text (l:=⟨_,true,.raw (.int .i64 p2)⟩::⟨_,true,.raw v1⟩::⟨_,true,.raw (.int .i64 (p1.length:Int))⟩::⟨_,true,.raw (.bool (p2==(p1.length:Int)))⟩::[]) (tl:=[]) (by kernel_rfl) (by kernel_rfl) (by kernel_rfl) ?_ ?_
    · exact
        Obls.cons (Obl.plain rfl rfl fun R' w' hw hs hd=>by have a0:R' 2 = .int .i64 p2:=(hs 2 rfl).trans h2;exact zA5 a0) <|
        Obls.cons (Obl.plain rfl rfl fun R' w' hw hs hd=>by have a0:R' 1=v1:=(hs 1 rfl).trans h1;exact zA5 a0) <|
        Obls.cons (Obl.plain rfl rfl fun R' w' hw hs hd=>by have a0:R' 16=v1:=hd 0 _ _ _ rfl rfl rfl rfl rfl;have ra0:=(f_v1.fr hw).eq a0;exact zAd (aT:=#[]) ra0 Try.underlying65) <|
        Obls.cons (Obl.plain rfl rfl fun R' w' hw hs hd=>by have a0:R' 15 = .int .i64 p2:=hd 0 _ _ _ rfl rfl rfl rfl rfl;have a1:R' 17 = .int .i64 (p1.length:Int):=hd 1 _ _ _ rfl rfl rfl rfl rfl;exact zFA a0 a1) <|
        Obls.nil
    intro R w hw hs hF'
    replace h1:R 1=v1:=(hs 1 rfl).trans h1
    replace h2:R 2 = .int .i64 p2:=(hs 2 rfl).trans h2
    replace h3:R 3 = .int .i64 p3:=(hs 3 rfl).trans h3
    replace h4:R 4=v4:=(hs 4 rfl).trans h4
    replace h5:R 5=(.pointer (some ⟨b5_94,0,none⟩)):=(hs 5 rfl).trans h5
    have h18:R 18 = .bool (p2==(p1.length:Int)):=hF' 3 _ _ rfl rfl rfl
    replace f_v1:=f_v1.fr hw
    replace hO:=hO.fr hw
    replace hA:=hA.fr hw.size
    replace hF:=hF.tr (hw.ch noB) fun _ h=>False.elim h
    clear hs hF' hw
    refine zA4 ?_
    refine HT.cond (p2==(p1.length:Int)) h18 (fun c96=>?_) (fun c96=>?_)
    · have hr := zAq c96 hr
      refine HT.seq ?_
      refine HT.seq ?_
      obtain ⟨x97,q98,hr⟩:=zAK hr
      refine HT.text (l:=⟨_,true,.rep zA2 A p0⟩::⟨_,true,.raw v1⟩::⟨_,true,.raw (.int .i64 p3)⟩::⟨_,true,.raw (.bool x97)⟩::[]) (tl:=[]) (by kernel_rfl) (by kernel_rfl) (by kernel_rfl) ?_ ?_
      · exact
          Obls.cons (Obl.plain rfl rfl fun R' w' hw hs hd=>by have a0:R' 5=(.pointer (some ⟨b5_94,0,none⟩)):=(hs 5 rfl).trans h5;exact (zAD ((hO.fr hw).ok 1 _ rfl).1 a0 (Fld.id _) rfl Try.isAgg29 Try.sizeOf29)) <|
          Obls.cons (Obl.plain rfl rfl fun R' w' hw hs hd=>by have a0:R' 1=v1:=(hs 1 rfl).trans h1;exact zA5 a0) <|
          Obls.cons (Obl.plain rfl rfl fun R' w' hw hs hd=>by have a0:R' 3 = .int .i64 p3:=(hs 3 rfl).trans h3;exact zA5 a0) <|
          Obls.cons (Obl.plain rfl rfl fun R' w' hw hs hd=>by have a0:Rep zA2 A w' (R' 19) p0:=hd 0 _ _ _ rfl rfl rfl rfl rfl;have a1:R' 20=v1:=hd 1 _ _ _ rfl rfl rfl rfl rfl;have ra1:=(f_v1.fr hw).eq a1;have a2:R' 21 = .int .i64 p3:=hd 2 _ _ _ rfl rfl rfl rfl rfl;exact zAl Try.call71 (zFa (q98 rfl) (hA.fr hw.size) a0 ra1 a2)) <|
          Obls.nil
      intro R w hw hs hF'
      have h22:R 22 = .bool x97:=hF' 3 _ _ rfl rfl rfl
      replace hO:=hO.fr hw
      replace hO:IniOK [⟨v4,S0,trR (fun k=>w0.heap.size≤k∨S0 k) (oPt 41 (oPr (oRd (eInt .i64)) (oSl 99 (oRd zA0)))) p4 []⟩] A w:=hO.sub [(0,⟨v4,S0,trR (fun k=>w0.heap.size≤k∨S0 k) (oPt 41 (oPr (oRd (eInt .i64)) (oSl 99 (oRd zA0)))) p4 []⟩)] ⟨rfl,rfl,trivial⟩
      replace hA:=hA.fr hw.size
      replace hF:=hF.tr (hw.ch noB) fun _ h=>False.elim h
      clear hs hF' hw
      refine zA4 ?_
      refine HT.cond x97 h22 (fun c99=>?_) (fun c99=>?_)
      · have hr := zAq c99 hr
        refine HT.seq ?_
        refine HT.text (l:=⟨_,true,.raw (.int .i64 (1:Int))⟩::[]) (tl:=[]) (by kernel_rfl) (by kernel_rfl) (by kernel_rfl) ?_ ?_
        · exact
            Obls.cons (Obl.plain rfl rfl fun R' w' hw hs hd=>by exact zA6 rfl) <|
            Obls.nil
        intro R w hw hs hF'
        have h10:R 10 = .int .i64 (1:Int):=hF' 0 _ _ rfl rfl rfl
        replace hO:=hO.fr hw
        replace hA:=hA.fr hw.size
        replace hF:=hF.tr (hw.ch noB) fun _ h=>False.elim h
        clear hs hF' hw
        refine zA4 ?_
        refine HT.ret ?_
        obtain rfl:=Option.some.inj hr
        exact ⟨.inr rfl,[R 10],⟨rfl,trivial⟩,h10,zCx rfl (hO.own 0 _ rfl) (hO.ok 0 _ rfl).2 hAA hF⟩
      · have hr := zAp c99 hr
        refine HT.skip ?_
        refine HT.seq ?_
        refine HT.text (l:=⟨_,true,.raw (.int .i64 (0:Int))⟩::[]) (tl:=[]) (by kernel_rfl) (by kernel_rfl) (by kernel_rfl) ?_ ?_
        · exact
            Obls.cons (Obl.plain rfl rfl fun R' w' hw hs hd=>by exact zA6 rfl) <|
            Obls.nil
        intro R w hw hs hF'
        have h10:R 10 = .int .i64 (0:Int):=hF' 0 _ _ rfl rfl rfl
        replace hO:=hO.fr hw
        replace hA:=hA.fr hw.size
        replace hF:=hF.tr (hw.ch noB) fun _ h=>False.elim h
        clear hs hF' hw
        refine zA4 ?_
        refine HT.ret ?_
        obtain rfl:=Option.some.inj hr
        exact ⟨.inr rfl,[R 10],⟨rfl,trivial⟩,h10,zCx rfl (hO.own 0 _ rfl) (hO.ok 0 _ rfl).2 hAA hF⟩
    · have hr := zAp c96 hr
      refine HT.skip ?_
      refine HT.seq ?_
      obtain ⟨e100,hr⟩:=zAF hr
      obtain ⟨x101,q102,hr⟩:=zAK hr
      refine HT.textR [⟨v4,S0,trR (fun k=>w0.heap.size≤k∨S0 k) (oPt 41 (oPr (oRd (eInt .i64)) (oSl 99 (oRd zA0)))) p4 []⟩,ob (.pointer (some ⟨b5_94,0,none⟩)) (.box w0.heap.size 29 zA2 p0)] (⟨_,true,[],none,true,fun A=>.rep zA2 A p0⟩::⟨_,true,[],none,true,fun A=>.raw v1⟩::⟨_,true,[],none,true,fun A=>.raw (.int .i64 p2)⟩::⟨_,true,[],none,true,fun A=>.raw (.int .i64 (p2+(1:Int)))⟩::⟨_,true,[],none,true,fun A=>.raw (.int .i64 p3)⟩::⟨_,true,[],none,true,fun A=>.raw v4⟩::⟨_,true,[0],some (trR (fun k=>w0.heap.size≤k∨S0 k) (oPt 41 (oPr (oRd (eInt .i64)) (oSl 99 (oRd zA0)))) x101.2 []),false,fun A=>.raw (.int .i64 x101.1)⟩::⟨_,true,[],none,true,fun A=>.raw (.int .i64 x101.1)⟩::[]) (by kernel_rfl) (by kernel_rfl) (Wf.mk' (by kernel_rfl) (UAll.cons zAn (UAll.cons zAA (UAll.cons zAA (UAll.cons zAA (UAll.cons zAA (UAll.cons zAA (UAll.cons zAA (UAll.cons zAA (UAll.nil))))))))) (by kernel_rfl) (by kernel_rfl)) hO hA ?_ ?_
      · exact
          zA9.cons (OblR.plain rfl rfl rfl rfl fun A' R' w' ho hd=>by have a0:R' 5=(.pointer (some ⟨b5_94,0,none⟩)):=(ho.old 5 rfl).trans h5;exact (zAD (ho.rd 1 _ rfl rfl) a0 (Fld.id _) rfl Try.isAgg29 Try.sizeOf29)) <|
          zA9.cons (OblR.plain rfl rfl rfl rfl fun A' R' w' ho hd=>by have a0:R' 1=v1:=(ho.old 1 rfl).trans h1;exact zA5 a0) <|
          zA9.cons (OblR.plain rfl rfl rfl rfl fun A' R' w' ho hd=>by have a0:R' 2 = .int .i64 p2:=(ho.old 2 rfl).trans h2;exact zA5 a0) <|
          zA9.cons (OblR.plain rfl rfl rfl rfl fun A' R' w' ho hd=>by have a0:R' 25 = .int .i64 p2:=hd 0 _ _ _ rfl rfl rfl rfl rfl;exact zB8 a0 rfl e100) <|
          zA9.cons (OblR.plain rfl rfl rfl rfl fun A' R' w' ho hd=>by have a0:R' 3 = .int .i64 p3:=(ho.old 3 rfl).trans h3;exact zA5 a0) <|
          zA9.cons (OblR.plain rfl rfl rfl rfl fun A' R' w' ho hd=>by have a0:R' 4=v4:=(ho.old 4 rfl).trans h4;exact zA5 a0) <|
          zA9.cons (OblR.tookS 0 _ _ rfl rfl rfl rfl rfl fun A' R' w' ho hd u S hok hown hav hin hop hds=>by have a0:Rep zA2 A' w' (R' 23) p0:=hd 0 _ _ _ rfl rfl rfl rfl rfl;have a1:R' 24=v1:=hd 1 _ _ _ rfl rfl rfl rfl rfl;have ra1:=(f_v1.stp ho.stp).eq a1;have a2:R' 26 = .int .i64 (p2+(1:Int)):=hd 2 _ _ _ rfl rfl rfl rfl rfl;have a3:R' 27 = .int .i64 p3:=hd 3 _ _ _ rfl rfl rfl rfl rfl;have a4:R' 28=v4:=hd 4 _ _ _ rfl rfl rfl rfl rfl;have e0:=(hin _ rfl).1;rw [e0] at hown ⊢;have hu0:zAL R' (.tmp 28)=v4:=a4;exact zCH Try.call42 (zAJ hown.2) hav hown.1 (fun k hk=>.inl (Nat.le_trans (Nat.le_trans hF.size ho.ch.size) hk)) (fun k hk=>SP.lt _ hown.2 hk) (fun S1 hS1 hP=>by simp only [List.map,hu0];exact IH (q102 rfl) (ho.av.subS _) (fun b o h=>h.2) (a0.less fun b o h=>h.elim (fun h=>h.1) fun h=>hav b (hS1 b h) o) (ra1.less fun b o h=>h.elim (fun h=>h.1) fun h=>hav b (hS1 b h) o) a2 a3 hP) (fun _ _ _ h=>h)) <|
          zA9.cons (OblR.plain rfl rfl rfl rfl fun A' R' w' ho hd=>by have a0:R' 29 = .int .i64 x101.1:=hd 0 _ _ _ rfl rfl rfl rfl rfl;exact zA6 a0) <|
          zA9.nil
      intro done ρ σ A R w hdn hI
      replace h1:R 1=v1:=(hI.reg rfl).trans h1
      replace h2:R 2 = .int .i64 p2:=(hI.reg rfl).trans h2
      replace h3:R 3 = .int .i64 p3:=(hI.reg rfl).trans h3
      replace h4:R 4=v4:=(hI.reg rfl).trans h4
      replace h5:R 5=(.pointer (some ⟨b5_94,0,none⟩)):=(hI.reg rfl).trans h5
      have z103:=hI.inivR 0 rfl
      have z104:=(hI.opnR hdn 8 6 rfl rfl rfl rfl rfl).trans z103
      have z105:=hI.inivR 1 rfl
      obtain ⟨S106,eS_v4⟩:∃ S,σ 8=S:=⟨_,rfl⟩
      have h11:R 11 = .int .i64 x101.1:=hI.fact hdn (i:=7) rfl rfl rfl
      replace f_v1:=f_v1.stp hI.stp
      replace hAA:=hI.lowK hAA hA0 hN (hO.geK (⟨fun _ h=>h,⟨.inl rfl,trivial⟩⟩))
      replace hF:Ch S0 w0 w:=hF.tr hI.ch (hO.geK (⟨fun _ h=>h,⟨.inl rfl,trivial⟩⟩))
      replace hO:IniOK [⟨v4,S106,trR (fun k=>w0.heap.size≤k∨S0 k) (oPt 41 (oPr (oRd (eInt .i64)) (oSl 99 (oRd zA0)))) x101.2 []⟩,ob (.pointer (some ⟨b5_94,0,none⟩)) (.box w0.heap.size 29 zA2 p0)] A w:=hI.left hdn [(8,⟨v4,S106,trR (fun k=>w0.heap.size≤k∨S0 k) (oPt 41 (oPr (oRd (eInt .i64)) (oSl 99 (oRd zA0)))) x101.2 []⟩),(1,ob (.pointer (some ⟨b5_94,0,none⟩)) (.box w0.heap.size 29 zA2 p0))] ⟨rfl,rfl,z104,eS_v4,rfl,⟨rfl,rfl,z105,rfl,rfl,trivial⟩⟩
      replace hA:=hI.avok
      clear hI
      refine HT.seq ?_
      obtain ⟨e107,hr⟩:=zAF hr
      obtain ⟨e108,hr⟩:=zAF hr
      obtain ⟨x109,q110,hr⟩:=zAK hr
      refine HT.drawR [⟨v4,S106,trR (fun k=>w0.heap.size≤k∨S0 k) (oPt 41 (oPr (oRd (eInt .i64)) (oSl 99 (oRd zA0)))) x101.2 []⟩,ob (.pointer (some ⟨b5_94,0,none⟩)) (.box w0.heap.size 29 zA2 p0)] (⟨_,true,[],none,true,fun A=>.rep zA2 A p0⟩::⟨_,true,[],none,true,fun A=>.raw v1⟩::⟨_,true,[],none,true,fun A=>.raw (.int .i64 p2)⟩::⟨_,true,[],none,true,fun A=>.raw (.int .i64 (p2+(1:Int)))⟩::⟨_,true,[],none,true,fun A=>.raw (.int .i64 p3)⟩::⟨_,true,[],none,true,fun A=>.raw (.int .i64 p2)⟩::⟨_,true,[],none,true,fun A=>.raw (.int .i64 (IntKind.i64.wrap ((1:Int)*2 ^ min p2.toNat 64)))⟩::⟨_,true,[],none,true,fun A=>.raw (.int .i64 (bitI (fun u v=>u ||| v) .i64 p3 (IntKind.i64.wrap ((1:Int)*2 ^ min p2.toNat 64))))⟩::⟨_,true,[],none,true,fun A=>.raw v4⟩::⟨_,true,[0],some (trR (fun k=>w0.heap.size≤k∨S0 k) (oPt 41 (oPr (oRd (eInt .i64)) (oSl 99 (oRd zA0)))) x109.2 []),false,fun A=>.raw (.int .i64 x109.1)⟩::⟨_,true,[],none,true,fun A=>.raw (.int .i64 x109.1)⟩::[]) (by kernel_rfl) (by kernel_rfl) (by kernel_rfl) (Wf.mk' (by kernel_rfl) (UAll.cons zAn (UAll.cons zAA (UAll.cons zAA (UAll.cons zAA (UAll.cons zAA (UAll.cons zAA (UAll.cons zAA (UAll.cons zAA (UAll.cons zAA (UAll.cons zAA (UAll.cons zAA (UAll.nil)))))))))))) (by kernel_rfl) (by kernel_rfl)) hO hA ?_ ?_
      · exact
          zA9.cons (OblR.plain rfl rfl rfl rfl fun A' R' w' ho hd=>by have a0:R' 5=(.pointer (some ⟨b5_94,0,none⟩)):=(ho.old 5 rfl).trans h5;exact (zAD (ho.rd 1 _ rfl rfl) a0 (Fld.id _) rfl Try.isAgg29 Try.sizeOf29)) <|
          zA9.cons (OblR.plain rfl rfl rfl rfl fun A' R' w' ho hd=>by have a0:R' 1=v1:=(ho.old 1 rfl).trans h1;exact zA5 a0) <|
          zA9.cons (OblR.plain rfl rfl rfl rfl fun A' R' w' ho hd=>by have a0:R' 2 = .int .i64 p2:=(ho.old 2 rfl).trans h2;exact zA5 a0) <|
          zA9.cons (OblR.plain rfl rfl rfl rfl fun A' R' w' ho hd=>by have a0:R' 32 = .int .i64 p2:=hd 0 _ _ _ rfl rfl rfl rfl rfl;exact zB8 a0 rfl e107) <|
          zA9.cons (OblR.plain rfl rfl rfl rfl fun A' R' w' ho hd=>by have a0:R' 3 = .int .i64 p3:=(ho.old 3 rfl).trans h3;exact zA5 a0) <|
          zA9.cons (OblR.plain rfl rfl rfl rfl fun A' R' w' ho hd=>by have a0:R' 2 = .int .i64 p2:=(ho.old 2 rfl).trans h2;exact zA5 a0) <|
          zA9.cons (OblR.plain rfl rfl rfl rfl fun A' R' w' ho hd=>by have a1:R' 35 = .int .i64 p2:=hd 0 _ _ _ rfl rfl rfl rfl rfl;exact zLt rfl a1 e108) <|
          zA9.cons (OblR.plain rfl rfl rfl rfl fun A' R' w' ho hd=>by have a0:R' 34 = .int .i64 p3:=hd 0 _ _ _ rfl rfl rfl rfl rfl;have a1:R' 36 = .int .i64 (IntKind.i64.wrap ((1:Int)*2 ^ min p2.toNat 64)):=hd 1 _ _ _ rfl rfl rfl rfl rfl;exact zMP a0 a1) <|
          zA9.cons (OblR.plain rfl rfl rfl rfl fun A' R' w' ho hd=>by have a0:R' 4=v4:=(ho.old 4 rfl).trans h4;exact zA5 a0) <|
          zA9.cons (OblR.tookS 0 _ _ rfl rfl rfl rfl rfl fun A' R' w' ho hd u S hok hown hav hin hop hds=>by have a0:Rep zA2 A' w' (R' 30) p0:=hd 0 _ _ _ rfl rfl rfl rfl rfl;have a1:R' 31=v1:=hd 1 _ _ _ rfl rfl rfl rfl rfl;have ra1:=(f_v1.stp ho.stp).eq a1;have a2:R' 33 = .int .i64 (p2+(1:Int)):=hd 2 _ _ _ rfl rfl rfl rfl rfl;have a3:R' 37 = .int .i64 (bitI (fun u v=>u ||| v) .i64 p3 (IntKind.i64.wrap ((1:Int)*2 ^ min p2.toNat 64))):=hd 3 _ _ _ rfl rfl rfl rfl rfl;have a4:R' 38=v4:=hd 4 _ _ _ rfl rfl rfl rfl rfl;have e0:=(hin _ rfl).1;rw [e0] at hown ⊢;have hu0:zAL R' (.tmp 38)=v4:=a4;exact zCH Try.call42 (zAJ hown.2) hav hown.1 (fun k hk=>.inl (Nat.le_trans (Nat.le_trans hF.size ho.ch.size) hk)) (fun k hk=>SP.lt _ hown.2 hk) (fun S1 hS1 hP=>by simp only [List.map,hu0];exact IH (q110 rfl) (ho.av.subS _) (fun b o h=>h.2) (a0.less fun b o h=>h.elim (fun h=>h.1) fun h=>hav b (hS1 b h) o) (ra1.less fun b o h=>h.elim (fun h=>h.1) fun h=>hav b (hS1 b h) o) a2 a3 hP) (fun _ _ _ h=>h)) <|
          zA9.cons (OblR.plain rfl rfl rfl rfl fun A' R' w' ho hd=>by have a0:R' 39 = .int .i64 x109.1:=hd 0 _ _ _ rfl rfl rfl rfl rfl;exact zA6 a0) <|
          zA9.nil
      intro done ρ σ A R w hdn hI
      replace h1:R 1=v1:=(hI.reg rfl).trans h1
      replace h2:R 2 = .int .i64 p2:=(hI.reg rfl).trans h2
      replace h4:R 4=v4:=(hI.reg rfl).trans h4
      replace h11:R 11 = .int .i64 x101.1:=(hI.reg rfl).trans h11
      have z111:=hI.inivR 0 rfl
      have z112:=(hI.opnR hdn 11 9 rfl rfl rfl rfl rfl).trans z111
      have z113:=hI.inivR 1 rfl
      obtain ⟨S114,eS_v4⟩:∃ S,σ 11=S:=⟨_,rfl⟩
      have h12:R 12 = .int .i64 x109.1:=hI.fact hdn (i:=10) rfl rfl rfl
      replace f_v1:=f_v1.stp hI.stp
      replace hAA:=hI.lowK hAA hA0 hN (hO.geK (⟨fun _ h=>h,⟨.inl rfl,trivial⟩⟩))
      replace hF:Ch S0 w0 w:=hF.tr hI.ch (hO.geK (⟨fun _ h=>h,⟨.inl rfl,trivial⟩⟩))
      replace hO:IniOK [⟨v4,S114,trR (fun k=>w0.heap.size≤k∨S0 k) (oPt 41 (oPr (oRd (eInt .i64)) (oSl 99 (oRd zA0)))) x109.2 []⟩] A w:=hI.left hdn [(11,⟨v4,S114,trR (fun k=>w0.heap.size≤k∨S0 k) (oPt 41 (oPr (oRd (eInt .i64)) (oSl 99 (oRd zA0)))) x109.2 []⟩)] ⟨rfl,rfl,z112,eS_v4,rfl,trivial⟩
      replace hA:=hI.avok
      clear hI
      refine HT.seq ?_
      refine HT.seq ?_
      refine HT.text (l:=⟨_,true,.raw (.int .i64 x101.1)⟩::⟨_,true,.raw (.int .i64 x109.1)⟩::⟨_,true,.raw (.bool (x101.1==x109.1))⟩::[]) (tl:=[]) (by kernel_rfl) (by kernel_rfl) (by kernel_rfl) ?_ ?_
      · exact
          Obls.cons (Obl.plain rfl rfl fun R' w' hw hs hd=>by have a0:R' 11 = .int .i64 x101.1:=(hs 11 rfl).trans h11;exact zA5 a0) <|
          Obls.cons (Obl.plain rfl rfl fun R' w' hw hs hd=>by have a0:R' 12 = .int .i64 x109.1:=(hs 12 rfl).trans h12;exact zA5 a0) <|
          Obls.cons (Obl.plain rfl rfl fun R' w' hw hs hd=>by have a0:R' 40 = .int .i64 x101.1:=hd 0 _ _ _ rfl rfl rfl rfl rfl;have a1:R' 41 = .int .i64 x109.1:=hd 1 _ _ _ rfl rfl rfl rfl rfl;exact zFA a0 a1) <|
          Obls.nil
      intro R w hw hs hF'
      replace h1:R 1=v1:=(hs 1 rfl).trans h1
      replace h2:R 2 = .int .i64 p2:=(hs 2 rfl).trans h2
      replace h4:R 4=v4:=(hs 4 rfl).trans h4
      replace h11:R 11 = .int .i64 x101.1:=(hs 11 rfl).trans h11
      replace h12:R 12 = .int .i64 x109.1:=(hs 12 rfl).trans h12
      have h42:R 42 = .bool (x101.1==x109.1):=hF' 2 _ _ rfl rfl rfl
      replace f_v1:=f_v1.fr hw
      replace hO:=hO.fr hw
      replace hA:=hA.fr hw.size
      replace hF:=hF.tr (hw.ch noB) fun _ h=>False.elim h
      clear hs hF' hw
      refine zA4 ?_
      refine HT.cond (x101.1==x109.1) h42 (fun c115=>?_) (fun c115=>?_)
      · have hr := zAq c115 hr
        refine HT.seq ?_
        refine HT.text (l:=⟨_,true,.raw (.int .i64 x101.1)⟩::⟨_,true,.raw (.int .i64 x101.1)⟩::[]) (tl:=[]) (by kernel_rfl) (by kernel_rfl) (by kernel_rfl) ?_ ?_
        · exact
            Obls.cons (Obl.plain rfl rfl fun R' w' hw hs hd=>by have a0:R' 11 = .int .i64 x101.1:=(hs 11 rfl).trans h11;exact zA5 a0) <|
            Obls.cons (Obl.plain rfl rfl fun R' w' hw hs hd=>by have a0:R' 43 = .int .i64 x101.1:=hd 0 _ _ _ rfl rfl rfl rfl rfl;exact zA6 a0) <|
            Obls.nil
        intro R w hw hs hF'
        have h10:R 10 = .int .i64 x101.1:=hF' 1 _ _ rfl rfl rfl
        replace hO:=hO.fr hw
        replace hA:=hA.fr hw.size
        replace hF:=hF.tr (hw.ch noB) fun _ h=>False.elim h
        clear hs hF' hw
        refine zA4 ?_
        refine HT.ret ?_
        obtain rfl:=Option.some.inj hr
        exact ⟨.inr rfl,[R 10],⟨rfl,trivial⟩,h10,zCx rfl (hO.own 0 _ rfl) (hO.ok 0 _ rfl).2 hAA hF⟩
      · have hr := zAp c115 hr
        refine HT.skip ?_
        refine HT.seq ?_
        obtain ⟨e116,hr⟩:=zAF hr
        obtain ⟨e117,hr⟩:=zAF hr
        refine HT.drawR [⟨v4,S114,trR (fun k=>w0.heap.size≤k∨S0 k) (oPt 41 (oPr (oRd (eInt .i64)) (oSl 99 (oRd zA0)))) x109.2 []⟩] (⟨_,true,[],none,true,fun A=>.raw v1⟩::⟨_,true,[],none,true,fun A=>.raw (.int .i64 p2)⟩::⟨_,true,[],none,true,fun A=>.qtr zA1 A (gtD p1 p2)⟩::⟨_,true,[],none,true,fun A=>.qtr (eInt .i64) A ((gtD p1 p2).1)⟩::⟨_,true,[],none,true,fun A=>.raw (.int .i64 ((gtD p1 p2).1))⟩::⟨_,true,[],none,true,fun A=>.raw v1⟩::⟨_,true,[],none,true,fun A=>.raw (.int .i64 p2)⟩::⟨_,true,[],none,true,fun A=>.qtr zA1 A (gtD p1 p2)⟩::⟨_,true,[],none,true,fun A=>.qtr (eInt .i64) A ((gtD p1 p2).2.1)⟩::⟨_,true,[],none,true,fun A=>.raw (.int .i64 ((gtD p1 p2).2.1))⟩::⟨_,true,[],none,true,fun A=>.raw (.int .i64 x101.1)⟩::⟨_,true,[],none,true,fun A=>.raw (.int .i64 x109.1)⟩::⟨_,true,[],none,true,fun A=>.rep zA0 A ((gtD p1 p2).1,(gtD p1 p2).2.1,x101.1,x109.1)⟩::⟨_,true,[],some (.box w0.heap.size 99 zA0 ((0:Int),((0:Int),((0:Int),(0:Int))))),true,fun A=>.any⟩::⟨_,true,[14],some (.box w0.heap.size 99 zA0 ((gtD p1 p2).1,(gtD p1 p2).2.1,x101.1,x109.1)),false,fun A=>.any⟩::[]) (by kernel_rfl) (by kernel_rfl) (by kernel_rfl) (Wf.mk' (by kernel_rfl) (UAll.cons zAA (UAll.cons zAA (UAll.cons zCI (UAll.cons zCI (UAll.cons zAA (UAll.cons zAA (UAll.cons zAA (UAll.cons zCI (UAll.cons zCI (UAll.cons zAA (UAll.cons zAA (UAll.cons zAA (UAll.cons zAn (UAll.cons zAG (UAll.cons zAG (UAll.nil)))))))))))))))) (by kernel_rfl) (by kernel_rfl)) hO hA ?_ ?_
        · exact
            zA9.cons (OblR.plain rfl rfl rfl rfl fun A' R' w' ho hd=>by have a0:R' 1=v1:=(ho.old 1 rfl).trans h1;exact zA5 a0) <|
            zA9.cons (OblR.plain rfl rfl rfl rfl fun A' R' w' ho hd=>by have a0:R' 2 = .int .i64 p2:=(ho.old 2 rfl).trans h2;exact zA5 a0) <|
            zA9.cons (OblR.plain rfl rfl rfl rfl fun A' R' w' ho hd=>by have a0:R' 44=v1:=hd 0 _ _ _ rfl rfl rfl rfl rfl;have a1:R' 45 = .int .i64 p2:=hd 1 _ _ _ rfl rfl rfl rfl rfl;have ra0:=(f_v1.stp ho.stp).eq a0;exact zAN ra0 a1 Try.underlying65 Try.sizeOf82 e116) <|
            zA9.cons (OblR.plain rfl rfl rfl rfl fun A' R' w' ho hd=>by have a0:QRep zA1 A' w' (R' 46) (gtD p1 p2):=hd 0 _ _ _ rfl rfl rfl rfl rfl;exact zAc a0 zCS Try.sizeOf3 (by decide) zAz rfl) <|
            zA9.cons (OblR.plain rfl rfl rfl rfl fun A' R' w' ho hd=>by have a0:QRep (eInt .i64) A' w' (R' 47) ((gtD p1 p2).1):=hd 0 _ _ _ rfl rfl rfl rfl rfl;exact OpF.int (zAv a0.ptr Try.isAgg3 Try.sizeOf3)) <|
            zA9.cons (OblR.plain rfl rfl rfl rfl fun A' R' w' ho hd=>by have a0:R' 1=v1:=(ho.old 1 rfl).trans h1;exact zA5 a0) <|
            zA9.cons (OblR.plain rfl rfl rfl rfl fun A' R' w' ho hd=>by have a0:R' 2 = .int .i64 p2:=(ho.old 2 rfl).trans h2;exact zA5 a0) <|
            zA9.cons (OblR.plain rfl rfl rfl rfl fun A' R' w' ho hd=>by have a0:R' 49=v1:=hd 0 _ _ _ rfl rfl rfl rfl rfl;have a1:R' 50 = .int .i64 p2:=hd 1 _ _ _ rfl rfl rfl rfl rfl;have ra0:=(f_v1.stp ho.stp).eq a0;exact zAN ra0 a1 Try.underlying65 Try.sizeOf82 e117) <|
            zA9.cons (OblR.plain rfl rfl rfl rfl fun A' R' w' ho hd=>by have a0:QRep zA1 A' w' (R' 51) (gtD p1 p2):=hd 0 _ _ _ rfl rfl rfl rfl rfl;exact zAc a0 zDX Try.sizeOf3 (by decide) zBH rfl) <|
            zA9.cons (OblR.plain rfl rfl rfl rfl fun A' R' w' ho hd=>by have a0:QRep (eInt .i64) A' w' (R' 52) ((gtD p1 p2).2.1):=hd 0 _ _ _ rfl rfl rfl rfl rfl;exact OpF.int (zAv a0.ptr Try.isAgg3 Try.sizeOf3)) <|
            zA9.cons (OblR.plain rfl rfl rfl rfl fun A' R' w' ho hd=>by have a0:R' 11 = .int .i64 x101.1:=(ho.old 11 rfl).trans h11;exact zA5 a0) <|
            zA9.cons (OblR.plain rfl rfl rfl rfl fun A' R' w' ho hd=>by have a0:R' 12 = .int .i64 x109.1:=(ho.old 12 rfl).trans h12;exact zA5 a0) <|
            zA9.cons (OblR.plain rfl rfl rfl rfl fun A' R' w' ho hd=>by have a0:R' 48 = .int .i64 ((gtD p1 p2).1):=hd 0 _ _ _ rfl rfl rfl rfl rfl;have a1:R' 53 = .int .i64 ((gtD p1 p2).2.1):=hd 1 _ _ _ rfl rfl rfl rfl rfl;have a2:R' 54 = .int .i64 x101.1:=hd 2 _ _ _ rfl rfl rfl rfl rfl;have a3:R' 55 = .int .i64 x109.1:=hd 3 _ _ _ rfl rfl rfl rfl rfl;exact zE2 (v:=.agg #[.int .i64 ((gtD p1 p2).1),.int .i64 ((gtD p1 p2).2.1),.int .i64 x101.1,.int .i64 x109.1]) (by simp [execOp,Instr.build,zAL,a0,a1,a2,a3,underlying,Try.underlying99,Try.zeroValue99,Try.sizeOf3,go_sem,Instr.fill]) ⟨_,rfl,zBr zAe (zBr zAe (zBr zAe zAe))⟩) <|
            zA9.cons (OblR.made _ rfl rfl rfl rfl fun A' R' w' ho hd=>by exact zC5 Try.zeroValue99 (fun A w=>zBr zAe (zBr zAe (zBr zAe zAe))) (Nat.le_trans hF.size ho.ch.size)) <|
            zA9.cons (OblR.took 14 _ _ rfl rfl rfl rfl rfl fun A' R' w' ho hd u hok hav hin hop hds=>by have a1:Rep zA0 A' w' (R' 56) ((gtD p1 p2).1,(gtD p1 p2).2.1,x101.1,x109.1):=hd 1 _ _ _ rfl rfl rfl rfl rfl;obtain ⟨b,hb,hB',hbx⟩:=hok;have hop':=hop _ _ rfl rfl rfl rfl;exact zBY a1 (hop'.symm.trans hb) hb ⟨b,hb,hB',hbx⟩ hav (FldS.id _) Try.sizeOf99 rfl) <|
            zA9.nil
        intro done ρ σ A R w hdn hI
        replace h4:R 4=v4:=(hI.reg rfl).trans h4
        have z118:=hI.inivR 0 rfl
        obtain ⟨b13_118,e_b13_118⟩:=hI.boxv hdn 15 rfl rfl
        have z120:=(hI.opnR hdn 15 14 rfl rfl rfl rfl rfl).symm.trans e_b13_118
        have h13:R 13=(.pointer (some ⟨b13_118,0,none⟩)):=(hI.opvR hdn 14 13 rfl rfl rfl rfl rfl).symm.trans z120
        have eS_v4:=hI.inisR 0 rfl
        replace hAA:=hI.lowK hAA hA0 hN (hO.geK (⟨fun _ h=>h,trivial⟩))
        replace hF:Ch S0 w0 w:=hF.tr hI.ch (hO.geK (⟨fun _ h=>h,trivial⟩))
        replace hO:IniOK [⟨v4,S114,trR (fun k=>w0.heap.size≤k∨S0 k) (oPt 41 (oPr (oRd (eInt .i64)) (oSl 99 (oRd zA0)))) x109.2 []⟩,ob (.pointer (some ⟨b13_118,0,none⟩)) (.box w0.heap.size 99 zA0 ((gtD p1 p2).1,(gtD p1 p2).2.1,x101.1,x109.1))] A w:=hI.left hdn [(0,⟨v4,S114,trR (fun k=>w0.heap.size≤k∨S0 k) (oPt 41 (oPr (oRd (eInt .i64)) (oSl 99 (oRd zA0)))) x109.2 []⟩),(15,ob (.pointer (some ⟨b13_118,0,none⟩)) (.box w0.heap.size 99 zA0 ((gtD p1 p2).1,(gtD p1 p2).2.1,x101.1,x109.1)))] ⟨rfl,rfl,z118,eS_v4,rfl,⟨rfl,rfl,e_b13_118,rfl,rfl,trivial⟩⟩
        replace hA:=hI.avok
        clear hI
        refine HT.seq ?_
        refine HT.seq ?_
        refine HT.text (l:=⟨_,true,.raw (.int .i64 (0:Int))⟩::[]) (tl:=[]) (by kernel_rfl) (by kernel_rfl) (by kernel_rfl) ?_ ?_
        · exact
            Obls.cons (Obl.plain rfl rfl fun R' w' hw hs hd=>by exact zA6 rfl) <|
            Obls.nil
        intro R w hw hs hF'
        replace h4:R 4=v4:=(hs 4 rfl).trans h4
        replace h13:R 13=(.pointer (some ⟨b13_118,0,none⟩)):=(hs 13 rfl).trans h13
        have h14:R 14 = .int .i64 (0:Int):=hF' 0 _ _ rfl rfl rfl
        replace hO:=hO.fr hw
        replace hA:=hA.fr hw.size
        replace hF:=hF.tr (hw.ch noB) fun _ h=>False.elim h
        clear hs hF' hw
        refine zA4 ?_
        obtain ⟨rl121,q122,hr⟩:=zAK hr
        replace q122:=q122 rfl
        refine HT.cut0 (fun R w=>∃ A:Av,∃ (s123:Unit),rl121=Ex.go s123∧AvOK A w∧Ch S0 w0 w∧(∀ b o,A0 b o→A b o)∧IniOK [⟨v4,S114,trR (fun k=>w0.heap.size≤k∨S0 k) (oPt 41 (oPr (oRd (eInt .i64)) (oSl 99 (oRd zA0)))) x109.2 []⟩,ob (.pointer (some ⟨b13_118,0,none⟩)) (.box w0.heap.size 99 zA0 ((gtD p1 p2).1,(gtD p1 p2).2.1,x101.1,x109.1))] A w∧R 4=v4∧R 13=(.pointer (some ⟨b13_118,0,none⟩))) ?_ ?_
        · refine HT.block ?_
          refine HT.loop (fun k R w=>∃ A:Av,∃ (y124:Int),zBL fu p1 p2 x101 x109 k y124=some rl121∧AvOK A w∧Ch S0 w0 w∧(∀ b o,A0 b o→A b o)∧IniOK [⟨v4,S114,trR (fun k=>w0.heap.size≤k∨S0 k) (oPt 41 (oPr (oRd (eInt .i64)) (oSl 99 (oRd zA0)))) x109.2 []⟩,ob (.pointer (some ⟨b13_118,0,none⟩)) (.box w0.heap.size 99 zA0 ((gtD p1 p2).1,(gtD p1 p2).2.1,x101.1,x109.1))] A w∧R 4=v4∧R 13=(.pointer (some ⟨b13_118,0,none⟩))∧R 14 = .int .i64 y124) fu ⟨_,_,q122,hA,hF,hAA,hO,h4,h13,h14⟩ ?_
          have hr0:=hr;clear hr q122
          rintro k R w ⟨A,y124,hr,hA,hF,hAA,hO,h4,h13,h14⟩
          rcases k with _ | k
          · cases (show none=some _ from hr)
          rw [zBL] at hr
          refine HT.seq ?_
          refine HT.seq ?_
          obtain ⟨h125,p_h125⟩:=((((zAJ (hO.own 0 _ rfl).2).ptr).snd rfl)).open1 rfl
          replace hO:IniOK [⟨v4,S114,trR (fun k=>w0.heap.size≤k∨S0 k) (oPt 41 (oPr (oRd (eInt .i64)) (oSl 99 (oRd zA0)))) x109.2 [((padd v4 1),[h125])]⟩,ob (.pointer (some ⟨b13_118,0,none⟩)) (.box w0.heap.size 99 zA0 ((gtD p1 p2).1,(gtD p1 p2).2.1,x101.1,x109.1))] A w:=hO.repin 0 rfl (trP.pin p_h125)
          refine HT.text (l:=⟨_,true,.raw (.int .i64 y124)⟩::⟨_,true,.raw v4⟩::⟨_,true,.raw v4⟩::⟨_,true,.raw (padd v4 1)⟩::⟨_,true,.raw h125⟩::⟨_,true,.raw (.int .i64 (x109.2.2.length:Int))⟩::⟨_,true,.raw (.bool (decide (y124<(x109.2.2.length:Int))))⟩::[]) (tl:=[]) (by kernel_rfl) (by kernel_rfl) (by kernel_rfl) ?_ ?_
          · exact
              Obls.cons (Obl.plain rfl rfl fun R' w' hw hs hd=>by have a0:R' 14 = .int .i64 y124:=(hs 14 rfl).trans h14;exact zA5 a0) <|
              Obls.cons (Obl.plain rfl rfl fun R' w' hw hs hd=>by have a0:R' 4=v4:=(hs 4 rfl).trans h4;exact zA5 a0) <|
              Obls.cons (Obl.plain rfl rfl fun R' w' hw hs hd=>by have a0:R' 58=v4:=hd 0 _ _ _ rfl rfl rfl rfl rfl;exact zB4 (zAJ (hO.own 0 _ rfl).2).ptr.ad a0) <|
              Obls.cons (Obl.plain rfl rfl fun R' w' hw hs hd=>by have a0:R' 59=v4:=hd 0 _ _ _ rfl rfl rfl rfl rfl;exact zAb ((zAJ (hO.own 0 _ rfl).2).ptr).ad a0 zEU Try.sizeOf39 (by decide) rfl) <|
              Obls.cons (Obl.plain rfl rfl fun R' w' hw hs hd=>by have a0:R' 60=(padd v4 1):=hd 0 _ _ _ rfl rfl rfl rfl rfl;exact zBv (((hO.fr hw).own 0 _ rfl).2.2 _ (.head _)) a0 Try.isAgg39 Try.sizeOf39) <|
              Obls.cons (Obl.plain rfl rfl fun R' w' hw hs hd=>by have a0:R' 61=h125:=hd 0 _ _ _ rfl rfl rfl rfl rfl;exact zFZ (((((zAJ (hO.own 0 _ rfl).2).ptr).snd rfl)).pin ((hO.own 0 _ rfl).2.2 _ (.head _)) rfl) a0 Try.underlying39) <|
              Obls.cons (Obl.plain rfl rfl fun R' w' hw hs hd=>by have a0:R' 57 = .int .i64 y124:=hd 0 _ _ _ rfl rfl rfl rfl rfl;have a1:R' 62 = .int .i64 (x109.2.2.length:Int):=hd 1 _ _ _ rfl rfl rfl rfl rfl;exact zBI a0 a1) <|
              Obls.nil
          intro R w hw hs hF'
          replace h4:R 4=v4:=(hs 4 rfl).trans h4
          replace h13:R 13=(.pointer (some ⟨b13_118,0,none⟩)):=(hs 13 rfl).trans h13
          replace h14:R 14 = .int .i64 y124:=(hs 14 rfl).trans h14
          have h63:R 63 = .bool (decide (y124<(x109.2.2.length:Int))):=hF' 6 _ _ rfl rfl rfl
          replace hO:=hO.fr hw
          replace hA:=hA.fr hw.size
          replace hF:=hF.tr (hw.ch noB) fun _ h=>False.elim h
          clear hs hF' hw
          refine zA4 ?_
          replace hO:IniOK [⟨v4,S114,trR (fun k=>w0.heap.size≤k∨S0 k) (oPt 41 (oPr (oRd (eInt .i64)) (oSl 99 (oRd zA0)))) x109.2 []⟩,ob (.pointer (some ⟨b13_118,0,none⟩)) (.box w0.heap.size 99 zA0 ((gtD p1 p2).1,(gtD p1 p2).2.1,x101.1,x109.1))] A w:=hO.repin 0 rfl trP.nopin
          refine HT.cond (decide (y124<(x109.2.2.length:Int))) h63 (fun c127=>?_) (fun c127=>?_)
          · have hr := zAq c127 hr
            refine HT.skip ?_
            refine HT.seq ?_
            refine HT.block ?_
            refine HT.seq ?_
            obtain ⟨h128,p_h128⟩:=((((zAJ (hO.own 0 _ rfl).2).ptr).snd rfl)).open1 rfl
            replace hO:IniOK [⟨v4,S114,trR (fun k=>w0.heap.size≤k∨S0 k) (oPt 41 (oPr (oRd (eInt .i64)) (oSl 99 (oRd zA0)))) x109.2 [((padd v4 1),[h128])]⟩,ob (.pointer (some ⟨b13_118,0,none⟩)) (.box w0.heap.size 99 zA0 ((gtD p1 p2).1,(gtD p1 p2).2.1,x101.1,x109.1))] A w:=hO.repin 0 rfl (trP.pin p_h128)
            obtain ⟨e130,hr⟩:=zAF hr
            refine HT.draw (by kernel_rfl) (l:=⟨_,true,.raw v4⟩::⟨_,true,.raw v4⟩::⟨_,true,.raw (padd v4 1)⟩::⟨_,true,.raw h128⟩::⟨_,true,.raw (.int .i64 y124)⟩::⟨_,true,.raw (vptr h128 (y124.toNat*4))⟩::⟨_,true,.rep zA0 A (gtD x109.2.2 y124)⟩::⟨_,true,.rep zA0 A ((gtD p1 p2).1,(gtD p1 p2).2.1,x101.1,x109.1)⟩::⟨_,true,.raw (.bool ((gtD x109.2.2 y124)==((gtD p1 p2).1,(gtD p1 p2).2.1,x101.1,x109.1)))⟩::[]) (tl:=[]) (by kernel_rfl) (by kernel_rfl) (by kernel_rfl) (by kernel_rfl) ?_ ?_
            · exact
                Obls.cons (Obl.plain rfl rfl fun R' w' hw hs hd=>by have a0:R' 4=v4:=(hs 4 rfl).trans h4;exact zA5 a0) <|
                Obls.cons (Obl.plain rfl rfl fun R' w' hw hs hd=>by have a0:R' 66=v4:=hd 0 _ _ _ rfl rfl rfl rfl rfl;exact zB4 (zAJ (hO.own 0 _ rfl).2).ptr.ad a0) <|
                Obls.cons (Obl.plain rfl rfl fun R' w' hw hs hd=>by have a0:R' 67=v4:=hd 0 _ _ _ rfl rfl rfl rfl rfl;exact zAb ((zAJ (hO.own 0 _ rfl).2).ptr).ad a0 zEU Try.sizeOf39 (by decide) rfl) <|
                Obls.cons (Obl.plain rfl rfl fun R' w' hw hs hd=>by have a0:R' 68=(padd v4 1):=hd 0 _ _ _ rfl rfl rfl rfl rfl;exact zBv (((hO.fr hw).own 0 _ rfl).2.2 _ (.head _)) a0 Try.isAgg39 Try.sizeOf39) <|
                Obls.cons (Obl.plain rfl rfl fun R' w' hw hs hd=>by have a0:R' 14 = .int .i64 y124:=(hs 14 rfl).trans h14;exact zA5 a0) <|
                Obls.cons (Obl.plain rfl rfl fun R' w' hw hs hd=>by have a0:R' 69=h128:=hd 0 _ _ _ rfl rfl rfl rfl rfl;have a1:R' 70 = .int .i64 y124:=hd 1 _ _ _ rfl rfl rfl rfl rfl;exact zCT (((((zAJ (hO.own 0 _ rfl).2).ptr).snd rfl)).pin ((hO.own 0 _ rfl).2.2 _ (.head _)) rfl) a0 a1 Try.underlying39 Try.sizeOf99 e130 rfl) <|
                Obls.cons (Obl.plain rfl rfl fun R' w' hw hs hd=>by have a0:R' 71=(vptr h128 (y124.toNat*4)):=hd 0 _ _ _ rfl rfl rfl rfl rfl;exact (zEy (((((((zAJ ((hO.fr hw).own 0 _ rfl).2).ptr).snd rfl)).pin (((hO.fr hw).own 0 _ rfl).2.2 _ (.head _)) rfl).elem e130 rfl)) a0 Try.isAgg99 Try.sizeOf99)) <|
                Obls.cons (Obl.plain rfl rfl fun R' w' hw hs hd=>by have a0:R' 13=(.pointer (some ⟨b13_118,0,none⟩)):=(hs 13 rfl).trans h13;exact (zAD ((hO.fr hw).ok 1 _ rfl).1 a0 (Fld.id _) rfl Try.isAgg99 Try.sizeOf99)) <|
                Obls.cons (Obl.plain rfl rfl fun R' w' hw hs hd=>by have a0:Rep zA0 A w' (R' 72) (gtD x109.2.2 y124):=hd 0 _ _ _ rfl rfl rfl rfl rfl;have a1:Rep zA0 A w' (R' 73) ((gtD p1 p2).1,(gtD p1 p2).2.1,x101.1,x109.1):=hd 1 _ _ _ rfl rfl rfl rfl rfl;exact zDm Try.eqGuardType99 (zCC a0) (zCC a1) (zL1 (gtD x109.2.2 y124) ((gtD p1 p2).1,(gtD p1 p2).2.1,x101.1,x109.1) _)) <|
                Obls.nil
            intro R w hw hs hF'
            replace h4:R 4=v4:=(hs 4 rfl).trans h4
            replace h13:R 13=(.pointer (some ⟨b13_118,0,none⟩)):=(hs 13 rfl).trans h13
            replace h14:R 14 = .int .i64 y124:=(hs 14 rfl).trans h14
            have h74:R 74 = .bool ((gtD x109.2.2 y124)==((gtD p1 p2).1,(gtD p1 p2).2.1,x101.1,x109.1)):=hF' 8 _ _ rfl rfl rfl
            replace hO:=hO.fr hw
            replace hA:=hA.fr hw.size
            replace hF:=hF.tr (hw.ch noB) fun _ h=>False.elim h
            clear hs hF' hw
            refine zA4 ?_
            replace hO:IniOK [⟨v4,S114,trR (fun k=>w0.heap.size≤k∨S0 k) (oPt 41 (oPr (oRd (eInt .i64)) (oSl 99 (oRd zA0)))) x109.2 []⟩,ob (.pointer (some ⟨b13_118,0,none⟩)) (.box w0.heap.size 99 zA0 ((gtD p1 p2).1,(gtD p1 p2).2.1,x101.1,x109.1))] A w:=hO.repin 0 rfl trP.nopin
            refine HT.cond ((gtD x109.2.2 y124)==((gtD p1 p2).1,(gtD p1 p2).2.1,x101.1,x109.1)) h74 (fun c131=>?_) (fun c131=>?_)
            · have hr := zAq c131 hr
              refine HT.seq ?_
              obtain ⟨e132,hr⟩:=zAF hr
              refine HT.text (l:=⟨_,true,.raw (.int .i64 y124)⟩::⟨_,true,.raw (.int .i64 (y124+(2:Int)))⟩::⟨_,true,.raw (.int .i64 (y124+(2:Int)))⟩::[]) (tl:=[]) (by kernel_rfl) (by kernel_rfl) (by kernel_rfl) ?_ ?_
              · exact
                  Obls.cons (Obl.plain rfl rfl fun R' w' hw hs hd=>by have a0:R' 14 = .int .i64 y124:=(hs 14 rfl).trans h14;exact zA5 a0) <|
                  Obls.cons (Obl.plain rfl rfl fun R' w' hw hs hd=>by have a0:R' 75 = .int .i64 y124:=hd 0 _ _ _ rfl rfl rfl rfl rfl;exact zB8 a0 rfl e132) <|
                  Obls.cons (Obl.plain rfl rfl fun R' w' hw hs hd=>by have a0:R' 76 = .int .i64 (y124+(2:Int)):=hd 0 _ _ _ rfl rfl rfl rfl rfl;exact zA6 a0) <|
                  Obls.nil
              intro R w hw hs hF'
              have h10:R 10 = .int .i64 (y124+(2:Int)):=hF' 2 _ _ rfl rfl rfl
              replace hO:=hO.fr hw
              replace hO:IniOK [⟨v4,S114,trR (fun k=>w0.heap.size≤k∨S0 k) (oPt 41 (oPr (oRd (eInt .i64)) (oSl 99 (oRd zA0)))) x109.2 []⟩] A w:=hO.sub [(0,⟨v4,S114,trR (fun k=>w0.heap.size≤k∨S0 k) (oPt 41 (oPr (oRd (eInt .i64)) (oSl 99 (oRd zA0)))) x109.2 []⟩)] ⟨rfl,rfl,trivial⟩
              replace hA:=hA.fr hw.size
              replace hF:=hF.tr (hw.ch noB) fun _ h=>False.elim h
              clear hs hF' hw
              refine zA4 ?_
              refine HT.ret ?_
              obtain rfl:=Option.some.inj hr
              have hr:=hr0
              replace hr:some _=some _:=hr
              obtain rfl:=Option.some.inj hr
              exact ⟨.inr rfl,[R 10],⟨rfl,trivial⟩,h10,zCx rfl (hO.own 0 _ rfl) (hO.ok 0 _ rfl).2 hAA hF⟩
            · have hr := zAp c131 hr
              refine HT.skip ?_
              obtain ⟨e133,hr⟩:=zAF hr
              refine HT.text (l:=⟨_,true,.raw (.int .i64 y124)⟩::⟨_,true,.raw (.int .i64 (y124+(1:Int)))⟩::⟨_,true,.raw (.int .i64 (y124+(1:Int)))⟩::[]) (tl:=[]) (by kernel_rfl) (by kernel_rfl) (by kernel_rfl) ?_ ?_
              · exact
                  Obls.cons (Obl.plain rfl rfl fun R' w' hw hs hd=>by have a0:R' 14 = .int .i64 y124:=(hs 14 rfl).trans h14;exact zA5 a0) <|
                  Obls.cons (Obl.plain rfl rfl fun R' w' hw hs hd=>by have a0:R' 64 = .int .i64 y124:=hd 0 _ _ _ rfl rfl rfl rfl rfl;exact zB8 a0 rfl e133) <|
                  Obls.cons (Obl.plain rfl rfl fun R' w' hw hs hd=>by have a0:R' 65 = .int .i64 (y124+(1:Int)):=hd 0 _ _ _ rfl rfl rfl rfl rfl;exact zA6 a0) <|
                  Obls.nil
              intro R w hw hs hF'
              replace h4:R 4=v4:=(hs 4 rfl).trans h4
              replace h13:R 13=(.pointer (some ⟨b13_118,0,none⟩)):=(hs 13 rfl).trans h13
              have h14:R 14 = .int .i64 (y124+(1:Int)):=hF' 2 _ _ rfl rfl rfl
              replace hO:=hO.fr hw
              replace hA:=hA.fr hw.size
              replace hF:=hF.tr (hw.ch noB) fun _ h=>False.elim h
              clear hs hF' hw
              refine zA4 ?_
              exact Exists.intro k (And.intro (Nat.lt_succ_self k) ⟨_,_,hr,hA,hF,hAA,hO,h4,h13,h14⟩)
          · have hr := zAp c127 hr
            refine HT.exit ?_
            obtain rfl:=Option.some.inj hr
            exact Exists.intro _ ⟨_,rfl,hA,hF,hAA,hO,h4,h13⟩
        rintro R w ⟨A,s123,rfl,hA,hF,hAA,hO,h4,h13⟩
        have hr:=zDj hr
        refine HT.seq ?_
        obtain ⟨h134,p_h134⟩:=((((zAJ (hO.own 0 _ rfl).2).ptr).snd rfl)).open1 rfl
        replace hO:IniOK [⟨v4,S114,trR (fun k=>w0.heap.size≤k∨S0 k) (oPt 41 (oPr (oRd (eInt .i64)) (oSl 99 (oRd zA0)))) x109.2 [((padd v4 1),[h134])]⟩,ob (.pointer (some ⟨b13_118,0,none⟩)) (.box w0.heap.size 99 zA0 ((gtD p1 p2).1,(gtD p1 p2).2.1,x101.1,x109.1))] A w:=hO.repin 0 rfl (trP.pin p_h134)
        obtain ⟨e136,hr⟩:=zAF hr
        refine HT.drawR [⟨v4,S114,trR (fun k=>w0.heap.size≤k∨S0 k) (oPt 41 (oPr (oRd (eInt .i64)) (oSl 99 (oRd zA0)))) x109.2 [((padd v4 1),[h134])]⟩,ob (.pointer (some ⟨b13_118,0,none⟩)) (.box w0.heap.size 99 zA0 ((gtD p1 p2).1,(gtD p1 p2).2.1,x101.1,x109.1))] (⟨_,true,[],none,true,fun A=>.raw v4⟩::⟨_,true,[],none,true,fun A=>.raw v4⟩::⟨_,true,[],none,true,fun A=>.raw v4⟩::⟨_,true,[],none,true,fun A=>.raw (padd v4 1)⟩::⟨_,true,[],none,true,fun A=>.raw h134⟩::⟨_,true,[],none,true,fun A=>.rep zA0 A ((gtD p1 p2).1,(gtD p1 p2).2.1,x101.1,x109.1)⟩::⟨_,true,[],none,true,fun A=>.rep (eSl zA0) A ([((gtD p1 p2).1,(gtD p1 p2).2.1,x101.1,x109.1)]:List zA3)⟩::⟨_,true,[0],some (.gen (fun k=>w0.heap.size≤k∨S0 k) (pdP (oSl 99 (oRd zA0)) (padd v4 1) (fun z A w S=>(trP (oPt 41 (oPr (oRd (eInt .i64)) (oSl 99 (oRd zA0)))) (x109.2.1,z) []).P A w S v4) (x109.2.2++([((gtD p1 p2).1,(gtD p1 p2).2.1,x101.1,x109.1)]:List zA3)))),true,fun A=>.any⟩::⟨_,true,[],none,true,fun A=>.raw v4⟩::⟨_,true,[],none,true,fun A=>.raw (padd v4 1)⟩::⟨_,true,[9],some (.gen (fun k=>w0.heap.size≤k∨S0 k) (fixP v4 (trP (oPt 41 (oPr (oRd (eInt .i64)) (oSl 99 (oRd zA0)))) (x109.2.1,(x109.2.2++([((gtD p1 p2).1,(gtD p1 p2).2.1,x101.1,x109.1)]:List zA3))) []))),false,fun A=>.any⟩::[]) (by kernel_rfl) (by kernel_rfl) (by kernel_rfl) (Wf.mk' (by kernel_rfl) (UAll.cons zAA (UAll.cons zAA (UAll.cons zAA (UAll.cons zAA (UAll.cons zAA (UAll.cons zAn (UAll.cons zAn (UAll.cons zAG (UAll.cons zAA (UAll.cons zAA (UAll.cons zAG (UAll.nil)))))))))))) (by kernel_rfl) (by kernel_rfl)) hO hA ?_ ?_
        · exact
            zA9.cons (OblR.plain rfl rfl rfl rfl fun A' R' w' ho hd=>by have a0:R' 4=v4:=(ho.old 4 rfl).trans h4;exact zA5 a0) <|
            zA9.cons (OblR.plain rfl rfl rfl rfl fun A' R' w' ho hd=>by have a0:R' 4=v4:=(ho.old 4 rfl).trans h4;exact zA5 a0) <|
            zA9.cons (OblR.plain rfl rfl rfl rfl fun A' R' w' ho hd=>by have a0:R' 78=v4:=hd 0 _ _ _ rfl rfl rfl rfl rfl;exact zB4 (zAJ (hO.own 0 _ rfl).2).ptr.ad a0) <|
            zA9.cons (OblR.plain rfl rfl rfl rfl fun A' R' w' ho hd=>by have a0:R' 79=v4:=hd 0 _ _ _ rfl rfl rfl rfl rfl;exact zAb ((zAJ (hO.own 0 _ rfl).2).ptr).ad a0 zEU Try.sizeOf39 (by decide) rfl) <|
            zA9.cons (OblR.plain rfl rfl rfl rfl fun A' R' w' ho hd=>by have a0:R' 80=(padd v4 1):=hd 0 _ _ _ rfl rfl rfl rfl rfl;exact zBv ((ho.rdo 0 _ rfl rfl).2.2 _ (.head _)) a0 Try.isAgg39 Try.sizeOf39) <|
            zA9.cons (OblR.plain rfl rfl rfl rfl fun A' R' w' ho hd=>by have a0:R' 13=(.pointer (some ⟨b13_118,0,none⟩)):=(ho.old 13 rfl).trans h13;exact (zAD (ho.rd 1 _ rfl rfl) a0 (Fld.id _) rfl Try.isAgg99 Try.sizeOf99)) <|
            zA9.cons (OblR.plain rfl rfl rfl rfl fun A' R' w' ho hd=>by have a0:Rep zA0 A' w' (R' 82) ((gtD p1 p2).1,(gtD p1 p2).2.1,x101.1,x109.1):=hd 0 _ _ _ rfl rfl rfl rfl rfl;exact zFW [_] (E:=zA0) ⟨a0,trivial⟩ Try.underlying39 Try.sizeOf99 Try.zeroValue99 rfl rfl rfl ho.av) <|
            zA9.cons (OblR.tookS 0 _ _ rfl rfl rfl rfl rfl fun A' R' w' ho hd u S hok hown hav hin hop hds=>by have a0:R' 81=h134:=hd 0 _ _ _ rfl rfl rfl rfl rfl;have a1:Rep (eSl zA0) A' w' (R' 83) ([((gtD p1 p2).1,(gtD p1 p2).2.1,x101.1,x109.1)]:List zA3):=hd 1 _ _ _ rfl rfl rfl rfl rfl;have e0:=(hin _ rfl).1;rw [e0] at hown ⊢;exact zG1 (((zAJ hown.2).ptr).snd rfl) (hown.2.2 _ (.head _)) a0 hav hown.1 (fun k hk=>.inl (Nat.le_trans (Nat.le_trans hF.size ho.ch.size) hk)) (fun k hk=>SP.lt _ hown.2 hk) a1 Try.underlying39 zM2 e136) <|
            zA9.cons (OblR.plain rfl rfl rfl rfl fun A' R' w' ho hd=>by have a0:R' 77=v4:=hd 0 _ _ _ rfl rfl rfl rfl rfl;exact zB4 (zAJ (hO.own 0 _ rfl).2).ptr.ad a0) <|
            zA9.cons (OblR.plain rfl rfl rfl rfl fun A' R' w' ho hd=>by have a0:R' 85=v4:=hd 0 _ _ _ rfl rfl rfl rfl rfl;exact zAb ((zAJ (hO.own 0 _ rfl).2).ptr).ad a0 zEU Try.sizeOf39 (by decide) rfl) <|
            zA9.cons (OblR.tookS 9 _ _ rfl rfl rfl rfl rfl fun A' R' w' ho hd u S hok hown hav hin hop hds=>by have a0:R' 86=(padd v4 1):=hd 0 _ _ _ rfl rfl rfl rfl rfl;exact zHq hown.2 (hop _ _ rfl rfl rfl rfl).symm a0 hav hown.1 Try.sizeOf39 (fun _ _ _ h=>h)) <|
            zA9.nil
        intro done ρ σ A R w hdn hI
        replace h4:R 4=v4:=(hI.reg rfl).trans h4
        obtain ⟨u137,e_u137⟩:∃ u,ρ 12=u:=⟨_,rfl⟩
        have z138:=hI.inivR 1 rfl
        obtain ⟨S139,eS_v4⟩:∃ S,σ 12=S:=⟨_,rfl⟩
        replace hAA:=hI.lowK hAA hA0 hN (hO.geK (⟨fun _ h=>h,⟨.inl rfl,trivial⟩⟩))
        replace hF:Ch S0 w0 w:=hF.tr hI.ch (hO.geK (⟨fun _ h=>h,⟨.inl rfl,trivial⟩⟩))
        replace hO:IniOK [⟨u137,S139,.gen (fun k=>w0.heap.size≤k∨S0 k) (fixP v4 (trP (oPt 41 (oPr (oRd (eInt .i64)) (oSl 99 (oRd zA0)))) (x109.2.1,(x109.2.2++([((gtD p1 p2).1,(gtD p1 p2).2.1,x101.1,x109.1)]:List zA3))) []))⟩] A w:=hI.left hdn [(12,⟨u137,S139,.gen (fun k=>w0.heap.size≤k∨S0 k) (fixP v4 (trP (oPt 41 (oPr (oRd (eInt .i64)) (oSl 99 (oRd zA0)))) (x109.2.1,(x109.2.2++([((gtD p1 p2).1,(gtD p1 p2).2.1,x101.1,x109.1)]:List zA3))) []))⟩)] ⟨rfl,rfl,e_u137,eS_v4,rfl,trivial⟩
        replace hA:=hI.avok
        clear hI
        replace hO:IniOK [⟨v4,S139,trR (fun k=>w0.heap.size≤k∨S0 k) (oPt 41 (oPr (oRd (eInt .i64)) (oSl 99 (oRd zA0)))) (x109.2.1,(x109.2.2++([((gtD p1 p2).1,(gtD p1 p2).2.1,x101.1,x109.1)]:List zA3))) []⟩] A w:=hO.refix 0 rfl
        refine HT.seq ?_
        obtain ⟨h140,p_h140⟩:=((((zAJ (hO.own 0 _ rfl).2).ptr).snd rfl)).open1 rfl
        replace hO:IniOK [⟨v4,S139,trR (fun k=>w0.heap.size≤k∨S0 k) (oPt 41 (oPr (oRd (eInt .i64)) (oSl 99 (oRd zA0)))) (x109.2.1,(x109.2.2++([((gtD p1 p2).1,(gtD p1 p2).2.1,x101.1,x109.1)]:List zA3))) [((padd v4 1),[h140])]⟩] A w:=hO.repin 0 rfl (trP.pin p_h140)
        obtain ⟨e142,hr⟩:=zAF hr
        refine HT.text (l:=⟨_,true,.raw v4⟩::⟨_,true,.raw v4⟩::⟨_,true,.raw (padd v4 1)⟩::⟨_,true,.raw h140⟩::⟨_,true,.raw (.int .i64 ((x109.2.2++([((gtD p1 p2).1,(gtD p1 p2).2.1,x101.1,x109.1)]:List zA3)).length:Int))⟩::⟨_,true,.raw (.int .i64 (((x109.2.2++([((gtD p1 p2).1,(gtD p1 p2).2.1,x101.1,x109.1)]:List zA3)).length:Int)+(1:Int)))⟩::⟨_,true,.raw (.int .i64 (((x109.2.2++([((gtD p1 p2).1,(gtD p1 p2).2.1,x101.1,x109.1)]:List zA3)).length:Int)+(1:Int)))⟩::[]) (tl:=[]) (by kernel_rfl) (by kernel_rfl) (by kernel_rfl) ?_ ?_
        · exact
            Obls.cons (Obl.plain rfl rfl fun R' w' hw hs hd=>by have a0:R' 4=v4:=(hs 4 rfl).trans h4;exact zA5 a0) <|
            Obls.cons (Obl.plain rfl rfl fun R' w' hw hs hd=>by have a0:R' 87=v4:=hd 0 _ _ _ rfl rfl rfl rfl rfl;exact zB4 (zAJ (hO.own 0 _ rfl).2).ptr.ad a0) <|
            Obls.cons (Obl.plain rfl rfl fun R' w' hw hs hd=>by have a0:R' 88=v4:=hd 0 _ _ _ rfl rfl rfl rfl rfl;exact zAb ((zAJ (hO.own 0 _ rfl).2).ptr).ad a0 zEU Try.sizeOf39 (by decide) rfl) <|
            Obls.cons (Obl.plain rfl rfl fun R' w' hw hs hd=>by have a0:R' 89=(padd v4 1):=hd 0 _ _ _ rfl rfl rfl rfl rfl;exact zBv (((hO.fr hw).own 0 _ rfl).2.2 _ (.head _)) a0 Try.isAgg39 Try.sizeOf39) <|
            Obls.cons (Obl.plain rfl rfl fun R' w' hw hs hd=>by have a0:R' 90=h140:=hd 0 _ _ _ rfl rfl rfl rfl rfl;exact zFZ (((((zAJ (hO.own 0 _ rfl).2).ptr).snd rfl)).pin ((hO.own 0 _ rfl).2.2 _ (.head _)) rfl) a0 Try.underlying39) <|
            Obls.cons (Obl.plain rfl rfl fun R' w' hw hs hd=>by have a0:R' 91 = .int .i64 ((x109.2.2++([((gtD p1 p2).1,(gtD p1 p2).2.1,x101.1,x109.1)]:List zA3)).length:Int):=hd 0 _ _ _ rfl rfl rfl rfl rfl;exact zB8 a0 rfl e142) <|
            Obls.cons (Obl.plain rfl rfl fun R' w' hw hs hd=>by have a0:R' 92 = .int .i64 (((x109.2.2++([((gtD p1 p2).1,(gtD p1 p2).2.1,x101.1,x109.1)]:List zA3)).length:Int)+(1:Int)):=hd 0 _ _ _ rfl rfl rfl rfl rfl;exact zA6 a0) <|
            Obls.nil
        intro R w hw hs hF'
        have h10:R 10 = .int .i64 (((x109.2.2++([((gtD p1 p2).1,(gtD p1 p2).2.1,x101.1,x109.1)]:List zA3)).length:Int)+(1:Int)):=hF' 6 _ _ rfl rfl rfl
        replace hO:=hO.fr hw
        replace hA:=hA.fr hw.size
        replace hF:=hF.tr (hw.ch noB) fun _ h=>False.elim h
        clear hs hF' hw
        refine zA4 ?_
        replace hO:IniOK [⟨v4,S139,trR (fun k=>w0.heap.size≤k∨S0 k) (oPt 41 (oPr (oRd (eInt .i64)) (oSl 99 (oRd zA0)))) (x109.2.1,(x109.2.2++([((gtD p1 p2).1,(gtD p1 p2).2.1,x101.1,x109.1)]:List zA3))) []⟩] A w:=hO.repin 0 rfl trP.nopin
        refine HT.ret ?_
        obtain rfl:=Option.some.inj hr
        exact ⟨.inr rfl,[R 10],⟨rfl,trivial⟩,h10,zCx rfl (hO.own 0 _ rfl) (hO.ok 0 _ rfl).2 hAA hF⟩
theorem zFS {q : Nat} {fu : Nat} {A0 : Av} {p0 : zAH} {p1 : List zA7} {p2 : Int} {p3 : Int} {p4 : zAR} {r : Int × zAR} (hr : zBE q fu p0 p1 p2 p3 p4 = some r) {w : World} {v0 : Value} {v1 : Value} {v2 : Value} {v3 : Value} {v4 : Value} {S0 : Nat → Prop} (hA : AvOK A0 w) (hN : ∀ b o, A0 b o → ¬ S0 b) (h0 : Rep zA2 (addS A0 S0) w v0 p0) (h1 : Rep (eSl zA1) (addS A0 S0) w v1 p1) (h2 : v2 = .int .i64 p2) (h3 : v3 = .int .i64 p3) (h4 : (trP (oPt 41 (oPr (oRd (eInt .i64)) (oSl 99 (oRd zA0)))) p4 []).P (addS A0 S0) w S0 v4) :
    Calls Try.prog 42 #[v0,v1,v2,v3,v4] w fun e w'=>∃ v,e = .returned v∧(v = .int .i64 r.1∧Gave (oPt 41 (oPr (oRd (eInt .i64)) (oSl 99 (oRd zA0)))) A0 S0 w v4 r.2 w'):=zFI q hr hA hN h0 h1 h2 h3 h4
def zBQ (fu:Nat) (p0:zAH):Option (zAR × Bool):=
  cl true (zBj fu p0) fun x3=>
  bif (!x3) then (
    some (((0:Int),([]:List zA3)),false)
  ) else (
    cl true (zBA fu p0) fun x14=>
    cl true (zBE fu fu p0 x14 (0:Int) (0:Int) ((0:Int),([]:List zA3))) fun x16=>
    some ((x16.1,x16.2.2),true)
  )
set_option linter.unusedSimpArgs false in
set_option maxRecDepth 100000 in
set_option maxHeartbeats 4000000 in
theorem zEY {fu : Nat} {A0 : Av} {p0 : zAH} {r : zAR × Bool} (hr : zBQ fu p0 = some r) {w : World} {v0 : Value} (hA : AvOK A0 w) (h0 : Rep zA2 A0 w v0 p0) :
    Calls Try.prog 18 #[v0] w fun e w'=>∃ v,e = .returned v∧((∃ a b,v = .tuple #[a,b]∧Rep zA8 A0 w' a r.1∧b = .bool r.2)∧Fr w w'):=by
  unfold zBQ at hr
  obtain ⟨w0,hw0⟩:∃ w0,w0=w:=⟨_,rfl⟩
  have hF:Fr w0 w:=hw0 ▸ Fr.refl _
  have hA0:∀ b o,A0 b o→b<w0.heap.size:=fun b o h=>hw0 ▸ hA b o h
  have hA00:AvOK A0 w0:=hA0
  rw [show Fr w=Fr w0 from hw0 ▸ rfl]
  clear hw0
  obtain ⟨A,hAe⟩:∃ A,A=A0:=⟨_,rfl⟩
  have hAA:∀ b o,A0 b o→A b o:=fun b o h=>hAe ▸ h
  replace hA:AvOK A w:=hAe ▸ hA
  have hO:IniOK [] A w:=IniOK.nil
  refine zAI [.cell 2 41,.tmp 3] Try.func18 Try.ntmps18 (by decide) rfl rfl (Nat.le_of_ble_eq_true rfl) ?_
  intro R hR
  have f_v0:Rep zA2 A w v0 p0:=hAe ▸ h0
  replace h0:R 0=v0:=hR 0 _ rfl
  clear hR hAe
  refine HT.seq ?_
  refine HT.textR [] (⟨_,true,[],some (.box w0.heap.size 29 zA2 p0),true,fun A=>.any⟩::⟨_,true,[],some (.box w0.heap.size 41 zA8 ((0:Int),([]:List zA3))),true,fun A=>.any⟩::⟨_,true,[],none,true,fun A=>.raw (.bool false)⟩::[]) (by kernel_rfl) (by kernel_rfl) (Wf.mk' (by kernel_rfl) (UAll.cons zAG (UAll.cons zAG (UAll.cons zAA (UAll.nil)))) (by kernel_rfl) (by kernel_rfl)) hO hA ?_ ?_
  · exact
      zA9.cons (OblR.made _ rfl rfl rfl rfl fun A' R' w' ho hd=>by have a0:R' 0=v0:=(ho.old 0 rfl).trans h0;have ra0:=(f_v0.stp ho.stp).eq a0;exact zB9 ra0 (Nat.le_trans hF.size ho.ch.size)) <|
      zA9.cons (OblR.made _ rfl rfl rfl rfl fun A' R' w' ho hd=>by exact zC5 Try.zeroValue41 (fun A w=>zBr zAe zE7) (Nat.le_trans hF.size ho.ch.size)) <|
      zA9.cons (OblR.plain rfl rfl rfl rfl fun A' R' w' ho hd=>by exact zA6 rfl) <|
      zA9.nil
  intro done ρ σ A R w hdn hI
  obtain ⟨b1_0,e_b1_0⟩:=hI.boxv hdn 0 rfl rfl
  have h1:R 1=(.pointer (some ⟨b1_0,0,none⟩)):=(hI.opvR hdn 0 0 rfl rfl rfl rfl rfl).symm.trans e_b1_0
  obtain ⟨b2_1,e_b2_1⟩:=hI.boxv hdn 1 rfl rfl
  have h2:R 2=(.pointer (some ⟨b2_1,0,none⟩)):=(hI.opvR hdn 1 1 rfl rfl rfl rfl rfl).symm.trans e_b2_1
  replace hAA:=hI.low' hAA hA0 (hO.ge (trivial))
  replace hF:Fr w0 w:=hF.tr hI.ch (hO.ge (trivial))
  replace hO:IniOK [ob (.pointer (some ⟨b1_0,0,none⟩)) (.box w0.heap.size 29 zA2 p0),ob (.pointer (some ⟨b2_1,0,none⟩)) (.box w0.heap.size 41 zA8 ((0:Int),([]:List zA3)))] A w:=hI.left hdn [(0,ob (.pointer (some ⟨b1_0,0,none⟩)) (.box w0.heap.size 29 zA2 p0)),(1,ob (.pointer (some ⟨b2_1,0,none⟩)) (.box w0.heap.size 41 zA8 ((0:Int),([]:List zA3))))] ⟨rfl,rfl,e_b1_0,rfl,rfl,⟨rfl,rfl,e_b2_1,rfl,rfl,trivial⟩⟩
  replace hA:=hI.avok
  clear hI
  refine HT.seq ?_
  refine HT.seq ?_
  obtain ⟨x3,q4,hr⟩:=zAK hr
  refine HT.text (l:=⟨_,true,.rep zA2 A p0⟩::⟨_,true,.raw (.bool x3)⟩::⟨_,true,.raw (.bool (!x3))⟩::[]) (tl:=[]) (by kernel_rfl) (by kernel_rfl) (by kernel_rfl) ?_ ?_
  · exact
      Obls.cons (Obl.plain rfl rfl fun R' w' hw hs hd=>by have a0:R' 1=(.pointer (some ⟨b1_0,0,none⟩)):=(hs 1 rfl).trans h1;exact (zAD ((hO.fr hw).ok 0 _ rfl).1 a0 (Fld.id _) rfl Try.isAgg29 Try.sizeOf29)) <|
      Obls.cons (Obl.plain rfl rfl fun R' w' hw hs hd=>by have a0:Rep zA2 A w' (R' 5) p0:=hd 0 _ _ _ rfl rfl rfl rfl rfl;exact zAl Try.call26 (zDN (q4 rfl) (hA.fr hw.size) a0)) <|
      Obls.cons (Obl.plain rfl rfl fun R' w' hw hs hd=>by have a0:R' 6 = .bool x3:=hd 0 _ _ _ rfl rfl rfl rfl rfl;exact zD7 a0) <|
      Obls.nil
  intro R w hw hs hF'
  replace h1:R 1=(.pointer (some ⟨b1_0,0,none⟩)):=(hs 1 rfl).trans h1
  replace h2:R 2=(.pointer (some ⟨b2_1,0,none⟩)):=(hs 2 rfl).trans h2
  have h7:R 7 = .bool (!x3):=hF' 2 _ _ rfl rfl rfl
  replace hO:=hO.fr hw
  replace hA:=hA.fr hw.size
  replace hF:=hF.trans hw
  clear hs hF' hw
  refine zA4 ?_
  refine HT.cond (!x3) h7 (fun c5=>?_) (fun c5=>?_)
  · have hr := zAq c5 hr
    refine HT.seq ?_
    refine HT.textR [ob (.pointer (some ⟨b1_0,0,none⟩)) (.box w0.heap.size 29 zA2 p0),ob (.pointer (some ⟨b2_1,0,none⟩)) (.box w0.heap.size 41 zA8 ((0:Int),([]:List zA3)))] (⟨_,true,[],none,true,fun A=>.rep zA8 A ((0:Int),([]:List zA3))⟩::⟨_,true,[1],some (.box w0.heap.size 41 zA8 ((0:Int),([]:List zA3))),false,fun A=>.any⟩::⟨_,true,[],none,true,fun A=>.raw (.bool false)⟩::[]) (by kernel_rfl) (by kernel_rfl) (Wf.mk' (by kernel_rfl) (UAll.cons zAn (UAll.cons zAG (UAll.cons zAA (UAll.nil)))) (by kernel_rfl) (by kernel_rfl)) hO hA ?_ ?_
    · exact
        zA9.cons (OblR.plain rfl rfl rfl rfl fun A' R' w' ho hd=>by exact zE2 (v:=.agg #[.int .i64 0,.slice none 0 0]) (by simp [execOp,Instr.build,zAL,underlying,Try.underlying41,Try.zeroValue41,Try.sizeOf3,Try.sizeOf39,go_sem,Instr.fill]) ⟨_,rfl,zBr zAe zE7⟩) <|
        zA9.cons (OblR.took 1 _ _ rfl rfl rfl rfl rfl fun A' R' w' ho hd u hok hav hin hop hds=>by have a0:R' 2=(.pointer (some ⟨b2_1,0,none⟩)):=(ho.old 2 rfl).trans h2;have a1:Rep zA8 A' w' (R' 8) ((0:Int),([]:List zA3)):=hd 0 _ _ _ rfl rfl rfl rfl rfl;exact zBY a1 a0 (hin _ rfl) hok hav (FldS.id _) Try.sizeOf41 rfl) <|
        zA9.cons (OblR.plain rfl rfl rfl rfl fun A' R' w' ho hd=>by exact zA6 rfl) <|
        zA9.nil
    intro done ρ σ A R w hdn hI
    replace h2:R 2=(.pointer (some ⟨b2_1,0,none⟩)):=(hI.reg rfl).trans h2
    have z6:=hI.inivR 0 rfl
    have z7:=hI.inivR 1 rfl
    have z8:=(hI.opnR hdn 3 1 rfl rfl rfl rfl rfl).trans z7
    have h3:R 3 = .bool false:=hI.fact hdn (i:=2) rfl rfl rfl
    replace hAA:=hI.low' hAA hA0 (hO.ge (⟨rfl,⟨rfl,trivial⟩⟩))
    replace hF:Fr w0 w:=hF.tr hI.ch (hO.ge (⟨rfl,⟨rfl,trivial⟩⟩))
    replace hO:IniOK [ob (.pointer (some ⟨b2_1,0,none⟩)) (.box w0.heap.size 41 zA8 ((0:Int),([]:List zA3)))] A w:=hI.left hdn [(3,ob (.pointer (some ⟨b2_1,0,none⟩)) (.box w0.heap.size 41 zA8 ((0:Int),([]:List zA3))))] ⟨rfl,rfl,z8,rfl,rfl,trivial⟩
    replace hA:=hI.avok
    clear hI
    refine HT.ret ?_
    obtain rfl:=Option.some.inj hr
    obtain ⟨v_2,e_2,p_2⟩:=zHP (hO.ok 0 _ rfl).1 h2 Try.isAgg41 Try.sizeOf41 hAA
    exact ⟨.inr rfl,[v_2,R 3],⟨e_2,⟨rfl,trivial⟩⟩,⟨_,_,rfl,p_2,h3⟩,hF⟩
  · have hr := zAp c5 hr
    refine HT.skip ?_
    refine HT.seq ?_
    refine HT.textR [ob (.pointer (some ⟨b1_0,0,none⟩)) (.box w0.heap.size 29 zA2 p0),ob (.pointer (some ⟨b2_1,0,none⟩)) (.box w0.heap.size 41 zA8 ((0:Int),([]:List zA3)))] (⟨_,true,[],some (trR (geB w0.heap.size) (oPr (oRd (eInt .i64)) (oSl 99 (oRd zA0))) ((0:Int),([]:List zA3)) []),true,fun A=>.any⟩::⟨_,true,[],some (trR (geB w0.heap.size) (oPt 41 (oPr (oRd (eInt .i64)) (oSl 99 (oRd zA0)))) ((0:Int),([]:List zA3)) []),true,fun A=>.any⟩::⟨_,true,[3,2],some (trR (geB w0.heap.size) (oPt 41 (oPr (oRd (eInt .i64)) (oSl 99 (oRd zA0)))) ((0:Int),([]:List zA3)) []),false,fun A=>.any⟩::[]) (by kernel_rfl) (by kernel_rfl) (Wf.mk' (by kernel_rfl) (UAll.cons zAG (UAll.cons zAG (UAll.cons zAG (UAll.nil)))) (by kernel_rfl) (by kernel_rfl)) hO hA ?_ ?_
    · exact
        zA9.cons (OblR.madeS _ rfl rfl rfl rfl fun A' R' w' ho hd=>by exact zI2 (v:=.agg #[.int .i64 0,.slice none 0 0]) (by simp [execOp,Instr.build,zAL,underlying,Try.underlying41,Try.zeroValue41,Try.sizeOf3,Try.sizeOf39,go_sem,Instr.fill]) ⟨⟨_,rfl,zHy (zFz zAe) zDg⟩,fun q hq=>by cases hq⟩ (fun k hk=>Nat.le_trans (Nat.le_trans hF.size ho.ch.size) hk)) <|
        zA9.cons (OblR.madeS _ rfl rfl rfl rfl fun A' R' w' ho hd=>by exact zCU Try.zeroValue41 (fun A w=>zHy (zFz zAe) zDg) (fun k hk=>Nat.le_trans (Nat.le_trans hF.size ho.ch.size) hk)) <|
        zA9.cons (OblR.tookM 3 [2] _ rfl rfl rfl rfl fun A' R' w' ho hd ρ σ hok hav hin hop hds hdd=>by have k1:=hok 3 (.head _) _ rfl;exact zCu rfl (zAJ k1.2.2).ptr (hok 2 (.tail _ (.head _)) _ rfl).2.2.1 (hop 2 (.tail _ (.head _)) _ _ rfl rfl rfl rfl).symm (hop 3 (.head _) _ _ rfl rfl rfl rfl).symm hav hdd k1.2.1 (hok 2 (.tail _ (.head _)) _ rfl).2.1 Try.sizeOf41 (fun _ _ _ h=>h)) <|
        zA9.nil
    intro done ρ σ A R w hdn hI
    replace h1:R 1=(.pointer (some ⟨b1_0,0,none⟩)):=(hI.reg rfl).trans h1
    replace h2:R 2=(.pointer (some ⟨b2_1,0,none⟩)):=(hI.reg rfl).trans h2
    have z9:=hI.inivR 0 rfl
    have z10:=hI.inivR 1 rfl
    obtain ⟨u11,e_u11⟩:∃ u,ρ 4=u:=⟨_,rfl⟩
    have z12:=(hI.opnR hdn 4 2 rfl rfl rfl rfl rfl).symm.trans e_u11
    have h4:R 4=u11:=(hI.opvR hdn 3 1 rfl rfl rfl rfl rfl).symm.trans z12
    obtain ⟨S13,eS_u11⟩:∃ S,σ 4=S:=⟨_,rfl⟩
    replace hAA:=hI.low' hAA hA0 (hO.ge (⟨rfl,⟨rfl,trivial⟩⟩))
    replace hF:Fr w0 w:=hF.tr hI.ch (hO.ge (⟨rfl,⟨rfl,trivial⟩⟩))
    replace hO:IniOK [ob (.pointer (some ⟨b1_0,0,none⟩)) (.box w0.heap.size 29 zA2 p0),ob (.pointer (some ⟨b2_1,0,none⟩)) (.box w0.heap.size 41 zA8 ((0:Int),([]:List zA3))),⟨u11,S13,trR (geB w0.heap.size) (oPt 41 (oPr (oRd (eInt .i64)) (oSl 99 (oRd zA0)))) ((0:Int),([]:List zA3)) []⟩] A w:=hI.left hdn [(0,ob (.pointer (some ⟨b1_0,0,none⟩)) (.box w0.heap.size 29 zA2 p0)),(1,ob (.pointer (some ⟨b2_1,0,none⟩)) (.box w0.heap.size 41 zA8 ((0:Int),([]:List zA3)))),(4,⟨u11,S13,trR (geB w0.heap.size) (oPt 41 (oPr (oRd (eInt .i64)) (oSl 99 (oRd zA0)))) ((0:Int),([]:List zA3)) []⟩)] ⟨rfl,rfl,z9,rfl,rfl,⟨rfl,rfl,z10,rfl,rfl,⟨rfl,rfl,e_u11,eS_u11,rfl,trivial⟩⟩⟩
    replace hA:=hI.avok
    clear hI
    refine HT.seq ?_
    obtain ⟨x14,q15,hr⟩:=zAK hr
    obtain ⟨x16,q17,hr⟩:=zAK hr
    refine HT.drawR [ob (.pointer (some ⟨b1_0,0,none⟩)) (.box w0.heap.size 29 zA2 p0),ob (.pointer (some ⟨b2_1,0,none⟩)) (.box w0.heap.size 41 zA8 ((0:Int),([]:List zA3))),⟨u11,S13,trR (geB w0.heap.size) (oPt 41 (oPr (oRd (eInt .i64)) (oSl 99 (oRd zA0)))) ((0:Int),([]:List zA3)) []⟩] (⟨_,true,[],none,true,fun A=>.rep zA2 A p0⟩::⟨_,true,[],none,true,fun A=>.rep zA2 A p0⟩::⟨_,true,[],none,true,fun A=>.rep (eSl zA1) A x14⟩::⟨_,true,[2],some (trR (geB w0.heap.size) (oPt 41 (oPr (oRd (eInt .i64)) (oSl 99 (oRd zA0)))) x16.2 []),false,fun A=>.raw (.int .i64 x16.1)⟩::⟨_,true,[],none,true,fun A=>.raw u11⟩::⟨_,true,[6],some (trR (geB w0.heap.size) (oPt 41 (oPr (oRd (eInt .i64)) (oSl 99 (oRd zA0)))) (x16.1,x16.2.2) []),false,fun A=>.any⟩::[]) (by kernel_rfl) (by kernel_rfl) (by kernel_rfl) (Wf.mk' (by kernel_rfl) (UAll.cons zAn (UAll.cons zAn (UAll.cons zAn (UAll.cons zAA (UAll.cons zAA (UAll.cons zAG (UAll.nil))))))) (by kernel_rfl) (by kernel_rfl)) hO hA ?_ ?_
    · exact
        zA9.cons (OblR.plain rfl rfl rfl rfl fun A' R' w' ho hd=>by have a0:R' 1=(.pointer (some ⟨b1_0,0,none⟩)):=(ho.old 1 rfl).trans h1;exact (zAD (ho.rd 0 _ rfl rfl) a0 (Fld.id _) rfl Try.isAgg29 Try.sizeOf29)) <|
        zA9.cons (OblR.plain rfl rfl rfl rfl fun A' R' w' ho hd=>by have a0:R' 1=(.pointer (some ⟨b1_0,0,none⟩)):=(ho.old 1 rfl).trans h1;exact (zAD (ho.rd 0 _ rfl rfl) a0 (Fld.id _) rfl Try.isAgg29 Try.sizeOf29)) <|
        zA9.cons (OblR.plain rfl rfl rfl rfl fun A' R' w' ho hd=>by have a0:Rep zA2 A' w' (R' 11) p0:=hd 0 _ _ _ rfl rfl rfl rfl rfl;exact zAl Try.call43 (zDs (q15 rfl) ho.av a0)) <|
        zA9.cons (OblR.tookS 2 _ _ rfl rfl rfl rfl rfl fun A' R' w' ho hd u S hok hown hav hin hop hds=>by have a0:Rep zA2 A' w' (R' 10) p0:=hd 0 _ _ _ rfl rfl rfl rfl rfl;have a1:Rep (eSl zA1) A' w' (R' 12) x14:=hd 1 _ _ _ rfl rfl rfl rfl rfl;have a4:R' 4=u11:=(ho.old 4 rfl).trans h4;have e0:=(hin _ rfl).1;rw [e0] at hown ⊢;have hu0:zAL R' (.tmp 4)=u11:=a4;exact zCH Try.call42 (zAJ hown.2) hav hown.1 (fun k hk=>Nat.le_trans (Nat.le_trans hF.size ho.ch.size) hk) (fun k hk=>SP.lt _ hown.2 hk) (fun S1 hS1 hP=>by simp only [List.map,hu0];exact zFS (q17 rfl) (ho.av.subS _) (fun b o h=>h.2) (a0.less fun b o h=>h.elim (fun h=>h.1) fun h=>hav b (hS1 b h) o) (a1.less fun b o h=>h.elim (fun h=>h.1) fun h=>hav b (hS1 b h) o) rfl rfl hP) (fun _ _ _ h=>h)) <|
        zA9.cons (OblR.plain rfl rfl rfl rfl fun A' R' w' ho hd=>by have a0:R' 4=u11:=(ho.old 4 rfl).trans h4;exact zAb ((zAJ (hO.own 2 _ rfl).2).ptr).ad a0 zIQ Try.sizeOf3 (by decide) (zEf ((zAJ (hO.own 2 _ rfl).2).ptr).ad)) <|
        zA9.cons (OblR.tookN 6 _ _ rfl rfl rfl rfl rfl fun A' R' w' ho hd u S hok hown hav hin hop hds hrt=>by have a0:R' 14=u11:=hd 0 _ _ _ rfl rfl rfl rfl rfl;have a1:R' 13 = .int .i64 x16.1:=hd 1 _ _ _ rfl rfl rfl rfl rfl;have e0:=hrt 7 2 _ rfl rfl;rw [e0] at hown ⊢;exact zFD ((zAJ hown.2).ptr).fst (zDU.eq a1) a0 hav hown.1 Try.sizeOf3 (fun _ _ _ h=>h)) <|
        zA9.nil
    intro done ρ σ A R w hdn hI
    replace h2:R 2=(.pointer (some ⟨b2_1,0,none⟩)):=(hI.reg rfl).trans h2
    replace h4:R 4=u11:=(hI.reg rfl).trans h4
    have z18:=hI.inivR 0 rfl
    have z19:=hI.inivR 1 rfl
    have z20:=hI.inivR 2 rfl
    have z21:=(hI.opnR hdn 6 3 rfl rfl rfl rfl rfl).trans z20
    have z22:=(hI.opnR hdn 8 5 rfl rfl rfl rfl rfl).trans z21
    obtain ⟨S23,eS_u11⟩:∃ S,σ 8=S:=⟨_,rfl⟩
    replace hAA:=hI.low' hAA hA0 (hO.ge (⟨rfl,⟨rfl,⟨fun _ h=>h,trivial⟩⟩⟩))
    replace hF:Fr w0 w:=hF.tr hI.ch (hO.ge (⟨rfl,⟨rfl,⟨fun _ h=>h,trivial⟩⟩⟩))
    replace hO:IniOK [ob (.pointer (some ⟨b2_1,0,none⟩)) (.box w0.heap.size 41 zA8 ((0:Int),([]:List zA3))),⟨u11,S23,trR (geB w0.heap.size) (oPt 41 (oPr (oRd (eInt .i64)) (oSl 99 (oRd zA0)))) (x16.1,x16.2.2) []⟩] A w:=hI.left hdn [(1,ob (.pointer (some ⟨b2_1,0,none⟩)) (.box w0.heap.size 41 zA8 ((0:Int),([]:List zA3)))),(8,⟨u11,S23,trR (geB w0.heap.size) (oPt 41 (oPr (oRd (eInt .i64)) (oSl 99 (oRd zA0)))) (x16.1,x16.2.2) []⟩)] ⟨rfl,rfl,z19,rfl,rfl,⟨rfl,rfl,z22,eS_u11,rfl,trivial⟩⟩
    replace hA:=hI.avok
    clear hI
    refine HT.seq ?_
    refine HT.textR [ob (.pointer (some ⟨b2_1,0,none⟩)) (.box w0.heap.size 41 zA8 ((0:Int),([]:List zA3))),⟨u11,S23,trR (geB w0.heap.size) (oPt 41 (oPr (oRd (eInt .i64)) (oSl 99 (oRd zA0)))) (x16.1,x16.2.2) []⟩] (⟨_,true,[1],some (.nul),false,fun A=>.rep zA8 A (x16.1,x16.2.2)⟩::⟨_,true,[0],some (.box w0.heap.size 41 zA8 (x16.1,x16.2.2)),false,fun A=>.any⟩::⟨_,true,[],none,true,fun A=>.raw (.bool true)⟩::[]) (by kernel_rfl) (by kernel_rfl) (Wf.mk' (by kernel_rfl) (UAll.cons zAn (UAll.cons zAG (UAll.cons zAA (UAll.nil)))) (by kernel_rfl) (by kernel_rfl)) hO hA ?_ ?_
    · exact
        zA9.cons (OblR.tookS 1 .nul _ rfl rfl rfl rfl rfl fun A' R' w' ho hd u S hok hown hav hin hop hds=>by have a0:R' 4=u11:=(ho.old 4 rfl).trans h4;exact zI0 hown.2 (a0.trans (hin _ rfl).1.symm) hav Try.isAgg41 Try.sizeOf41) <|
        zA9.cons (OblR.took 0 _ _ rfl rfl rfl rfl rfl fun A' R' w' ho hd u hok hav hin hop hds=>by have a0:R' 2=(.pointer (some ⟨b2_1,0,none⟩)):=(ho.old 2 rfl).trans h2;have a1:Rep zA8 A' w' (R' 15) (x16.1,x16.2.2):=hd 0 _ _ _ rfl rfl rfl rfl rfl;exact zBY a1 a0 (hin _ rfl) hok hav (FldS.id _) Try.sizeOf41 rfl) <|
        zA9.cons (OblR.plain rfl rfl rfl rfl fun A' R' w' ho hd=>by exact zA6 rfl) <|
        zA9.nil
    intro done ρ σ A R w hdn hI
    replace h2:R 2=(.pointer (some ⟨b2_1,0,none⟩)):=(hI.reg rfl).trans h2
    have z24:=hI.inivR 0 rfl
    have z25:=(hI.opnR hdn 3 1 rfl rfl rfl rfl rfl).trans z24
    have h3:R 3 = .bool true:=hI.fact hdn (i:=2) rfl rfl rfl
    replace hAA:=hI.low' hAA hA0 (hO.ge (⟨rfl,⟨fun _ h=>h,trivial⟩⟩))
    replace hF:Fr w0 w:=hF.tr hI.ch (hO.ge (⟨rfl,⟨fun _ h=>h,trivial⟩⟩))
    replace hO:IniOK [ob (.pointer (some ⟨b2_1,0,none⟩)) (.box w0.heap.size 41 zA8 (x16.1,x16.2.2))] A w:=hI.left hdn [(3,ob (.pointer (some ⟨b2_1,0,none⟩)) (.box w0.heap.size 41 zA8 (x16.1,x16.2.2)))] ⟨rfl,rfl,z25,rfl,rfl,trivial⟩
    replace hA:=hI.avok
    clear hI
    refine HT.ret ?_
    obtain rfl:=Option.some.inj hr
    obtain ⟨v_2,e_2,p_2⟩:=zHP (hO.ok 0 _ rfl).1 h2 Try.isAgg41 Try.sizeOf41 hAA
    exact ⟨.inr rfl,[v_2,R 3],⟨e_2,⟨rfl,trivial⟩⟩,⟨_,_,rfl,p_2,h3⟩,hF⟩
def zCL (fu:Nat) (p0:Int) (p1:Int) (p2:Int):Option Bool:=
  bd ((decide (p1≤p0))&&(decide (p0≤p2))) fun x1=>
  some x1
set_option maxRecDepth 100000 in
set_option maxHeartbeats 4000000 in
theorem zCz {fu : Nat} {A : Av} {p0 : Int} {p1 : Int} {p2 : Int} {r : Bool} (hr : zCL fu p0 p1 p2 = some r) {w : World} {v0 : Value} {v1 : Value} {v2 : Value} (hA : AvOK A w) (h0 : v0 = .int .i64 p0) (h1 : v1 = .int .i64 p1) (h2 : v2 = .int .i64 p2) :
    Calls Try.prog 60 #[v0,v1,v2] w fun e w'=>∃ v,e = .returned v∧(v = .bool r∧Fr w w'):=by
  unfold zCL at hr
  obtain ⟨w0,hw0⟩:∃ w0,w0=w:=⟨_,rfl⟩
  have hF:Fr w0 w:=hw0 ▸ Fr.refl _
  rw [show Fr w=Fr w0 from hw0 ▸ rfl]
  clear hw0
  refine zAI [.tmp 6] Try.func60 Try.ntmps60 (by decide) rfl rfl (Nat.le_of_ble_eq_true rfl) ?_
  intro R hR
  replace h0:R 0 = .int .i64 p0:=(hR 0 _ rfl).trans h0
  replace h1:R 1 = .int .i64 p1:=(hR 1 _ rfl).trans h1
  replace h2:R 2 = .int .i64 p2:=(hR 2 _ rfl).trans h2
  clear hR
  refine HT.seq ?_
  refine HT.text (l:=⟨_,true,.raw (.bool false)⟩::[]) (tl:=[]) (by kernel_rfl) (by kernel_rfl) (by kernel_rfl) ?_ ?_
  · exact
      Obls.cons (Obl.plain rfl rfl fun R' w' hw hs hd=>by exact zA6 rfl) <|
      Obls.nil
  intro R w hw hs hF'
  replace h0:R 0 = .int .i64 p0:=(hs 0 rfl).trans h0
  replace h1:R 1 = .int .i64 p1:=(hs 1 rfl).trans h1
  replace h2:R 2 = .int .i64 p2:=(hs 2 rfl).trans h2
  replace hA:=hA.fr hw.size
  replace hF:=hF.trans hw
  clear hs hF' hw
  refine zA4 ?_
  refine HT.seq ?_
  obtain ⟨x1,q2,hr⟩:=zC9 hr
  refine HT.text (l:=⟨_,true,.raw (.int .i64 p0)⟩::⟨_,true,.raw (.int .i64 p1)⟩::⟨_,true,.raw (.bool (decide (p1≤p0)))⟩::⟨_,true,.raw (.bool (decide (p1≤p0)))⟩::⟨_,(true&&((decide (p1≤p0))==true)),.raw (.int .i64 p0)⟩::⟨_,(true&&((decide (p1≤p0))==true)),.raw (.int .i64 p2)⟩::⟨_,(true&&((decide (p1≤p0))==true)),.raw (.bool (decide (p0≤p2)))⟩::⟨_,true,.raw (.bool x1)⟩::⟨_,true,.raw (.bool x1)⟩::[]) (tl:=[]) (by kernel_rfl) (by kernel_rfl) (by kernel_rfl) ?_ ?_
  · exact
      Obls.cons (Obl.plain rfl rfl fun R' w' hw hs hd=>by have a0:R' 0 = .int .i64 p0:=(hs 0 rfl).trans h0;exact zA5 a0) <|
      Obls.cons (Obl.plain rfl rfl fun R' w' hw hs hd=>by have a0:R' 1 = .int .i64 p1:=(hs 1 rfl).trans h1;exact zA5 a0) <|
      Obls.cons (Obl.plain rfl rfl fun R' w' hw hs hd=>by have a0:R' 7 = .int .i64 p0:=hd 0 _ _ _ rfl rfl rfl rfl rfl;have a1:R' 8 = .int .i64 p1:=hd 1 _ _ _ rfl rfl rfl rfl rfl;exact zHz a0 a1) <|
      Obls.cons (Obl.plain rfl rfl fun R' w' hw hs hd=>by have a0:R' 9 = .bool (decide (p1≤p0)):=hd 0 _ _ _ rfl rfl rfl rfl rfl;exact zA5 a0) <|
      Obls.cons (Obl.grd 3 true _ _ _ rfl rfl rfl rfl rfl (by kernel_rfl) fun hg R' w' hw hs hd=>by have a0:R' 0 = .int .i64 p0:=(hs 0 rfl).trans h0;exact zA5 a0) <|
      Obls.cons (Obl.grd 3 true _ _ _ rfl rfl rfl rfl rfl (by kernel_rfl) fun hg R' w' hw hs hd=>by have a0:R' 2 = .int .i64 p2:=(hs 2 rfl).trans h2;exact zA5 a0) <|
      Obls.cons (Obl.grd 3 true _ _ _ rfl rfl rfl rfl rfl (by kernel_rfl) fun hg R' w' hw hs hd=>by have a0:R' 11 = .int .i64 p0:=hd 0 _ _ _ rfl rfl rfl rfl hg;have a1:R' 12 = .int .i64 p2:=hd 1 _ _ _ rfl rfl rfl rfl hg;exact zKz a0 a1) <|
      Obls.cons (Obl.plain rfl rfl fun R' w' hw hs hd=>by have a0:R' 10 = .bool (decide (p1≤p0)):=hd 0 _ _ _ rfl rfl rfl rfl rfl;exact zCf (decide (p1≤p0)) a0 (fun hc=>by have a1:R' 13 = .bool (decide (p0≤p2)):=hd 1 _ _ _ rfl rfl rfl rfl (zEq rfl (zDd hc));show _=Value.bool x1;rw [q2,hc];exact a1) (fun hc=>by show _=Value.bool x1;rw [q2,hc];exact rfl)) <|
      Obls.cons (Obl.plain rfl rfl fun R' w' hw hs hd=>by have a0:R' 14 = .bool x1:=hd 0 _ _ _ rfl rfl rfl rfl rfl;exact zA6 a0) <|
      Obls.nil
  intro R w hw hs hF'
  have h6:R 6 = .bool x1:=hF' 8 _ _ rfl rfl rfl
  replace hA:=hA.fr hw.size
  replace hF:=hF.trans hw
  clear hs hF' hw
  refine zA4 ?_
  refine HT.ret ?_
  obtain rfl:=Option.some.inj hr
  exact ⟨.inr rfl,[R 6],⟨rfl,trivial⟩,h6,hF⟩
def zD0 (fu:Nat) (p0:Int):Option Bool:=
  cl true (zCL fu p0 (0:Int) (5:Int)) fun x1=>
  some x1
set_option maxRecDepth 100000 in
set_option maxHeartbeats 4000000 in
theorem zFO {fu : Nat} {A : Av} {p0 : Int} {r : Bool} (hr : zD0 fu p0 = some r) {w : World} {v0 : Value} (hA : AvOK A w) (h0 : v0 = .int .i64 p0) :
    Calls Try.prog 61 #[v0] w fun e w'=>∃ v,e = .returned v∧(v = .bool r∧Fr w w'):=by
  unfold zD0 at hr
  obtain ⟨w0,hw0⟩:∃ w0,w0=w:=⟨_,rfl⟩
  have hF:Fr w0 w:=hw0 ▸ Fr.refl _
  rw [show Fr w=Fr w0 from hw0 ▸ rfl]
  clear hw0
  refine zAI [.tmp 2] Try.func61 Try.ntmps61 (by decide) rfl rfl (Nat.le_of_ble_eq_true rfl) ?_
  intro R hR
  replace h0:R 0 = .int .i64 p0:=(hR 0 _ rfl).trans h0
  clear hR
  refine HT.seq ?_
  refine HT.text (l:=⟨_,true,.raw (.bool false)⟩::[]) (tl:=[]) (by kernel_rfl) (by kernel_rfl) (by kernel_rfl) ?_ ?_
  · exact
      Obls.cons (Obl.plain rfl rfl fun R' w' hw hs hd=>by exact zA6 rfl) <|
      Obls.nil
  intro R w hw hs hF'
  replace h0:R 0 = .int .i64 p0:=(hs 0 rfl).trans h0
  replace hA:=hA.fr hw.size
  replace hF:=hF.trans hw
  clear hs hF' hw
  refine zA4 ?_
  refine HT.seq ?_
  obtain ⟨x1,q2,hr⟩:=zAK hr
  refine HT.text (l:=⟨_,true,.raw (.int .i64 p0)⟩::⟨_,true,.raw (.bool x1)⟩::⟨_,true,.raw (.bool x1)⟩::[]) (tl:=[]) (by kernel_rfl) (by kernel_rfl) (by kernel_rfl) ?_ ?_
  · exact
      Obls.cons (Obl.plain rfl rfl fun R' w' hw hs hd=>by have a0:R' 0 = .int .i64 p0:=(hs 0 rfl).trans h0;exact zA5 a0) <|
      Obls.cons (Obl.plain rfl rfl fun R' w' hw hs hd=>by have a0:R' 3 = .int .i64 p0:=hd 0 _ _ _ rfl rfl rfl rfl rfl;exact zAl Try.call60 (zCz (q2 rfl) (hA.fr hw.size) a0 rfl rfl)) <|
      Obls.cons (Obl.plain rfl rfl fun R' w' hw hs hd=>by have a0:R' 4 = .bool x1:=hd 0 _ _ _ rfl rfl rfl rfl rfl;exact zA6 a0) <|
      Obls.nil
  intro R w hw hs hF'
  have h2:R 2 = .bool x1:=hF' 2 _ _ rfl rfl rfl
  replace hA:=hA.fr hw.size
  replace hF:=hF.trans hw
  clear hs hF' hw
  refine zA4 ?_
  refine HT.ret ?_
  obtain rfl:=Option.some.inj hr
  exact ⟨.inr rfl,[R 2],⟨rfl,trivial⟩,h2,hF⟩
def zCR (fu:Nat) (p0:Int):Option Bool:=
  cl true (zCL fu p0 (1:Int) (1000:Int)) fun x1=>
  some x1
set_option maxRecDepth 100000 in
set_option maxHeartbeats 4000000 in
theorem zEc {fu : Nat} {A : Av} {p0 : Int} {r : Bool} (hr : zCR fu p0 = some r) {w : World} {v0 : Value} (hA : AvOK A w) (h0 : v0 = .int .i64 p0) :
    Calls Try.prog 62 #[v0] w fun e w'=>∃ v,e = .returned v∧(v = .bool r∧Fr w w'):=by
  unfold zCR at hr
  obtain ⟨w0,hw0⟩:∃ w0,w0=w:=⟨_,rfl⟩
  have hF:Fr w0 w:=hw0 ▸ Fr.refl _
  rw [show Fr w=Fr w0 from hw0 ▸ rfl]
  clear hw0
  refine zAI [.tmp 2] Try.func62 Try.ntmps62 (by decide) rfl rfl (Nat.le_of_ble_eq_true rfl) ?_
  intro R hR
  replace h0:R 0 = .int .i64 p0:=(hR 0 _ rfl).trans h0
  clear hR
  refine HT.seq ?_
  refine HT.text (l:=⟨_,true,.raw (.bool false)⟩::[]) (tl:=[]) (by kernel_rfl) (by kernel_rfl) (by kernel_rfl) ?_ ?_
  · exact
      Obls.cons (Obl.plain rfl rfl fun R' w' hw hs hd=>by exact zA6 rfl) <|
      Obls.nil
  intro R w hw hs hF'
  replace h0:R 0 = .int .i64 p0:=(hs 0 rfl).trans h0
  replace hA:=hA.fr hw.size
  replace hF:=hF.trans hw
  clear hs hF' hw
  refine zA4 ?_
  refine HT.seq ?_
  obtain ⟨x1,q2,hr⟩:=zAK hr
  refine HT.text (l:=⟨_,true,.raw (.int .i64 p0)⟩::⟨_,true,.raw (.bool x1)⟩::⟨_,true,.raw (.bool x1)⟩::[]) (tl:=[]) (by kernel_rfl) (by kernel_rfl) (by kernel_rfl) ?_ ?_
  · exact
      Obls.cons (Obl.plain rfl rfl fun R' w' hw hs hd=>by have a0:R' 0 = .int .i64 p0:=(hs 0 rfl).trans h0;exact zA5 a0) <|
      Obls.cons (Obl.plain rfl rfl fun R' w' hw hs hd=>by have a0:R' 3 = .int .i64 p0:=hd 0 _ _ _ rfl rfl rfl rfl rfl;exact zAl Try.call60 (zCz (q2 rfl) (hA.fr hw.size) a0 rfl rfl)) <|
      Obls.cons (Obl.plain rfl rfl fun R' w' hw hs hd=>by have a0:R' 4 = .bool x1:=hd 0 _ _ _ rfl rfl rfl rfl rfl;exact zA6 a0) <|
      Obls.nil
  intro R w hw hs hF'
  have h2:R 2 = .bool x1:=hF' 2 _ _ rfl rfl rfl
  replace hA:=hA.fr hw.size
  replace hF:=hF.trans hw
  clear hs hF' hw
  refine zA4 ?_
  refine HT.ret ?_
  obtain rfl:=Option.some.inj hr
  exact ⟨.inr rfl,[R 2],⟨rfl,trivial⟩,h2,hF⟩
def zAx (fu : Nat) (p0 : zAH) (y6 : Int) : Nat → Int → Option (Ex Bool Unit)
  | 0,_=>none
  | k+1,y19=>
    bif (decide (y19 < ((gtD p0 y6).length : Int))) then (
      ck (inR y19 (gtD p0 y6).length) <|
      cl true (zD0 fu ((gtD (gtD p0 y6) y19).1)) fun x26=>
      cl (true&&((!x26)==false)) (zCR fu ((gtD (gtD p0 y6) y19).2.1)) fun x28=>
      bd ((!x26) || (!x28)) fun x30=>
      ck (!((true&&(x30==false))&&((decide ((0:Int)<y19))==true)) || i64B (y19-(1:Int))) <|
      ck (!((true&&(x30==false))&&((decide ((0:Int)<y19))==true)) || inR (y19-(1:Int)) (gtD p0 y6).length) <|
      bd ((decide ((0:Int)<y19))&&(decide (((gtD (gtD p0 y6) y19).1)≤((gtD (gtD p0 y6) (y19-(1:Int))).1)))) fun x34=>
      bd (x30 || x34) fun x36=>
      bif x36 then (
        some (Ex.ret false)
      ) else (
        ck (i64B (y19+(1:Int))) <|
        zAx fu p0 y6 k (y19+(1:Int))
      )
    ) else (
      some (Ex.go ())
    )
def zBD (fu : Nat) (p0 : zAH) : Nat → Int → Option (Ex Bool Unit)
  | 0,_=>none
  | k+1,y6=>
    bif (decide (y6 < (p0.length : Int))) then (
      ck (inR y6 p0.length) <|
      cl true (zCL fu ((gtD p0 y6).length:Int) (1:Int) (3:Int)) fun x12=>
      bif (!x12) then (
        some (Ex.ret false)
      ) else (
        cl true (zAx fu p0 y6 fu (0:Int)) fun rl16=>
        exM rl16 (fun r=>some (Ex.ret r)) fun s18=>
        ck (i64B (y6+(1:Int))) <|
        zBD fu p0 k (y6+(1:Int))
      )
    ) else (
      some (Ex.go ())
    )
def zBf (fu:Nat) (p0:zAH):Option Bool:=
  cl true (zBD fu p0 fu (0:Int)) fun rl3=>
  exM rl3 (fun r=>some r) fun s5=>
  cl true (zCL fu (p0.length:Int) (1:Int) (3:Int)) fun x41=>
  some x41
set_option maxRecDepth 100000 in
set_option maxHeartbeats 4000000 in
theorem zDM {fu : Nat} {A0 : Av} {p0 : zAH} {r : Bool} (hr : zBf fu p0 = some r) {w : World} {v0 : Value} (hA : AvOK A0 w) (h0 : Rep zA2 A0 w v0 p0) :
    Calls Try.prog 34 #[v0] w fun e w'=>∃ v,e = .returned v∧(v = .bool r∧Fr w w'):=by
  unfold zBf at hr
  obtain ⟨w0,hw0⟩:∃ w0,w0=w:=⟨_,rfl⟩
  have hF:Fr w0 w:=hw0 ▸ Fr.refl _
  have hA0:∀ b o,A0 b o→b<w0.heap.size:=fun b o h=>hw0 ▸ hA b o h
  have hA00:AvOK A0 w0:=hA0
  rw [show Fr w=Fr w0 from hw0 ▸ rfl]
  clear hw0
  obtain ⟨A,hAe⟩:∃ A,A=A0:=⟨_,rfl⟩
  have hAA:∀ b o,A0 b o→A b o:=fun b o h=>hAe ▸ h
  replace hA:AvOK A w:=hAe ▸ hA
  have hO:IniOK [] A w:=IniOK.nil
  refine zAI [.tmp 2] Try.func34 Try.ntmps34 (by decide) rfl rfl (Nat.le_of_ble_eq_true rfl) ?_
  intro R hR
  have f_v0:Rep zA2 A w v0 p0:=hAe ▸ h0
  replace h0:R 0=v0:=hR 0 _ rfl
  clear hR hAe
  refine HT.seq ?_
  refine HT.textR [] (⟨_,true,[],some (.box w0.heap.size 29 zA2 p0),true,fun A=>.any⟩::⟨_,true,[],none,true,fun A=>.raw (.bool false)⟩::[]) (by kernel_rfl) (by kernel_rfl) (Wf.mk' (by kernel_rfl) (UAll.cons zAG (UAll.cons zAA (UAll.nil))) (by kernel_rfl) (by kernel_rfl)) hO hA ?_ ?_
  · exact
      zA9.cons (OblR.made _ rfl rfl rfl rfl fun A' R' w' ho hd=>by have a0:R' 0=v0:=(ho.old 0 rfl).trans h0;have ra0:=(f_v0.stp ho.stp).eq a0;exact zB9 ra0 (Nat.le_trans hF.size ho.ch.size)) <|
      zA9.cons (OblR.plain rfl rfl rfl rfl fun A' R' w' ho hd=>by exact zA6 rfl) <|
      zA9.nil
  intro done ρ σ A R w hdn hI
  obtain ⟨b1_0,e_b1_0⟩:=hI.boxv hdn 0 rfl rfl
  have h1:R 1=(.pointer (some ⟨b1_0,0,none⟩)):=(hI.opvR hdn 0 0 rfl rfl rfl rfl rfl).symm.trans e_b1_0
  replace hAA:=hI.low' hAA hA0 (hO.ge (trivial))
  replace hF:Fr w0 w:=hF.tr hI.ch (hO.ge (trivial))
  replace hO:IniOK [ob (.pointer (some ⟨b1_0,0,none⟩)) (.box w0.heap.size 29 zA2 p0)] A w:=hI.left hdn [(0,ob (.pointer (some ⟨b1_0,0,none⟩)) (.box w0.heap.size 29 zA2 p0))] ⟨rfl,rfl,e_b1_0,rfl,rfl,trivial⟩
  replace hA:=hI.avok
  clear hI
  refine HT.seq ?_
  refine HT.seq ?_
  refine HT.text (l:=⟨_,true,.raw (.pointer (some ⟨b1_0,0,none⟩))⟩::⟨_,true,.rep (eSl zAC) A p0⟩::⟨_,true,.raw (.int .i64 (p0.length:Int))⟩::⟨_,true,.raw (.int .i64 (0:Int))⟩::[]) (tl:=[]) (by kernel_rfl) (by kernel_rfl) (by kernel_rfl) ?_ ?_
  · exact
      Obls.cons (Obl.plain rfl rfl fun R' w' hw hs hd=>by have a0:R' 1=(.pointer (some ⟨b1_0,0,none⟩)):=(hs 1 rfl).trans h1;exact zAB a0 zCl Try.sizeOf27 (by decide) rfl) <|
      Obls.cons (Obl.plain rfl rfl fun R' w' hw hs hd=>by have a0:R' 7=(.pointer (some ⟨b1_0,0,none⟩)):=hd 0 _ _ _ rfl rfl rfl rfl rfl;exact (zAD ((hO.fr hw).ok 0 _ rfl).1 a0 zAg rfl Try.isAgg27 Try.sizeOf27)) <|
      Obls.cons (Obl.plain rfl rfl fun R' w' hw hs hd=>by have a0:Rep (eSl zAC) A w' (R' 8) p0:=hd 0 _ _ _ rfl rfl rfl rfl rfl;exact zAd (aT:=#[]) a0 Try.underlying27) <|
      Obls.cons (Obl.plain rfl rfl fun R' w' hw hs hd=>by exact zA5 rfl) <|
      Obls.nil
  intro R w hw hs hF'
  replace h1:R 1=(.pointer (some ⟨b1_0,0,none⟩)):=(hs 1 rfl).trans h1
  obtain ⟨u2,h8,f_u2⟩:∃ u,R 8=u∧Rep (eSl zAC) A w u p0:=⟨_,rfl,hF' 1 _ _ rfl rfl rfl⟩
  have h9:R 9 = .int .i64 (p0.length:Int):=hF' 2 _ _ rfl rfl rfl
  have h10:R 10 = .int .i64 (0:Int):=hF' 3 _ _ rfl rfl rfl
  replace hO:=hO.fr hw
  replace hA:=hA.fr hw.size
  replace hF:=hF.trans hw
  clear hs hF' hw
  refine zA4 ?_
  obtain ⟨rl3,q4,hr⟩:=zAK hr
  replace q4:=q4 rfl
  refine HT.cut0 (fun R w=>∃ A:Av,∃ (s5:Unit),rl3=Ex.go s5∧AvOK A w∧Fr w0 w∧(∀ b o,A0 b o→A b o)∧IniOK [ob (.pointer (some ⟨b1_0,0,none⟩)) (.box w0.heap.size 29 zA2 p0)] A w∧R 1=(.pointer (some ⟨b1_0,0,none⟩))) ?_ ?_
  · refine HT.block ?_
    refine HT.loop (fun k R w=>∃ A:Av,∃ (y6:Int),zBD fu p0 k y6=some rl3∧AvOK A w∧Fr w0 w∧(∀ b o,A0 b o→A b o)∧IniOK [ob (.pointer (some ⟨b1_0,0,none⟩)) (.box w0.heap.size 29 zA2 p0)] A w∧R 1=(.pointer (some ⟨b1_0,0,none⟩))∧R 8=u2∧R 9 = .int .i64 (p0.length:Int)∧R 10 = .int .i64 y6∧Rep (eSl zAC) A w u2 p0) fu ⟨_,_,q4,hA,hF,hAA,hO,h1,h8,h9,h10,f_u2⟩ ?_
    have hr0:=hr;clear hr q4
    rintro k R w ⟨A,y6,hr,hA,hF,hAA,hO,h1,h8,h9,h10,f_u2⟩
    rcases k with _ | k
    · cases (show none=some _ from hr)
    rw [zBD] at hr
    refine HT.seq ?_
    refine HT.text (l:=⟨_,true,.raw (.bool (decide (y6<(p0.length:Int))))⟩::[]) (tl:=[]) (by kernel_rfl) (by kernel_rfl) (by kernel_rfl) ?_ ?_
    · exact
        Obls.cons (Obl.plain rfl rfl fun R' w' hw hs hd=>by have a0:R' 10 = .int .i64 y6:=(hs 10 rfl).trans h10;have a1:R' 9 = .int .i64 (p0.length:Int):=(hs 9 rfl).trans h9;exact zBI a0 a1) <|
        Obls.nil
    intro R w hw hs hF'
    replace h1:R 1=(.pointer (some ⟨b1_0,0,none⟩)):=(hs 1 rfl).trans h1
    replace h8:R 8=u2:=(hs 8 rfl).trans h8
    replace h9:R 9 = .int .i64 (p0.length:Int):=(hs 9 rfl).trans h9
    replace h10:R 10 = .int .i64 y6:=(hs 10 rfl).trans h10
    have h11:R 11 = .bool (decide (y6<(p0.length:Int))):=hF' 0 _ _ rfl rfl rfl
    replace f_u2:=f_u2.fr hw
    replace hO:=hO.fr hw
    replace hA:=hA.fr hw.size
    replace hF:=hF.trans hw
    clear hs hF' hw
    refine zA4 ?_
    refine HT.seq ?_
    refine HT.cond (decide (y6<(p0.length:Int))) h11 (fun c7=>?_) (fun c7=>?_)
    · have hr := zAq c7 hr
      refine HT.skip ?_
      refine HT.seq ?_
      refine HT.block ?_
      refine HT.seq ?_
      obtain ⟨e8,hr⟩:=zAF hr
      refine HT.textR [ob (.pointer (some ⟨b1_0,0,none⟩)) (.box w0.heap.size 29 zA2 p0)] (⟨_,true,[],none,true,fun A=>.qtr zAC A (gtD p0 y6)⟩::⟨_,true,[],none,true,fun A=>.rep zAC A (gtD p0 y6)⟩::⟨_,true,[],some (.box w0.heap.size 79 zAC ([]:List zA7)),true,fun A=>.any⟩::⟨_,true,[3],some (.box w0.heap.size 79 zAC (gtD p0 y6)),false,fun A=>.any⟩::[]) (by kernel_rfl) (by kernel_rfl) (Wf.mk' (by kernel_rfl) (UAll.cons zCI (UAll.cons zAn (UAll.cons zAG (UAll.cons zAG (UAll.nil))))) (by kernel_rfl) (by kernel_rfl)) hO hA ?_ ?_
      · exact
          zA9.cons (OblR.plain rfl rfl rfl rfl fun A' R' w' ho hd=>by have a0:R' 8=u2:=(ho.old 8 rfl).trans h8;have a1:R' 10 = .int .i64 y6:=(ho.old 10 rfl).trans h10;have ra0:=(f_u2.stp ho.stp).eq a0;exact zAN ra0 a1 Try.underlying27 Try.sizeOf79 e8) <|
          zA9.cons (OblR.plain rfl rfl rfl rfl fun A' R' w' ho hd=>by have a0:QRep zAC A' w' (R' 12) (gtD p0 y6):=hd 0 _ _ _ rfl rfl rfl rfl rfl;exact (zAv a0.ptr Try.isAgg79 Try.sizeOf79)) <|
          zA9.cons (OblR.made _ rfl rfl rfl rfl fun A' R' w' ho hd=>by exact zC5 Try.zeroValue79 (fun A w=>zE7) (Nat.le_trans hF.size ho.ch.size)) <|
          zA9.cons (OblR.took 3 _ _ rfl rfl rfl rfl rfl fun A' R' w' ho hd u hok hav hin hop hds=>by have a1:Rep zAC A' w' (R' 13) (gtD p0 y6):=hd 1 _ _ _ rfl rfl rfl rfl rfl;obtain ⟨b,hb,hB',hbx⟩:=hok;have hop':=hop _ _ rfl rfl rfl rfl;exact zBY a1 (hop'.symm.trans hb) hb ⟨b,hb,hB',hbx⟩ hav (FldS.id _) Try.sizeOf79 rfl) <|
          zA9.nil
      intro done ρ σ A R w hdn hI
      replace h1:R 1=(.pointer (some ⟨b1_0,0,none⟩)):=(hI.reg rfl).trans h1
      replace h8:R 8=u2:=(hI.reg rfl).trans h8
      replace h9:R 9 = .int .i64 (p0.length:Int):=(hI.reg rfl).trans h9
      replace h10:R 10 = .int .i64 y6:=(hI.reg rfl).trans h10
      have z9:=hI.inivR 0 rfl
      obtain ⟨b4_9,e_b4_9⟩:=hI.boxv hdn 4 rfl rfl
      have z11:=(hI.opnR hdn 4 3 rfl rfl rfl rfl rfl).symm.trans e_b4_9
      have h4:R 4=(.pointer (some ⟨b4_9,0,none⟩)):=(hI.opvR hdn 3 2 rfl rfl rfl rfl rfl).symm.trans z11
      replace f_u2:=f_u2.stp hI.stp
      replace hAA:=hI.low' hAA hA0 (hO.ge (⟨rfl,trivial⟩))
      replace hF:Fr w0 w:=hF.tr hI.ch (hO.ge (⟨rfl,trivial⟩))
      replace hO:IniOK [ob (.pointer (some ⟨b1_0,0,none⟩)) (.box w0.heap.size 29 zA2 p0),ob (.pointer (some ⟨b4_9,0,none⟩)) (.box w0.heap.size 79 zAC (gtD p0 y6))] A w:=hI.left hdn [(0,ob (.pointer (some ⟨b1_0,0,none⟩)) (.box w0.heap.size 29 zA2 p0)),(4,ob (.pointer (some ⟨b4_9,0,none⟩)) (.box w0.heap.size 79 zAC (gtD p0 y6)))] ⟨rfl,rfl,z9,rfl,rfl,⟨rfl,rfl,e_b4_9,rfl,rfl,trivial⟩⟩
      replace hA:=hI.avok
      clear hI
      refine HT.seq ?_
      refine HT.seq ?_
      obtain ⟨x12,q13,hr⟩:=zAK hr
      refine HT.text (l:=⟨_,true,.raw (.pointer (some ⟨b4_9,0,none⟩))⟩::⟨_,true,.rep (eSl zA1) A (gtD p0 y6)⟩::⟨_,true,.raw (.int .i64 ((gtD p0 y6).length:Int))⟩::⟨_,true,.raw (.bool x12)⟩::⟨_,true,.raw (.bool (!x12))⟩::[]) (tl:=[]) (by kernel_rfl) (by kernel_rfl) (by kernel_rfl) ?_ ?_
      · exact
          Obls.cons (Obl.plain rfl rfl fun R' w' hw hs hd=>by have a0:R' 4=(.pointer (some ⟨b4_9,0,none⟩)):=(hs 4 rfl).trans h4;exact zAB a0 zDV Try.sizeOf65 (by decide) rfl) <|
          Obls.cons (Obl.plain rfl rfl fun R' w' hw hs hd=>by have a0:R' 14=(.pointer (some ⟨b4_9,0,none⟩)):=hd 0 _ _ _ rfl rfl rfl rfl rfl;exact (zAD ((hO.fr hw).ok 1 _ rfl).1 a0 zBM rfl Try.isAgg65 Try.sizeOf65)) <|
          Obls.cons (Obl.plain rfl rfl fun R' w' hw hs hd=>by have a0:Rep (eSl zA1) A w' (R' 15) (gtD p0 y6):=hd 0 _ _ _ rfl rfl rfl rfl rfl;exact zAd (aT:=#[]) a0 Try.underlying65) <|
          Obls.cons (Obl.plain rfl rfl fun R' w' hw hs hd=>by have a0:R' 16 = .int .i64 ((gtD p0 y6).length:Int):=hd 0 _ _ _ rfl rfl rfl rfl rfl;exact zAl Try.call60 (zCz (q13 rfl) (hA.fr hw.size) a0 rfl rfl)) <|
          Obls.cons (Obl.plain rfl rfl fun R' w' hw hs hd=>by have a0:R' 17 = .bool x12:=hd 0 _ _ _ rfl rfl rfl rfl rfl;exact zD7 a0) <|
          Obls.nil
      intro R w hw hs hF'
      replace h1:R 1=(.pointer (some ⟨b1_0,0,none⟩)):=(hs 1 rfl).trans h1
      replace h4:R 4=(.pointer (some ⟨b4_9,0,none⟩)):=(hs 4 rfl).trans h4
      replace h8:R 8=u2:=(hs 8 rfl).trans h8
      replace h9:R 9 = .int .i64 (p0.length:Int):=(hs 9 rfl).trans h9
      replace h10:R 10 = .int .i64 y6:=(hs 10 rfl).trans h10
      have h18:R 18 = .bool (!x12):=hF' 4 _ _ rfl rfl rfl
      replace f_u2:=f_u2.fr hw
      replace hO:=hO.fr hw
      replace hA:=hA.fr hw.size
      replace hF:=hF.trans hw
      clear hs hF' hw
      refine zA4 ?_
      refine HT.cond (!x12) h18 (fun c14=>?_) (fun c14=>?_)
      · have hr := zAq c14 hr
        refine HT.seq ?_
        refine HT.text (l:=⟨_,true,.raw (.bool false)⟩::[]) (tl:=[]) (by kernel_rfl) (by kernel_rfl) (by kernel_rfl) ?_ ?_
        · exact
            Obls.cons (Obl.plain rfl rfl fun R' w' hw hs hd=>by exact zA6 rfl) <|
            Obls.nil
        intro R w hw hs hF'
        have h2:R 2 = .bool false:=hF' 0 _ _ rfl rfl rfl
        replace hO:=hO.fr hw
        replace hO:IniOK [] A w:=hO.sub [] trivial
        replace hA:=hA.fr hw.size
        replace hF:=hF.trans hw
        clear hs hF' hw
        refine zA4 ?_
        refine HT.ret ?_
        obtain rfl:=Option.some.inj hr
        have hr:=hr0
        replace hr:some _=some _:=hr
        obtain rfl:=Option.some.inj hr
        exact ⟨.inr rfl,[R 2],⟨rfl,trivial⟩,h2,hF⟩
      · have hr := zAp c14 hr
        refine HT.skip ?_
        refine HT.seq ?_
        refine HT.text (l:=⟨_,true,.raw (.pointer (some ⟨b4_9,0,none⟩))⟩::⟨_,true,.rep (eSl zA1) A (gtD p0 y6)⟩::⟨_,true,.raw (.int .i64 ((gtD p0 y6).length:Int))⟩::⟨_,true,.raw (.int .i64 (0:Int))⟩::[]) (tl:=[]) (by kernel_rfl) (by kernel_rfl) (by kernel_rfl) ?_ ?_
        · exact
            Obls.cons (Obl.plain rfl rfl fun R' w' hw hs hd=>by have a0:R' 4=(.pointer (some ⟨b4_9,0,none⟩)):=(hs 4 rfl).trans h4;exact zAB a0 zDV Try.sizeOf65 (by decide) rfl) <|
            Obls.cons (Obl.plain rfl rfl fun R' w' hw hs hd=>by have a0:R' 19=(.pointer (some ⟨b4_9,0,none⟩)):=hd 0 _ _ _ rfl rfl rfl rfl rfl;exact (zAD ((hO.fr hw).ok 1 _ rfl).1 a0 zBM rfl Try.isAgg65 Try.sizeOf65)) <|
            Obls.cons (Obl.plain rfl rfl fun R' w' hw hs hd=>by have a0:Rep (eSl zA1) A w' (R' 20) (gtD p0 y6):=hd 0 _ _ _ rfl rfl rfl rfl rfl;exact zAd (aT:=#[]) a0 Try.underlying65) <|
            Obls.cons (Obl.plain rfl rfl fun R' w' hw hs hd=>by exact zA5 rfl) <|
            Obls.nil
        intro R w hw hs hF'
        replace h1:R 1=(.pointer (some ⟨b1_0,0,none⟩)):=(hs 1 rfl).trans h1
        replace h4:R 4=(.pointer (some ⟨b4_9,0,none⟩)):=(hs 4 rfl).trans h4
        replace h8:R 8=u2:=(hs 8 rfl).trans h8
        replace h9:R 9 = .int .i64 (p0.length:Int):=(hs 9 rfl).trans h9
        replace h10:R 10 = .int .i64 y6:=(hs 10 rfl).trans h10
        obtain ⟨u15,h20,f_u15⟩:∃ u,R 20=u∧Rep (eSl zA1) A w u (gtD p0 y6):=⟨_,rfl,hF' 1 _ _ rfl rfl rfl⟩
        have h21:R 21 = .int .i64 ((gtD p0 y6).length:Int):=hF' 2 _ _ rfl rfl rfl
        have h22:R 22 = .int .i64 (0:Int):=hF' 3 _ _ rfl rfl rfl
        replace f_u2:=f_u2.fr hw
        replace hO:=hO.fr hw
        replace hA:=hA.fr hw.size
        replace hF:=hF.trans hw
        clear hs hF' hw
        refine zA4 ?_
        obtain ⟨rl16,q17,hr⟩:=zAK hr
        replace q17:=q17 rfl
        refine HT.cut0 (fun R w=>∃ A:Av,∃ (s18:Unit),rl16=Ex.go s18∧AvOK A w∧Fr w0 w∧(∀ b o,A0 b o→A b o)∧IniOK [ob (.pointer (some ⟨b1_0,0,none⟩)) (.box w0.heap.size 29 zA2 p0)] A w∧R 1=(.pointer (some ⟨b1_0,0,none⟩))∧R 8=u2∧R 9 = .int .i64 (p0.length:Int)∧R 10 = .int .i64 y6∧Rep (eSl zAC) A w u2 p0) ?_ ?_
        · refine HT.block ?_
          refine HT.loop (fun k R w=>∃ A:Av,∃ (y19:Int),zAx fu p0 y6 k y19=some rl16∧AvOK A w∧Fr w0 w∧(∀ b o,A0 b o→A b o)∧IniOK [ob (.pointer (some ⟨b1_0,0,none⟩)) (.box w0.heap.size 29 zA2 p0),ob (.pointer (some ⟨b4_9,0,none⟩)) (.box w0.heap.size 79 zAC (gtD p0 y6))] A w∧R 1=(.pointer (some ⟨b1_0,0,none⟩))∧R 4=(.pointer (some ⟨b4_9,0,none⟩))∧R 8=u2∧R 9 = .int .i64 (p0.length:Int)∧R 10 = .int .i64 y6∧R 20=u15∧R 21 = .int .i64 ((gtD p0 y6).length:Int)∧R 22 = .int .i64 y19∧Rep (eSl zA1) A w u15 (gtD p0 y6)∧Rep (eSl zAC) A w u2 p0) fu ⟨_,_,q17,hA,hF,hAA,hO,h1,h4,h8,h9,h10,h20,h21,h22,f_u15,f_u2⟩ ?_
          have hr1:=hr;clear hr q17
          rintro k R w ⟨A,y19,hr,hA,hF,hAA,hO,h1,h4,h8,h9,h10,h20,h21,h22,f_u15,f_u2⟩
          rcases k with _ | k
          · cases (show none=some _ from hr)
          rw [zAx] at hr
          refine HT.seq ?_
          refine HT.text (l:=⟨_,true,.raw (.bool (decide (y19<((gtD p0 y6).length:Int))))⟩::[]) (tl:=[]) (by kernel_rfl) (by kernel_rfl) (by kernel_rfl) ?_ ?_
          · exact
              Obls.cons (Obl.plain rfl rfl fun R' w' hw hs hd=>by have a0:R' 22 = .int .i64 y19:=(hs 22 rfl).trans h22;have a1:R' 21 = .int .i64 ((gtD p0 y6).length:Int):=(hs 21 rfl).trans h21;exact zBI a0 a1) <|
              Obls.nil
          intro R w hw hs hF'
          replace h1:R 1=(.pointer (some ⟨b1_0,0,none⟩)):=(hs 1 rfl).trans h1
          replace h4:R 4=(.pointer (some ⟨b4_9,0,none⟩)):=(hs 4 rfl).trans h4
          replace h8:R 8=u2:=(hs 8 rfl).trans h8
          replace h9:R 9 = .int .i64 (p0.length:Int):=(hs 9 rfl).trans h9
          replace h10:R 10 = .int .i64 y6:=(hs 10 rfl).trans h10
          replace h20:R 20=u15:=(hs 20 rfl).trans h20
          replace h21:R 21 = .int .i64 ((gtD p0 y6).length:Int):=(hs 21 rfl).trans h21
          replace h22:R 22 = .int .i64 y19:=(hs 22 rfl).trans h22
          have h23:R 23 = .bool (decide (y19<((gtD p0 y6).length:Int))):=hF' 0 _ _ rfl rfl rfl
          replace f_u15:=f_u15.fr hw
          replace f_u2:=f_u2.fr hw
          replace hO:=hO.fr hw
          replace hA:=hA.fr hw.size
          replace hF:=hF.trans hw
          clear hs hF' hw
          refine zA4 ?_
          refine HT.seq ?_
          refine HT.cond (decide (y19<((gtD p0 y6).length:Int))) h23 (fun c20=>?_) (fun c20=>?_)
          · have hr := zAq c20 hr
            refine HT.skip ?_
            refine HT.seq ?_
            refine HT.block ?_
            refine HT.seq ?_
            obtain ⟨e21,hr⟩:=zAF hr
            refine HT.textR [ob (.pointer (some ⟨b1_0,0,none⟩)) (.box w0.heap.size 29 zA2 p0),ob (.pointer (some ⟨b4_9,0,none⟩)) (.box w0.heap.size 79 zAC (gtD p0 y6))] (⟨_,true,[],none,true,fun A=>.raw (.int .i64 y19)⟩::⟨_,true,[],none,true,fun A=>.qtr zA1 A (gtD (gtD p0 y6) y19)⟩::⟨_,true,[],none,true,fun A=>.rep zA1 A (gtD (gtD p0 y6) y19)⟩::⟨_,true,[],some (.box w0.heap.size 82 zA1 ((0:Int),((0:Int),false))),true,fun A=>.any⟩::⟨_,true,[],none,true,fun A=>.raw (.int .i64 y19)⟩::⟨_,true,[5],some (.box w0.heap.size 82 zA1 (gtD (gtD p0 y6) y19)),false,fun A=>.any⟩::[]) (by kernel_rfl) (by kernel_rfl) (Wf.mk' (by kernel_rfl) (UAll.cons zAA (UAll.cons zCI (UAll.cons zAn (UAll.cons zAG (UAll.cons zAA (UAll.cons zAG (UAll.nil))))))) (by kernel_rfl) (by kernel_rfl)) hO hA ?_ ?_
            · exact
                zA9.cons (OblR.plain rfl rfl rfl rfl fun A' R' w' ho hd=>by have a0:R' 22 = .int .i64 y19:=(ho.old 22 rfl).trans h22;exact zA5 a0) <|
                zA9.cons (OblR.plain rfl rfl rfl rfl fun A' R' w' ho hd=>by have a0:R' 20=u15:=(ho.old 20 rfl).trans h20;have a1:R' 22 = .int .i64 y19:=(ho.old 22 rfl).trans h22;have ra0:=(f_u15.stp ho.stp).eq a0;exact zAN ra0 a1 Try.underlying65 Try.sizeOf82 e21) <|
                zA9.cons (OblR.plain rfl rfl rfl rfl fun A' R' w' ho hd=>by have a0:QRep zA1 A' w' (R' 25) (gtD (gtD p0 y6) y19):=hd 0 _ _ _ rfl rfl rfl rfl rfl;exact (zAv a0.ptr Try.isAgg82 Try.sizeOf82)) <|
                zA9.cons (OblR.made _ rfl rfl rfl rfl fun A' R' w' ho hd=>by exact zC5 Try.zeroValue82 (fun A w=>zBr zAe (zBr zAe zCr)) (Nat.le_trans hF.size ho.ch.size)) <|
                zA9.cons (OblR.plain rfl rfl rfl rfl fun A' R' w' ho hd=>by have a0:R' 24 = .int .i64 y19:=hd 0 _ _ _ rfl rfl rfl rfl rfl;exact zA6 a0) <|
                zA9.cons (OblR.took 5 _ _ rfl rfl rfl rfl rfl fun A' R' w' ho hd u hok hav hin hop hds=>by have a1:Rep zA1 A' w' (R' 26) (gtD (gtD p0 y6) y19):=hd 1 _ _ _ rfl rfl rfl rfl rfl;obtain ⟨b,hb,hB',hbx⟩:=hok;have hop':=hop _ _ rfl rfl rfl rfl;exact zBY a1 (hop'.symm.trans hb) hb ⟨b,hb,hB',hbx⟩ hav (FldS.id _) Try.sizeOf82 rfl) <|
                zA9.nil
            intro done ρ σ A R w hdn hI
            replace h1:R 1=(.pointer (some ⟨b1_0,0,none⟩)):=(hI.reg rfl).trans h1
            replace h4:R 4=(.pointer (some ⟨b4_9,0,none⟩)):=(hI.reg rfl).trans h4
            replace h8:R 8=u2:=(hI.reg rfl).trans h8
            replace h9:R 9 = .int .i64 (p0.length:Int):=(hI.reg rfl).trans h9
            replace h10:R 10 = .int .i64 y6:=(hI.reg rfl).trans h10
            replace h20:R 20=u15:=(hI.reg rfl).trans h20
            replace h21:R 21 = .int .i64 ((gtD p0 y6).length:Int):=(hI.reg rfl).trans h21
            replace h22:R 22 = .int .i64 y19:=(hI.reg rfl).trans h22
            have z22:=hI.inivR 0 rfl
            have z23:=hI.inivR 1 rfl
            obtain ⟨b6_23,e_b6_23⟩:=hI.boxv hdn 7 rfl rfl
            have z25:=(hI.opnR hdn 7 5 rfl rfl rfl rfl rfl).symm.trans e_b6_23
            have h6:R 6=(.pointer (some ⟨b6_23,0,none⟩)):=(hI.opvR hdn 5 3 rfl rfl rfl rfl rfl).symm.trans z25
            have h5:R 5 = .int .i64 y19:=hI.fact hdn (i:=4) rfl rfl rfl
            replace f_u15:=f_u15.stp hI.stp
            replace f_u2:=f_u2.stp hI.stp
            replace hAA:=hI.low' hAA hA0 (hO.ge (⟨rfl,⟨rfl,trivial⟩⟩))
            replace hF:Fr w0 w:=hF.tr hI.ch (hO.ge (⟨rfl,⟨rfl,trivial⟩⟩))
            replace hO:IniOK [ob (.pointer (some ⟨b1_0,0,none⟩)) (.box w0.heap.size 29 zA2 p0),ob (.pointer (some ⟨b4_9,0,none⟩)) (.box w0.heap.size 79 zAC (gtD p0 y6)),ob (.pointer (some ⟨b6_23,0,none⟩)) (.box w0.heap.size 82 zA1 (gtD (gtD p0 y6) y19))] A w:=hI.left hdn [(0,ob (.pointer (some ⟨b1_0,0,none⟩)) (.box w0.heap.size 29 zA2 p0)),(1,ob (.pointer (some ⟨b4_9,0,none⟩)) (.box w0.heap.size 79 zAC (gtD p0 y6))),(7,ob (.pointer (some ⟨b6_23,0,none⟩)) (.box w0.heap.size 82 zA1 (gtD (gtD p0 y6) y19)))] ⟨rfl,rfl,z22,rfl,rfl,⟨rfl,rfl,z23,rfl,rfl,⟨rfl,rfl,e_b6_23,rfl,rfl,trivial⟩⟩⟩
            replace hA:=hI.avok
            clear hI
            refine HT.seq ?_
            obtain ⟨x26,q27,hr⟩:=zAK hr
            obtain ⟨x28,q29,hr⟩:=zAK hr
            obtain ⟨x30,q31,hr⟩:=zC9 hr
            obtain ⟨e32,hr⟩:=zAF hr
            obtain ⟨e33,hr⟩:=zAF hr
            obtain ⟨x34,q35,hr⟩:=zC9 hr
            obtain ⟨x36,q37,hr⟩:=zC9 hr
            refine HT.draw (by kernel_rfl) (l:=⟨_,true,.raw (.pointer (some ⟨b6_23,0,none⟩))⟩::⟨_,true,.raw (.int .i64 ((gtD (gtD p0 y6) y19).1))⟩::⟨_,true,.raw (.bool x26)⟩::⟨_,true,.raw (.bool (!x26))⟩::⟨_,true,.raw (.bool (!x26))⟩::⟨_,(true&&((!x26)==false)),.raw (.pointer (some ⟨b6_23,1,none⟩))⟩::⟨_,(true&&((!x26)==false)),.raw (.int .i64 ((gtD (gtD p0 y6) y19).2.1))⟩::⟨_,(true&&((!x26)==false)),.raw (.bool x28)⟩::⟨_,(true&&((!x26)==false)),.raw (.bool (!x28))⟩::⟨_,true,.raw (.bool x30)⟩::⟨_,true,.raw (.bool x30)⟩::⟨_,(true&&(x30==false)),.raw (.int .i64 y19)⟩::⟨_,(true&&(x30==false)),.raw (.bool (decide ((0:Int)<y19)))⟩::⟨_,(true&&(x30==false)),.raw (.bool (decide ((0:Int)<y19)))⟩::⟨_,((true&&(x30==false))&&((decide ((0:Int)<y19))==true)),.raw (.pointer (some ⟨b4_9,0,none⟩))⟩::⟨_,((true&&(x30==false))&&((decide ((0:Int)<y19))==true)),.rep (eSl zA1) A (gtD p0 y6)⟩::⟨_,((true&&(x30==false))&&((decide ((0:Int)<y19))==true)),.raw (.int .i64 y19)⟩::⟨_,((true&&(x30==false))&&((decide ((0:Int)<y19))==true)),.raw (.int .i64 (y19-(1:Int)))⟩::⟨_,((true&&(x30==false))&&((decide ((0:Int)<y19))==true)),.qtr zA1 A (gtD (gtD p0 y6) (y19-(1:Int)))⟩::⟨_,((true&&(x30==false))&&((decide ((0:Int)<y19))==true)),.qtr (eInt .i64) A ((gtD (gtD p0 y6) (y19-(1:Int))).1)⟩::⟨_,((true&&(x30==false))&&((decide ((0:Int)<y19))==true)),.raw (.int .i64 ((gtD (gtD p0 y6) (y19-(1:Int))).1))⟩::⟨_,((true&&(x30==false))&&((decide ((0:Int)<y19))==true)),.raw (.pointer (some ⟨b6_23,0,none⟩))⟩::⟨_,((true&&(x30==false))&&((decide ((0:Int)<y19))==true)),.raw (.int .i64 ((gtD (gtD p0 y6) y19).1))⟩::⟨_,((true&&(x30==false))&&((decide ((0:Int)<y19))==true)),.raw (.bool (decide (((gtD (gtD p0 y6) y19).1)≤((gtD (gtD p0 y6) (y19-(1:Int))).1))))⟩::⟨_,(true&&(x30==false)),.raw (.bool x34)⟩::⟨_,true,.raw (.bool x36)⟩::[]) (tl:=[]) (by kernel_rfl) (by kernel_rfl) (by kernel_rfl) (by kernel_rfl) ?_ ?_
            · exact
                Obls.cons (Obl.plain rfl rfl fun R' w' hw hs hd=>by have a0:R' 6=(.pointer (some ⟨b6_23,0,none⟩)):=(hs 6 rfl).trans h6;exact zAB a0 zCS Try.sizeOf3 (by decide) rfl) <|
                Obls.cons (Obl.plain rfl rfl fun R' w' hw hs hd=>by have a0:R' 27=(.pointer (some ⟨b6_23,0,none⟩)):=hd 0 _ _ _ rfl rfl rfl rfl rfl;exact OpF.int (zAD ((hO.fr hw).ok 2 _ rfl).1 a0 zAz rfl Try.isAgg3 Try.sizeOf3)) <|
                Obls.cons (Obl.plain rfl rfl fun R' w' hw hs hd=>by have a0:R' 28 = .int .i64 ((gtD (gtD p0 y6) y19).1):=hd 0 _ _ _ rfl rfl rfl rfl rfl;exact zAl Try.call61 (zFO (q27 rfl) (hA.fr hw.size) a0)) <|
                Obls.cons (Obl.plain rfl rfl fun R' w' hw hs hd=>by have a0:R' 29 = .bool x26:=hd 0 _ _ _ rfl rfl rfl rfl rfl;exact zD7 a0) <|
                Obls.cons (Obl.plain rfl rfl fun R' w' hw hs hd=>by have a0:R' 30 = .bool (!x26):=hd 0 _ _ _ rfl rfl rfl rfl rfl;exact zA5 a0) <|
                Obls.cons (Obl.grd 4 false _ _ _ rfl rfl rfl rfl rfl (by kernel_rfl) fun hg R' w' hw hs hd=>by have a0:R' 6=(.pointer (some ⟨b6_23,0,none⟩)):=(hs 6 rfl).trans h6;exact zAB a0 zDX Try.sizeOf3 (by decide) rfl) <|
                Obls.cons (Obl.grd 4 false _ _ _ rfl rfl rfl rfl rfl (by kernel_rfl) fun hg R' w' hw hs hd=>by have a0:R' 32=(.pointer (some ⟨b6_23,1,none⟩)):=hd 0 _ _ _ rfl rfl rfl rfl hg;exact OpF.int (zAD ((hO.fr hw).ok 2 _ rfl).1 a0 zBH rfl Try.isAgg3 Try.sizeOf3)) <|
                Obls.cons (Obl.grd 4 false _ _ _ rfl rfl rfl rfl rfl (by kernel_rfl) fun hg R' w' hw hs hd=>by have a0:R' 33 = .int .i64 ((gtD (gtD p0 y6) y19).2.1):=hd 0 _ _ _ rfl rfl rfl rfl hg;exact zAl Try.call62 (zEc (q29 hg) (hA.fr hw.size) a0)) <|
                Obls.cons (Obl.grd 4 false _ _ _ rfl rfl rfl rfl rfl (by kernel_rfl) fun hg R' w' hw hs hd=>by have a0:R' 34 = .bool x28:=hd 0 _ _ _ rfl rfl rfl rfl hg;exact zD7 a0) <|
                Obls.cons (Obl.plain rfl rfl fun R' w' hw hs hd=>by have a0:R' 31 = .bool (!x26):=hd 0 _ _ _ rfl rfl rfl rfl rfl;exact zCf (!x26) a0 (fun hc=>by show _=Value.bool x30;rw [q31,hc];exact rfl) (fun hc=>by have a2:R' 35 = .bool (!x28):=hd 1 _ _ _ rfl rfl rfl rfl (zEq rfl (zDd hc));show _=Value.bool x30;rw [q31,hc];exact a2)) <|
                Obls.cons (Obl.plain rfl rfl fun R' w' hw hs hd=>by have a0:R' 36 = .bool x30:=hd 0 _ _ _ rfl rfl rfl rfl rfl;exact zA5 a0) <|
                Obls.cons (Obl.grd 10 false _ _ _ rfl rfl rfl rfl rfl (by kernel_rfl) fun hg R' w' hw hs hd=>by have a0:R' 5 = .int .i64 y19:=(hs 5 rfl).trans h5;exact zA5 a0) <|
                Obls.cons (Obl.grd 10 false _ _ _ rfl rfl rfl rfl rfl (by kernel_rfl) fun hg R' w' hw hs hd=>by have a0:R' 38 = .int .i64 y19:=hd 0 _ _ _ rfl rfl rfl rfl hg;exact zJq a0 rfl) <|
                Obls.cons (Obl.grd 10 false _ _ _ rfl rfl rfl rfl rfl (by kernel_rfl) fun hg R' w' hw hs hd=>by have a0:R' 39 = .bool (decide ((0:Int)<y19)):=hd 0 _ _ _ rfl rfl rfl rfl hg;exact zA5 a0) <|
                Obls.cons (Obl.grd 13 true _ _ _ rfl rfl rfl rfl rfl (by kernel_rfl) fun hg R' w' hw hs hd=>by have a0:R' 4=(.pointer (some ⟨b4_9,0,none⟩)):=(hs 4 rfl).trans h4;exact zAB a0 zDV Try.sizeOf65 (by decide) rfl) <|
                Obls.cons (Obl.grd 13 true _ _ _ rfl rfl rfl rfl rfl (by kernel_rfl) fun hg R' w' hw hs hd=>by have a0:R' 41=(.pointer (some ⟨b4_9,0,none⟩)):=hd 0 _ _ _ rfl rfl rfl rfl hg;exact (zAD ((hO.fr hw).ok 1 _ rfl).1 a0 zBM rfl Try.isAgg65 Try.sizeOf65)) <|
                Obls.cons (Obl.grd 13 true _ _ _ rfl rfl rfl rfl rfl (by kernel_rfl) fun hg R' w' hw hs hd=>by have a0:R' 5 = .int .i64 y19:=(hs 5 rfl).trans h5;exact zA5 a0) <|
                Obls.cons (Obl.grd 13 true _ _ _ rfl rfl rfl rfl rfl (by kernel_rfl) fun hg R' w' hw hs hd=>by have a0:R' 43 = .int .i64 y19:=hd 0 _ _ _ rfl rfl rfl rfl hg;exact zGv a0 rfl (gd e32 hg)) <|
                Obls.cons (Obl.grd 13 true _ _ _ rfl rfl rfl rfl rfl (by kernel_rfl) fun hg R' w' hw hs hd=>by have a0:Rep (eSl zA1) A w' (R' 42) (gtD p0 y6):=hd 0 _ _ _ rfl rfl rfl rfl hg;have a1:R' 44 = .int .i64 (y19-(1:Int)):=hd 1 _ _ _ rfl rfl rfl rfl hg;exact zAN a0 a1 Try.underlying65 Try.sizeOf82 (gd e33 hg)) <|
                Obls.cons (Obl.grd 13 true _ _ _ rfl rfl rfl rfl rfl (by kernel_rfl) fun hg R' w' hw hs hd=>by have a0:QRep zA1 A w' (R' 45) (gtD (gtD p0 y6) (y19-(1:Int))):=hd 0 _ _ _ rfl rfl rfl rfl hg;exact zAc a0 zCS Try.sizeOf3 (by decide) zAz rfl) <|
                Obls.cons (Obl.grd 13 true _ _ _ rfl rfl rfl rfl rfl (by kernel_rfl) fun hg R' w' hw hs hd=>by have a0:QRep (eInt .i64) A w' (R' 46) ((gtD (gtD p0 y6) (y19-(1:Int))).1):=hd 0 _ _ _ rfl rfl rfl rfl hg;exact OpF.int (zAv a0.ptr Try.isAgg3 Try.sizeOf3)) <|
                Obls.cons (Obl.grd 13 true _ _ _ rfl rfl rfl rfl rfl (by kernel_rfl) fun hg R' w' hw hs hd=>by have a0:R' 6=(.pointer (some ⟨b6_23,0,none⟩)):=(hs 6 rfl).trans h6;exact zAB a0 zCS Try.sizeOf3 (by decide) rfl) <|
                Obls.cons (Obl.grd 13 true _ _ _ rfl rfl rfl rfl rfl (by kernel_rfl) fun hg R' w' hw hs hd=>by have a0:R' 48=(.pointer (some ⟨b6_23,0,none⟩)):=hd 0 _ _ _ rfl rfl rfl rfl hg;exact OpF.int (zAD ((hO.fr hw).ok 2 _ rfl).1 a0 zAz rfl Try.isAgg3 Try.sizeOf3)) <|
                Obls.cons (Obl.grd 13 true _ _ _ rfl rfl rfl rfl rfl (by kernel_rfl) fun hg R' w' hw hs hd=>by have a0:R' 47 = .int .i64 ((gtD (gtD p0 y6) (y19-(1:Int))).1):=hd 0 _ _ _ rfl rfl rfl rfl hg;have a1:R' 49 = .int .i64 ((gtD (gtD p0 y6) y19).1):=hd 1 _ _ _ rfl rfl rfl rfl hg;exact zHz a0 a1) <|
                Obls.cons (Obl.grd 10 false _ _ _ rfl rfl rfl rfl rfl (by kernel_rfl) fun hg R' w' hw hs hd=>by have a0:R' 40 = .bool (decide ((0:Int)<y19)):=hd 0 _ _ _ rfl rfl rfl rfl hg;exact zCf (decide ((0:Int)<y19)) a0 (fun hc=>by have a1:R' 50 = .bool (decide (((gtD (gtD p0 y6) y19).1)≤((gtD (gtD p0 y6) (y19-(1:Int))).1))):=hd 1 _ _ _ rfl rfl rfl rfl (zEq hg (zDd hc));show _=Value.bool x34;rw [q35,hc];exact a1) (fun hc=>by show _=Value.bool x34;rw [q35,hc];exact rfl)) <|
                Obls.cons (Obl.plain rfl rfl fun R' w' hw hs hd=>by have a0:R' 37 = .bool x30:=hd 0 _ _ _ rfl rfl rfl rfl rfl;exact zCf x30 a0 (fun hc=>by show _=Value.bool x36;rw [q37,hc];exact rfl) (fun hc=>by have a2:R' 51 = .bool x34:=hd 1 _ _ _ rfl rfl rfl rfl (zEq rfl (zDd hc));show _=Value.bool x36;rw [q37,hc];exact a2)) <|
                Obls.nil
            intro R w hw hs hF'
            replace h1:R 1=(.pointer (some ⟨b1_0,0,none⟩)):=(hs 1 rfl).trans h1
            replace h4:R 4=(.pointer (some ⟨b4_9,0,none⟩)):=(hs 4 rfl).trans h4
            replace h8:R 8=u2:=(hs 8 rfl).trans h8
            replace h9:R 9 = .int .i64 (p0.length:Int):=(hs 9 rfl).trans h9
            replace h10:R 10 = .int .i64 y6:=(hs 10 rfl).trans h10
            replace h20:R 20=u15:=(hs 20 rfl).trans h20
            replace h21:R 21 = .int .i64 ((gtD p0 y6).length:Int):=(hs 21 rfl).trans h21
            replace h22:R 22 = .int .i64 y19:=(hs 22 rfl).trans h22
            have h52:R 52 = .bool x36:=hF' 25 _ _ rfl rfl rfl
            replace f_u15:=f_u15.fr hw
            replace f_u2:=f_u2.fr hw
            replace hO:=hO.fr hw
            replace hO:IniOK [ob (.pointer (some ⟨b1_0,0,none⟩)) (.box w0.heap.size 29 zA2 p0),ob (.pointer (some ⟨b4_9,0,none⟩)) (.box w0.heap.size 79 zAC (gtD p0 y6))] A w:=hO.sub [(0,ob (.pointer (some ⟨b1_0,0,none⟩)) (.box w0.heap.size 29 zA2 p0)),(1,ob (.pointer (some ⟨b4_9,0,none⟩)) (.box w0.heap.size 79 zAC (gtD p0 y6)))] ⟨rfl,rfl,⟨rfl,rfl,trivial⟩⟩
            replace hA:=hA.fr hw.size
            replace hF:=hF.trans hw
            clear hs hF' hw
            refine zA4 ?_
            refine HT.cond x36 h52 (fun c38=>?_) (fun c38=>?_)
            · have hr := zAq c38 hr
              refine HT.seq ?_
              refine HT.text (l:=⟨_,true,.raw (.bool false)⟩::[]) (tl:=[]) (by kernel_rfl) (by kernel_rfl) (by kernel_rfl) ?_ ?_
              · exact
                  Obls.cons (Obl.plain rfl rfl fun R' w' hw hs hd=>by exact zA6 rfl) <|
                  Obls.nil
              intro R w hw hs hF'
              have h2:R 2 = .bool false:=hF' 0 _ _ rfl rfl rfl
              replace hO:=hO.fr hw
              replace hO:IniOK [] A w:=hO.sub [] trivial
              replace hA:=hA.fr hw.size
              replace hF:=hF.trans hw
              clear hs hF' hw
              refine zA4 ?_
              refine HT.ret ?_
              obtain rfl:=Option.some.inj hr
              have hr:=hr1
              replace hr:some _=some _:=hr
              obtain rfl:=Option.some.inj hr
              have hr:=hr0
              replace hr:some _=some _:=hr
              obtain rfl:=Option.some.inj hr
              exact ⟨.inr rfl,[R 2],⟨rfl,trivial⟩,h2,hF⟩
            · have hr := zAp c38 hr
              refine HT.skip ?_
              obtain ⟨e39,hr⟩:=zAF hr
              refine HT.text (l:=⟨_,true,.raw (.int .i64 (y19+(1:Int)))⟩::⟨_,true,.raw (.int .i64 (y19+(1:Int)))⟩::[]) (tl:=[]) (by kernel_rfl) (by kernel_rfl) (by kernel_rfl) ?_ ?_
              · exact
                  Obls.cons (Obl.plain rfl rfl fun R' w' hw hs hd=>by have a0:R' 22 = .int .i64 y19:=(hs 22 rfl).trans h22;exact zB8 a0 rfl e39) <|
                  Obls.cons (Obl.plain rfl rfl fun R' w' hw hs hd=>by have a0:R' 53 = .int .i64 (y19+(1:Int)):=hd 0 _ _ _ rfl rfl rfl rfl rfl;exact zA5 a0) <|
                  Obls.nil
              intro R w hw hs hF'
              replace h1:R 1=(.pointer (some ⟨b1_0,0,none⟩)):=(hs 1 rfl).trans h1
              replace h4:R 4=(.pointer (some ⟨b4_9,0,none⟩)):=(hs 4 rfl).trans h4
              replace h8:R 8=u2:=(hs 8 rfl).trans h8
              replace h9:R 9 = .int .i64 (p0.length:Int):=(hs 9 rfl).trans h9
              replace h10:R 10 = .int .i64 y6:=(hs 10 rfl).trans h10
              replace h20:R 20=u15:=(hs 20 rfl).trans h20
              replace h21:R 21 = .int .i64 ((gtD p0 y6).length:Int):=(hs 21 rfl).trans h21
              have h22:R 22 = .int .i64 (y19+(1:Int)):=hF' 1 _ _ rfl rfl rfl
              replace f_u15:=f_u15.fr hw
              replace f_u2:=f_u2.fr hw
              replace hO:=hO.fr hw
              replace hA:=hA.fr hw.size
              replace hF:=hF.trans hw
              clear hs hF' hw
              refine zA4 ?_
              exact Exists.intro k (And.intro (Nat.lt_succ_self k) ⟨_,_,hr,hA,hF,hAA,hO,h1,h4,h8,h9,h10,h20,h21,h22,f_u15,f_u2⟩)
          · have hr := zAp c20 hr
            refine HT.exit ?_
            obtain rfl:=Option.some.inj hr
            replace hO:IniOK [ob (.pointer (some ⟨b1_0,0,none⟩)) (.box w0.heap.size 29 zA2 p0)] A w:=hO.sub [(0,ob (.pointer (some ⟨b1_0,0,none⟩)) (.box w0.heap.size 29 zA2 p0))] ⟨rfl,rfl,trivial⟩
            exact Exists.intro _ ⟨_,rfl,hA,hF,hAA,hO,h1,h8,h9,h10,f_u2⟩
        rintro R w ⟨A,s18,rfl,hA,hF,hAA,hO,h1,h8,h9,h10,f_u2⟩
        have hr:=zDj hr
        obtain ⟨e40,hr⟩:=zAF hr
        refine HT.text (l:=⟨_,true,.raw (.int .i64 (y6+(1:Int)))⟩::⟨_,true,.raw (.int .i64 (y6+(1:Int)))⟩::[]) (tl:=[]) (by kernel_rfl) (by kernel_rfl) (by kernel_rfl) ?_ ?_
        · exact
            Obls.cons (Obl.plain rfl rfl fun R' w' hw hs hd=>by have a0:R' 10 = .int .i64 y6:=(hs 10 rfl).trans h10;exact zB8 a0 rfl e40) <|
            Obls.cons (Obl.plain rfl rfl fun R' w' hw hs hd=>by have a0:R' 54 = .int .i64 (y6+(1:Int)):=hd 0 _ _ _ rfl rfl rfl rfl rfl;exact zA5 a0) <|
            Obls.nil
        intro R w hw hs hF'
        replace h1:R 1=(.pointer (some ⟨b1_0,0,none⟩)):=(hs 1 rfl).trans h1
        replace h8:R 8=u2:=(hs 8 rfl).trans h8
        replace h9:R 9 = .int .i64 (p0.length:Int):=(hs 9 rfl).trans h9
        have h10:R 10 = .int .i64 (y6+(1:Int)):=hF' 1 _ _ rfl rfl rfl
        replace f_u2:=f_u2.fr hw
        replace hO:=hO.fr hw
        replace hA:=hA.fr hw.size
        replace hF:=hF.trans hw
        clear hs hF' hw
        refine zA4 ?_
        exact Exists.intro k (And.intro (Nat.lt_succ_self k) ⟨_,_,hr,hA,hF,hAA,hO,h1,h8,h9,h10,f_u2⟩)
    · have hr := zAp c7 hr
      refine HT.exit ?_
      obtain rfl:=Option.some.inj hr
      exact Exists.intro _ ⟨_,rfl,hA,hF,hAA,hO,h1⟩
  rintro R w ⟨A,s5,rfl,hA,hF,hAA,hO,h1⟩
  have hr:=zDj hr
  refine HT.seq ?_
  obtain ⟨x41,q42,hr⟩:=zAK hr
  refine HT.text (l:=⟨_,true,.raw (.pointer (some ⟨b1_0,0,none⟩))⟩::⟨_,true,.rep (eSl zAC) A p0⟩::⟨_,true,.raw (.int .i64 (p0.length:Int))⟩::⟨_,true,.raw (.bool x41)⟩::⟨_,true,.raw (.bool x41)⟩::[]) (tl:=[]) (by kernel_rfl) (by kernel_rfl) (by kernel_rfl) ?_ ?_
  · exact
      Obls.cons (Obl.plain rfl rfl fun R' w' hw hs hd=>by have a0:R' 1=(.pointer (some ⟨b1_0,0,none⟩)):=(hs 1 rfl).trans h1;exact zAB a0 zCl Try.sizeOf27 (by decide) rfl) <|
      Obls.cons (Obl.plain rfl rfl fun R' w' hw hs hd=>by have a0:R' 55=(.pointer (some ⟨b1_0,0,none⟩)):=hd 0 _ _ _ rfl rfl rfl rfl rfl;exact (zAD ((hO.fr hw).ok 0 _ rfl).1 a0 zAg rfl Try.isAgg27 Try.sizeOf27)) <|
      Obls.cons (Obl.plain rfl rfl fun R' w' hw hs hd=>by have a0:Rep (eSl zAC) A w' (R' 56) p0:=hd 0 _ _ _ rfl rfl rfl rfl rfl;exact zAd (aT:=#[]) a0 Try.underlying27) <|
      Obls.cons (Obl.plain rfl rfl fun R' w' hw hs hd=>by have a0:R' 57 = .int .i64 (p0.length:Int):=hd 0 _ _ _ rfl rfl rfl rfl rfl;exact zAl Try.call60 (zCz (q42 rfl) (hA.fr hw.size) a0 rfl rfl)) <|
      Obls.cons (Obl.plain rfl rfl fun R' w' hw hs hd=>by have a0:R' 58 = .bool x41:=hd 0 _ _ _ rfl rfl rfl rfl rfl;exact zA6 a0) <|
      Obls.nil
  intro R w hw hs hF'
  have h2:R 2 = .bool x41:=hF' 4 _ _ rfl rfl rfl
  replace hO:=hO.fr hw
  replace hO:IniOK [] A w:=hO.sub [] trivial
  replace hA:=hA.fr hw.size
  replace hF:=hF.trans hw
  clear hs hF' hw
  refine zA4 ?_
  refine HT.ret ?_
  obtain rfl:=Option.some.inj hr
  exact ⟨.inr rfl,[R 2],⟨rfl,trivial⟩,h2,hF⟩
end Go.Proofs.Ytmkgocdgkdglnaa
